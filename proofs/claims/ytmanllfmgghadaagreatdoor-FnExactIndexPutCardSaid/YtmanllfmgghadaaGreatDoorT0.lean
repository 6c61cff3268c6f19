/- The tables of the seat, by program: types, how functions are called, what lives at loops. -/
import Derived.Test.YtmanllfmgghadaaGreatDoorL3
import Derived.Test.YtmanllfmgghadaaGreatDoorL4
import Derived.Test.YtmanllfmgghadaaGreatDoorL5
import Derived.Test.YtmanllfmgghadaaGreatDoorL6
import Derived.Test.YtmanllfmgghadaaGreatDoorChecked
set_option linter.unusedVariables false
set_option linter.unusedSimpArgs false
set_option maxRecDepth 100000
namespace Go.Proofs.YtmanllfmgghadaaGreatDoor.PVE
open PV
noncomputable def tab : Tab := ⟨Tryz.prog, fun g => if g = 0 then some ([.sl ([[97], [97, 110], [97, 110, 100], [111, 102], [116, 104, 101], [116, 111]].map PV.str)]) else if g = 1 then some ([PV.ifc]) else if g = 2 then some ([PV.ifc]) else if g = 4 then some (Lib.pow10Tab.map (PV.int .u64)) else none,
  [(6, ⟨[0, 0], false, false⟩), (7, ⟨[0, 0], false, false⟩), (10, ⟨[0, 0], false, false⟩), (12, ⟨[0], false, false⟩), (13, ⟨[0], false, false⟩), (16, ⟨[0, 0], false, false⟩), (17, ⟨[0, 0], false, false⟩), (18, ⟨[1, 0], false, false⟩), (19, ⟨[1, 0], false, false⟩), (24, ⟨[0, 0], false, false⟩), (31, ⟨[0, 0], true, true⟩), (32, ⟨[0, 0], false, false⟩), (33, ⟨[0, 0], false, false⟩), (34, ⟨[0, 0], false, false⟩), (35, ⟨[0, 0], true, true⟩), (36, ⟨[0], false, false⟩), (37, ⟨[0, 0], false, false⟩), (38, ⟨[0, 0], false, false⟩), (39, ⟨[1, 0], false, false⟩), (50, ⟨[0, 0], false, false⟩), (51, ⟨[0, 0], false, false⟩), (52, ⟨[0, 0], false, false⟩), (53, ⟨[0], false, false⟩), (55, ⟨[0], false, false⟩), (56, ⟨[0], false, false⟩), (57, ⟨[0], false, false⟩), (58, ⟨[0], false, false⟩), (60, ⟨[0, 0], false, false⟩), (61, ⟨[0, 0], false, false⟩), (62, ⟨[0, 0], false, false⟩), (63, ⟨[1, 0], false, false⟩), (64, ⟨[1, 0], false, false⟩), (65, ⟨[1, 0], false, false⟩), (66, ⟨[0], false, false⟩), (67, ⟨[0, 0], false, false⟩), (68, ⟨[0, 0], false, false⟩), (82, ⟨[0, 0], false, true⟩), (83, ⟨[0, 0, 0], false, false⟩), (84, ⟨[0], false, false⟩), (85, ⟨[0, 0, 0], false, false⟩), (86, ⟨[0, 0], false, true⟩), (87, ⟨[0, 0], false, false⟩), (88, ⟨[0, 0], false, false⟩), (89, ⟨[0, 0], false, false⟩), (90, ⟨[0, 0], false, false⟩), (91, ⟨[0, 0], false, false⟩), (92, ⟨[0], false, false⟩), (93, ⟨[0], false, false⟩), (94, ⟨[0, 0], false, false⟩), (95, ⟨[0, 0], false, false⟩), (96, ⟨[1, 0], false, false⟩), (111, ⟨[0, 0], false, false⟩), (112, ⟨[0, 0], false, false⟩), (113, ⟨[0, 0], false, false⟩), (114, ⟨[0, 0, 0], false, false⟩), (115, ⟨[0], false, false⟩), (116, ⟨[0, 0], false, false⟩), (117, ⟨[0, 0], false, false⟩), (118, ⟨[0], false, false⟩), (119, ⟨[0], false, false⟩), (120, ⟨[0], false, false⟩), (121, ⟨[0], false, false⟩), (122, ⟨[0, 0, 0], false, false⟩), (123, ⟨[0, 0, 0], false, false⟩), (124, ⟨[0, 0], false, false⟩), (125, ⟨[0, 0], false, false⟩), (127, ⟨[0, 0], false, false⟩), (128, ⟨[0, 0], false, false⟩), (129, ⟨[0, 0], false, false⟩), (130, ⟨[1, 0], false, false⟩), (131, ⟨[0, 0], false, false⟩), (132, ⟨[0, 0], false, false⟩), (139, ⟨[0], false, false⟩), (140, ⟨[0, 0], false, false⟩), (141, ⟨[0, 0], false, false⟩), (142, ⟨[0, 0], false, false⟩), (143, ⟨[0, 0], false, false⟩), (144, ⟨[0, 0], false, false⟩), (145, ⟨[0], false, false⟩), (146, ⟨[0], false, false⟩), (147, ⟨[0], false, false⟩), (148, ⟨[0, 0], false, false⟩), (149, ⟨[0], false, false⟩), (150, ⟨[0], false, false⟩), (151, ⟨[0, 0], false, false⟩), (167, ⟨[0], false, false⟩), (169, ⟨[0], false, false⟩), (171, ⟨[0], false, false⟩), (174, ⟨[0, 0], false, false⟩), (175, ⟨[0], false, false⟩), (176, ⟨[0, 0], false, false⟩), (177, ⟨[0, 2, 0], false, false⟩), (178, ⟨[0], false, false⟩), (179, ⟨[0, 0], false, false⟩), (180, ⟨[0], false, false⟩), (181, ⟨[1, 0], false, false⟩), (182, ⟨[0, 0], false, false⟩), (183, ⟨[0], false, false⟩), (184, ⟨[0, 0], false, false⟩), (185, ⟨[0, 0, 0], false, false⟩), (186, ⟨[0, 0], false, false⟩), (187, ⟨[0, 0], false, false⟩), (188, ⟨[0, 0, 0], false, false⟩), (197, ⟨[0], false, false⟩), (198, ⟨[0], false, false⟩), (199, ⟨[0], false, false⟩), (200, ⟨[0], false, false⟩), (202, ⟨[0, 0], true, true⟩), (206, ⟨[0], false, false⟩), (209, ⟨[0], false, false⟩), (214, ⟨[0], false, false⟩), (215, ⟨[0], false, false⟩), (216, ⟨[0], false, false⟩), (218, ⟨[0], false, false⟩), (219, ⟨[0], false, false⟩), (220, ⟨[0, 0], false, false⟩), (221, ⟨[0], false, false⟩), (222, ⟨[2, 0, 0, 0, 0], false, false⟩), (223, ⟨[0], false, false⟩), (224, ⟨[0, 0], false, false⟩), (225, ⟨[0], false, false⟩), (228, ⟨[0], false, false⟩), (229, ⟨[0, 0], false, false⟩), (230, ⟨[0, 0], false, false⟩), (238, ⟨[0], false, false⟩), (239, ⟨[0, 0, 0], false, false⟩), (240, ⟨[2, 0], false, false⟩), (241, ⟨[0, 0], false, false⟩), (244, ⟨[0, 0, 0, 0], true, true⟩), (245, ⟨[0], false, false⟩), (250, ⟨[0], false, false⟩), (251, ⟨[0], false, false⟩), (252, ⟨[0, 0], false, false⟩), (253, ⟨[0, 0, 0], false, false⟩), (276, ⟨[0, 0], false, false⟩), (277, ⟨[0, 0], false, false⟩), (278, ⟨[0, 0], false, false⟩), (279, ⟨[0, 0], false, false⟩), (295, ⟨[0], false, false⟩), (296, ⟨[0], false, false⟩), (318, ⟨[0], false, false⟩)],
  [(13, [(0, [0, 3, 4]), (1, [3])]), (17, [(0, [0, 1, 5]), (1, [])]), (19, [(0, [0, 1, 5, 1000000]), (1, [1, 1000000])]), (24, [(0, [0, 1, 5]), (1, [1])]), (50, [(0, [0, 1, 5]), (1, [1])]), (51, [(0, [0, 1, 5]), (1, [1])]), (52, [(0, [0, 1, 5]), (1, [1])]), (53, [(0, [1, 3]), (1, [1])]), (55, [(0, [0, 3, 4]), (1, [3])]), (56, [(0, [0, 3, 4]), (1, [3])]), (57, [(0, [0, 3, 4]), (1, [3])]), (58, [(0, [1, 22, 23, 24]), (1, [1])]), (60, [(0, [0, 1, 5]), (1, [])]), (61, [(0, [0, 1, 5]), (1, [])]), (62, [(0, [0, 1, 5]), (1, [])]), (63, [(0, [0, 1, 5, 1000000]), (1, [1, 1000000])]), (64, [(0, [0, 1, 5, 1000000]), (1, [1, 1000000])]), (65, [(0, [0, 1, 5, 1000000]), (1, [1, 1000000])]), (66, [(0, [0, 3]), (1, [3])]), (67, [(0, [0, 1, 5]), (1, [])]), (82, [(0, [0, 1, 5, 6]), (1, [5])]), (83, [(0, [1, 6, 7, 8]), (1, [6, 7])]), (85, [(0, [6, 7, 21, 22, 23]), (1, [6, 7])]), (86, [(0, [1, 5, 10, 11, 12]), (1, [5])]), (87, [(0, [0, 1, 5]), (1, [1])]), (88, [(0, [0, 1, 5]), (1, [1])]), (89, [(0, [0, 1, 5]), (1, [1])]), (90, [(0, [0, 1, 5]), (1, [1])]), (91, [(0, [0, 3, 5]), (1, [0, 3])]), (93, [(0, [0, 3, 4]), (1, [3])]), (94, [(0, [0, 18, 19, 20]), (1, [])]), (95, [(0, [0, 1, 5]), (1, [])]), (96, [(0, [0, 1, 5, 1000000]), (1, [1, 1000000])]), (115, [(0, [0, 3]), (1, [0])]), (116, [(0, [0, 1, 5]), (1, []), (4, [0, 1, 5, 6]), (5, [0, 1, 5])]), (117, [(0, [0, 1, 5, 6]), (1, [5])]), (121, [(0, [0, 3, 8, 9, 10]), (1, [0])]), (123, [(0, [1, 2, 15, 16, 17]), (1, [])]), (124, [(0, [0, 5, 18, 19, 20]), (1, [5]), (4, [0, 5, 7, 18, 19, 20, 26, 27, 28]), (5, [0, 5, 18, 19, 20]), (8, [0, 5, 7, 9, 18, 19, 20, 26, 27, 28, 40, 41, 42]), (9, [0, 5, 7, 18, 19, 20, 26, 27, 28]), (12, [14, 101]), (13, [14])]), (130, [(0, [0, 1, 5, 1000000]), (1, [1, 1000000])]), (131, [(0, [0, 1, 7, 8]), (1, [])]), (140, [(0, [0, 1, 5]), (1, [1])]), (141, [(0, [0, 1, 5]), (1, [1])]), (143, [(0, [0, 1, 5]), (1, [])]), (145, [(0, [1, 3]), (1, [1])]), (147, [(0, [1, 6, 7, 8]), (1, [1])]), (148, [(0, [1, 4, 7, 8, 9]), (1, [4])]), (150, [(0, [3, 8, 9, 10]), (1, [3])]), (167, [(0, [0, 5, 6]), (1, [0])]), (171, [(0, [3, 8, 9, 10]), (1, [3])]), (174, [(0, [0, 1, 5]), (1, [1])]), (175, [(0, [0, 3]), (1, [0])]), (176, [(0, [0, 1, 5]), (1, [])]), (177, [(0, [0, 1, 5, 7]), (1, [1]), (4, [0, 1, 5, 7, 8, 9]), (5, [0, 1, 5, 7])]), (178, [(0, [0, 3, 4]), (1, [3])]), (180, [(0, [3, 8, 9, 10]), (1, [3])]), (183, [(0, [3, 6, 7, 8]), (1, [3])]), (185, [(0, [1, 2, 15, 16, 17]), (1, [])]), (187, [(0, [0, 1, 5]), (1, [])]), (198, [(0, [4, 5, 6]), (1, [4, 5])]), (199, [(0, [0, 3]), (1, [0])]), (219, [(0, [0, 3, 4]), (1, [3])]), (221, [(0, [3, 4, 5]), (1, [3])]), (224, [(0, [0, 1, 7, 8]), (1, [])]), (225, [(0, [0, 3, 4]), (1, [3]), (4, [0, 3, 4, 5]), (5, [0, 3, 4, 5])]), (229, [(0, [0, 1, 12, 13]), (1, [])]), (238, [(0, [0, 3, 4]), (1, [0, 3])]), (239, [(0, [0, 1, 2, 7, 8, 9]), (1, [0, 7, 8])]), (240, [(0, [0, 1, 5]), (1, [0, 1, 5])]), (241, [(0, [0, 1, 7, 8]), (1, [0, 1])]), (244, [(0, [0, 1, 2, 3, 9, 10]), (1, [0, 9, 10])]), (250, [(0, [0, 3, 4]), (1, [3]), (4, [0, 3, 4, 5]), (5, [0, 3, 4, 5])]), (251, [(0, [0, 3, 4]), (1, [])]), (253, [(0, [0, 1, 2, 8]), (1, [0, 1, 2, 8])]), (276, [(0, [0, 1, 6, 7]), (1, [0, 1, 6])]), (295, [(0, [2, 4]), (1, [2])])],
  [(149, libNumber), (181, libSortE), (277, libCount), (279, libIndex)]⟩
noncomputable abbrev S0 : Sys := tab.S
@[go_sem] theorem M6 : tab.E.M 6 = ⟨[0, 0], false, false⟩ := by kernel_rfl
@[go_sem] theorem M7 : tab.E.M 7 = ⟨[0, 0], false, false⟩ := by kernel_rfl
@[go_sem] theorem M10 : tab.E.M 10 = ⟨[0, 0], false, false⟩ := by kernel_rfl
@[go_sem] theorem M12 : tab.E.M 12 = ⟨[0], false, false⟩ := by kernel_rfl
@[go_sem] theorem M13 : tab.E.M 13 = ⟨[0], false, false⟩ := by kernel_rfl
@[go_sem] theorem M16 : tab.E.M 16 = ⟨[0, 0], false, false⟩ := by kernel_rfl
@[go_sem] theorem M17 : tab.E.M 17 = ⟨[0, 0], false, false⟩ := by kernel_rfl
@[go_sem] theorem M18 : tab.E.M 18 = ⟨[1, 0], false, false⟩ := by kernel_rfl
@[go_sem] theorem M19 : tab.E.M 19 = ⟨[1, 0], false, false⟩ := by kernel_rfl
@[go_sem] theorem M24 : tab.E.M 24 = ⟨[0, 0], false, false⟩ := by kernel_rfl
@[go_sem] theorem M31 : tab.E.M 31 = ⟨[0, 0], true, true⟩ := by kernel_rfl
@[go_sem] theorem M32 : tab.E.M 32 = ⟨[0, 0], false, false⟩ := by kernel_rfl
@[go_sem] theorem M33 : tab.E.M 33 = ⟨[0, 0], false, false⟩ := by kernel_rfl
@[go_sem] theorem M34 : tab.E.M 34 = ⟨[0, 0], false, false⟩ := by kernel_rfl
@[go_sem] theorem M35 : tab.E.M 35 = ⟨[0, 0], true, true⟩ := by kernel_rfl
@[go_sem] theorem M36 : tab.E.M 36 = ⟨[0], false, false⟩ := by kernel_rfl
@[go_sem] theorem M37 : tab.E.M 37 = ⟨[0, 0], false, false⟩ := by kernel_rfl
@[go_sem] theorem M38 : tab.E.M 38 = ⟨[0, 0], false, false⟩ := by kernel_rfl
@[go_sem] theorem M39 : tab.E.M 39 = ⟨[1, 0], false, false⟩ := by kernel_rfl
@[go_sem] theorem M50 : tab.E.M 50 = ⟨[0, 0], false, false⟩ := by kernel_rfl
@[go_sem] theorem M51 : tab.E.M 51 = ⟨[0, 0], false, false⟩ := by kernel_rfl
@[go_sem] theorem M52 : tab.E.M 52 = ⟨[0, 0], false, false⟩ := by kernel_rfl
@[go_sem] theorem M53 : tab.E.M 53 = ⟨[0], false, false⟩ := by kernel_rfl
@[go_sem] theorem M55 : tab.E.M 55 = ⟨[0], false, false⟩ := by kernel_rfl
@[go_sem] theorem M56 : tab.E.M 56 = ⟨[0], false, false⟩ := by kernel_rfl
@[go_sem] theorem M57 : tab.E.M 57 = ⟨[0], false, false⟩ := by kernel_rfl
@[go_sem] theorem M58 : tab.E.M 58 = ⟨[0], false, false⟩ := by kernel_rfl
@[go_sem] theorem M60 : tab.E.M 60 = ⟨[0, 0], false, false⟩ := by kernel_rfl
@[go_sem] theorem M61 : tab.E.M 61 = ⟨[0, 0], false, false⟩ := by kernel_rfl
@[go_sem] theorem M62 : tab.E.M 62 = ⟨[0, 0], false, false⟩ := by kernel_rfl
@[go_sem] theorem M63 : tab.E.M 63 = ⟨[1, 0], false, false⟩ := by kernel_rfl
@[go_sem] theorem M64 : tab.E.M 64 = ⟨[1, 0], false, false⟩ := by kernel_rfl
@[go_sem] theorem M65 : tab.E.M 65 = ⟨[1, 0], false, false⟩ := by kernel_rfl
@[go_sem] theorem M66 : tab.E.M 66 = ⟨[0], false, false⟩ := by kernel_rfl
@[go_sem] theorem M67 : tab.E.M 67 = ⟨[0, 0], false, false⟩ := by kernel_rfl
@[go_sem] theorem M68 : tab.E.M 68 = ⟨[0, 0], false, false⟩ := by kernel_rfl
@[go_sem] theorem M82 : tab.E.M 82 = ⟨[0, 0], false, true⟩ := by kernel_rfl
@[go_sem] theorem M83 : tab.E.M 83 = ⟨[0, 0, 0], false, false⟩ := by kernel_rfl
@[go_sem] theorem M84 : tab.E.M 84 = ⟨[0], false, false⟩ := by kernel_rfl
@[go_sem] theorem M85 : tab.E.M 85 = ⟨[0, 0, 0], false, false⟩ := by kernel_rfl
@[go_sem] theorem M86 : tab.E.M 86 = ⟨[0, 0], false, true⟩ := by kernel_rfl
@[go_sem] theorem M87 : tab.E.M 87 = ⟨[0, 0], false, false⟩ := by kernel_rfl
@[go_sem] theorem M88 : tab.E.M 88 = ⟨[0, 0], false, false⟩ := by kernel_rfl
@[go_sem] theorem M89 : tab.E.M 89 = ⟨[0, 0], false, false⟩ := by kernel_rfl
@[go_sem] theorem M90 : tab.E.M 90 = ⟨[0, 0], false, false⟩ := by kernel_rfl
@[go_sem] theorem M91 : tab.E.M 91 = ⟨[0, 0], false, false⟩ := by kernel_rfl
@[go_sem] theorem M92 : tab.E.M 92 = ⟨[0], false, false⟩ := by kernel_rfl
@[go_sem] theorem M93 : tab.E.M 93 = ⟨[0], false, false⟩ := by kernel_rfl
@[go_sem] theorem M94 : tab.E.M 94 = ⟨[0, 0], false, false⟩ := by kernel_rfl
@[go_sem] theorem M95 : tab.E.M 95 = ⟨[0, 0], false, false⟩ := by kernel_rfl
@[go_sem] theorem M96 : tab.E.M 96 = ⟨[1, 0], false, false⟩ := by kernel_rfl
@[go_sem] theorem M111 : tab.E.M 111 = ⟨[0, 0], false, false⟩ := by kernel_rfl
@[go_sem] theorem M112 : tab.E.M 112 = ⟨[0, 0], false, false⟩ := by kernel_rfl
@[go_sem] theorem M113 : tab.E.M 113 = ⟨[0, 0], false, false⟩ := by kernel_rfl
@[go_sem] theorem M114 : tab.E.M 114 = ⟨[0, 0, 0], false, false⟩ := by kernel_rfl
@[go_sem] theorem M115 : tab.E.M 115 = ⟨[0], false, false⟩ := by kernel_rfl
@[go_sem] theorem M116 : tab.E.M 116 = ⟨[0, 0], false, false⟩ := by kernel_rfl
@[go_sem] theorem M117 : tab.E.M 117 = ⟨[0, 0], false, false⟩ := by kernel_rfl
@[go_sem] theorem M118 : tab.E.M 118 = ⟨[0], false, false⟩ := by kernel_rfl
@[go_sem] theorem M119 : tab.E.M 119 = ⟨[0], false, false⟩ := by kernel_rfl
@[go_sem] theorem M120 : tab.E.M 120 = ⟨[0], false, false⟩ := by kernel_rfl
@[go_sem] theorem M121 : tab.E.M 121 = ⟨[0], false, false⟩ := by kernel_rfl
@[go_sem] theorem M122 : tab.E.M 122 = ⟨[0, 0, 0], false, false⟩ := by kernel_rfl
@[go_sem] theorem M123 : tab.E.M 123 = ⟨[0, 0, 0], false, false⟩ := by kernel_rfl
@[go_sem] theorem M124 : tab.E.M 124 = ⟨[0, 0], false, false⟩ := by kernel_rfl
@[go_sem] theorem M125 : tab.E.M 125 = ⟨[0, 0], false, false⟩ := by kernel_rfl
@[go_sem] theorem M127 : tab.E.M 127 = ⟨[0, 0], false, false⟩ := by kernel_rfl
@[go_sem] theorem M128 : tab.E.M 128 = ⟨[0, 0], false, false⟩ := by kernel_rfl
@[go_sem] theorem M129 : tab.E.M 129 = ⟨[0, 0], false, false⟩ := by kernel_rfl
@[go_sem] theorem M130 : tab.E.M 130 = ⟨[1, 0], false, false⟩ := by kernel_rfl
@[go_sem] theorem M131 : tab.E.M 131 = ⟨[0, 0], false, false⟩ := by kernel_rfl
@[go_sem] theorem M132 : tab.E.M 132 = ⟨[0, 0], false, false⟩ := by kernel_rfl
@[go_sem] theorem M139 : tab.E.M 139 = ⟨[0], false, false⟩ := by kernel_rfl
@[go_sem] theorem M140 : tab.E.M 140 = ⟨[0, 0], false, false⟩ := by kernel_rfl
@[go_sem] theorem M141 : tab.E.M 141 = ⟨[0, 0], false, false⟩ := by kernel_rfl
@[go_sem] theorem M142 : tab.E.M 142 = ⟨[0, 0], false, false⟩ := by kernel_rfl
@[go_sem] theorem M143 : tab.E.M 143 = ⟨[0, 0], false, false⟩ := by kernel_rfl
@[go_sem] theorem M144 : tab.E.M 144 = ⟨[0, 0], false, false⟩ := by kernel_rfl
@[go_sem] theorem M145 : tab.E.M 145 = ⟨[0], false, false⟩ := by kernel_rfl
@[go_sem] theorem M146 : tab.E.M 146 = ⟨[0], false, false⟩ := by kernel_rfl
@[go_sem] theorem M147 : tab.E.M 147 = ⟨[0], false, false⟩ := by kernel_rfl
@[go_sem] theorem M148 : tab.E.M 148 = ⟨[0, 0], false, false⟩ := by kernel_rfl
@[go_sem] theorem M149 : tab.E.M 149 = ⟨[0], false, false⟩ := by kernel_rfl
@[go_sem] theorem M150 : tab.E.M 150 = ⟨[0], false, false⟩ := by kernel_rfl
@[go_sem] theorem M151 : tab.E.M 151 = ⟨[0, 0], false, false⟩ := by kernel_rfl
@[go_sem] theorem M167 : tab.E.M 167 = ⟨[0], false, false⟩ := by kernel_rfl
@[go_sem] theorem M169 : tab.E.M 169 = ⟨[0], false, false⟩ := by kernel_rfl
@[go_sem] theorem M171 : tab.E.M 171 = ⟨[0], false, false⟩ := by kernel_rfl
@[go_sem] theorem M174 : tab.E.M 174 = ⟨[0, 0], false, false⟩ := by kernel_rfl
@[go_sem] theorem M175 : tab.E.M 175 = ⟨[0], false, false⟩ := by kernel_rfl
@[go_sem] theorem M176 : tab.E.M 176 = ⟨[0, 0], false, false⟩ := by kernel_rfl
@[go_sem] theorem M177 : tab.E.M 177 = ⟨[0, 2, 0], false, false⟩ := by kernel_rfl
@[go_sem] theorem M178 : tab.E.M 178 = ⟨[0], false, false⟩ := by kernel_rfl
@[go_sem] theorem M179 : tab.E.M 179 = ⟨[0, 0], false, false⟩ := by kernel_rfl
@[go_sem] theorem M180 : tab.E.M 180 = ⟨[0], false, false⟩ := by kernel_rfl
@[go_sem] theorem M181 : tab.E.M 181 = ⟨[1, 0], false, false⟩ := by kernel_rfl
@[go_sem] theorem M182 : tab.E.M 182 = ⟨[0, 0], false, false⟩ := by kernel_rfl
@[go_sem] theorem M183 : tab.E.M 183 = ⟨[0], false, false⟩ := by kernel_rfl
@[go_sem] theorem M184 : tab.E.M 184 = ⟨[0, 0], false, false⟩ := by kernel_rfl
@[go_sem] theorem M185 : tab.E.M 185 = ⟨[0, 0, 0], false, false⟩ := by kernel_rfl
@[go_sem] theorem M186 : tab.E.M 186 = ⟨[0, 0], false, false⟩ := by kernel_rfl
@[go_sem] theorem M187 : tab.E.M 187 = ⟨[0, 0], false, false⟩ := by kernel_rfl
@[go_sem] theorem M188 : tab.E.M 188 = ⟨[0, 0, 0], false, false⟩ := by kernel_rfl
@[go_sem] theorem M197 : tab.E.M 197 = ⟨[0], false, false⟩ := by kernel_rfl
@[go_sem] theorem M198 : tab.E.M 198 = ⟨[0], false, false⟩ := by kernel_rfl
@[go_sem] theorem M199 : tab.E.M 199 = ⟨[0], false, false⟩ := by kernel_rfl
@[go_sem] theorem M200 : tab.E.M 200 = ⟨[0], false, false⟩ := by kernel_rfl
@[go_sem] theorem M202 : tab.E.M 202 = ⟨[0, 0], true, true⟩ := by kernel_rfl
@[go_sem] theorem M206 : tab.E.M 206 = ⟨[0], false, false⟩ := by kernel_rfl
@[go_sem] theorem M209 : tab.E.M 209 = ⟨[0], false, false⟩ := by kernel_rfl
@[go_sem] theorem M214 : tab.E.M 214 = ⟨[0], false, false⟩ := by kernel_rfl
@[go_sem] theorem M215 : tab.E.M 215 = ⟨[0], false, false⟩ := by kernel_rfl
@[go_sem] theorem M216 : tab.E.M 216 = ⟨[0], false, false⟩ := by kernel_rfl
@[go_sem] theorem M218 : tab.E.M 218 = ⟨[0], false, false⟩ := by kernel_rfl
@[go_sem] theorem M219 : tab.E.M 219 = ⟨[0], false, false⟩ := by kernel_rfl
@[go_sem] theorem M220 : tab.E.M 220 = ⟨[0, 0], false, false⟩ := by kernel_rfl
@[go_sem] theorem M221 : tab.E.M 221 = ⟨[0], false, false⟩ := by kernel_rfl
@[go_sem] theorem M222 : tab.E.M 222 = ⟨[2, 0, 0, 0, 0], false, false⟩ := by kernel_rfl
@[go_sem] theorem M223 : tab.E.M 223 = ⟨[0], false, false⟩ := by kernel_rfl
@[go_sem] theorem M224 : tab.E.M 224 = ⟨[0, 0], false, false⟩ := by kernel_rfl
@[go_sem] theorem M225 : tab.E.M 225 = ⟨[0], false, false⟩ := by kernel_rfl
@[go_sem] theorem M228 : tab.E.M 228 = ⟨[0], false, false⟩ := by kernel_rfl
@[go_sem] theorem M229 : tab.E.M 229 = ⟨[0, 0], false, false⟩ := by kernel_rfl
@[go_sem] theorem M230 : tab.E.M 230 = ⟨[0, 0], false, false⟩ := by kernel_rfl
@[go_sem] theorem M238 : tab.E.M 238 = ⟨[0], false, false⟩ := by kernel_rfl
@[go_sem] theorem M239 : tab.E.M 239 = ⟨[0, 0, 0], false, false⟩ := by kernel_rfl
@[go_sem] theorem M240 : tab.E.M 240 = ⟨[2, 0], false, false⟩ := by kernel_rfl
@[go_sem] theorem M241 : tab.E.M 241 = ⟨[0, 0], false, false⟩ := by kernel_rfl
@[go_sem] theorem M244 : tab.E.M 244 = ⟨[0, 0, 0, 0], true, true⟩ := by kernel_rfl
@[go_sem] theorem M245 : tab.E.M 245 = ⟨[0], false, false⟩ := by kernel_rfl
@[go_sem] theorem M250 : tab.E.M 250 = ⟨[0], false, false⟩ := by kernel_rfl
@[go_sem] theorem M251 : tab.E.M 251 = ⟨[0], false, false⟩ := by kernel_rfl
@[go_sem] theorem M252 : tab.E.M 252 = ⟨[0, 0], false, false⟩ := by kernel_rfl
@[go_sem] theorem M253 : tab.E.M 253 = ⟨[0, 0, 0], false, false⟩ := by kernel_rfl
@[go_sem] theorem M276 : tab.E.M 276 = ⟨[0, 0], false, false⟩ := by kernel_rfl
@[go_sem] theorem M277 : tab.E.M 277 = ⟨[0, 0], false, false⟩ := by kernel_rfl
@[go_sem] theorem M278 : tab.E.M 278 = ⟨[0, 0], false, false⟩ := by kernel_rfl
@[go_sem] theorem M279 : tab.E.M 279 = ⟨[0, 0], false, false⟩ := by kernel_rfl
@[go_sem] theorem M295 : tab.E.M 295 = ⟨[0], false, false⟩ := by kernel_rfl
@[go_sem] theorem M296 : tab.E.M 296 = ⟨[0], false, false⟩ := by kernel_rfl
@[go_sem] theorem M318 : tab.E.M 318 = ⟨[0], false, false⟩ := by kernel_rfl
@[go_sem] theorem G0 : tab.E.G 0 = some ([.sl ([[97], [97, 110], [97, 110, 100], [111, 102], [116, 104, 101], [116, 111]].map PV.str)]) := rfl
@[go_sem] theorem G1 : tab.E.G 1 = some ([PV.ifc]) := rfl
@[go_sem] theorem G2 : tab.E.G 2 = some ([PV.ifc]) := rfl
@[go_sem] theorem G4 : tab.E.G 4 = some (Lib.pow10Tab.map (PV.int .u64)) := rfl
@[go_sem] theorem T3 : tab.E.T 3 = some ⟨.int .i64, 1, 8, [.int .i64 0]⟩ := by kernel_rfl
@[go_sem] theorem T4 : tab.E.T 4 = some ⟨.bool, 1, 1, [.bool false]⟩ := by kernel_rfl
@[go_sem] theorem T5 : tab.E.T 5 = some ⟨.int .u8, 1, 1, [.int .u8 0]⟩ := by kernel_rfl
@[go_sem] theorem T9 : tab.E.T 9 = some ⟨.str, 1, 16, [.str []]⟩ := by kernel_rfl
@[go_sem] theorem T21 : tab.E.T 21 = some ⟨.int .i32, 1, 4, [.int .i32 0]⟩ := by kernel_rfl
@[go_sem] theorem T22 : tab.E.T 22 = some ⟨.slice 149, 1, 24, [.slo 3 []]⟩ := by kernel_rfl
@[go_sem] theorem T23 : tab.E.T 23 = some ⟨.slice 152, 1, 24, [.slo 3 []]⟩ := by kernel_rfl
@[go_sem] theorem T24 : tab.E.T 24 = some ⟨.slice 156, 1, 24, [.slo 3 []]⟩ := by kernel_rfl
@[go_sem] theorem T26 : tab.E.T 26 = some ⟨.struct [(0, 22), (1, 23), (2, 24), (3, 3)], 4, 80, [.slo 3 [], .slo 3 [], .slo 3 [], .int .i64 0]⟩ := by kernel_rfl
@[go_sem] theorem T27 : tab.E.T 27 = some ⟨.slice 3, 1, 24, [.slo 1 []]⟩ := by kernel_rfl
@[go_sem] theorem T29 : tab.E.T 29 = some ⟨.slice 9, 1, 24, [.slo 1 []]⟩ := by kernel_rfl
@[go_sem] theorem T31 : tab.E.T 31 = some ⟨.slice 160, 1, 24, [.slo 3 []]⟩ := by kernel_rfl
@[go_sem] theorem T32 : tab.E.T 32 = some ⟨.slice 89, 1, 24, [.slo 3 []]⟩ := by kernel_rfl
@[go_sem] theorem T33 : tab.E.T 33 = some ⟨.slice 103, 1, 24, [.slo 3 []]⟩ := by kernel_rfl
@[go_sem] theorem T35 : tab.E.T 35 = some ⟨.struct [(0, 31), (1, 32), (2, 33), (3, 3)], 4, 80, [.slo 3 [], .slo 3 [], .slo 3 [], .int .i64 0]⟩ := by kernel_rfl
@[go_sem] theorem T61 : tab.E.T 61 = some ⟨.slice 177, 1, 24, [.slo 2 []]⟩ := by kernel_rfl
@[go_sem] theorem T63 : tab.E.T 63 = some ⟨.struct [(0, 9), (1, 61)], 2, 40, [.str [], .slo 2 []]⟩ := by kernel_rfl
@[go_sem] theorem T67 : tab.E.T 67 = some ⟨.slice 179, 1, 24, [.slo 2 []]⟩ := by kernel_rfl
@[go_sem] theorem T69 : tab.E.T 69 = some ⟨.struct [(0, 9), (1, 67)], 2, 40, [.str [], .slo 2 []]⟩ := by kernel_rfl
@[go_sem] theorem T77 : tab.E.T 77 = some ⟨.slice 5, 1, 24, [.slo 1 []]⟩ := by kernel_rfl
@[go_sem] theorem T89 : tab.E.T 89 = some ⟨.struct [(0, 3), (1, 69)], 3, 48, [.int .i64 0, .str [], .slo 2 []]⟩ := by kernel_rfl
@[go_sem] theorem T101 : tab.E.T 101 = some ⟨.slice 105, 1, 24, [.slo 2 []]⟩ := by kernel_rfl
@[go_sem] theorem T103 : tab.E.T 103 = some ⟨.struct [(0, 9), (1, 9), (2, 101)], 3, 56, [.str [], .str [], .slo 2 []]⟩ := by kernel_rfl
@[go_sem] theorem T105 : tab.E.T 105 = some ⟨.struct [(0, 3), (1, 27)], 2, 32, [.int .i64 0, .slo 1 []]⟩ := by kernel_rfl
@[go_sem] theorem T149 : tab.E.T 149 = some ⟨.struct [(0, 9), (1, 3), (2, 3)], 3, 32, [.str [], .int .i64 0, .int .i64 0]⟩ := by kernel_rfl
@[go_sem] theorem T152 : tab.E.T 152 = some ⟨.struct [(0, 3), (1, 63)], 3, 48, [.int .i64 0, .str [], .slo 2 []]⟩ := by kernel_rfl
@[go_sem] theorem T154 : tab.E.T 154 = some ⟨.slice 231, 1, 24, [.slo 2 []]⟩ := by kernel_rfl
@[go_sem] theorem T156 : tab.E.T 156 = some ⟨.struct [(0, 9), (1, 9), (2, 154)], 3, 56, [.str [], .str [], .slo 2 []]⟩ := by kernel_rfl
@[go_sem] theorem T160 : tab.E.T 160 = some ⟨.struct [(0, 9), (1, 3), (2, 3)], 3, 32, [.str [], .int .i64 0, .int .i64 0]⟩ := by kernel_rfl
@[go_sem] theorem T177 : tab.E.T 177 = some ⟨.struct [(0, 9), (1, 9)], 2, 32, [.str [], .str []]⟩ := by kernel_rfl
@[go_sem] theorem T179 : tab.E.T 179 = some ⟨.struct [(0, 9), (1, 9)], 2, 32, [.str [], .str []]⟩ := by kernel_rfl
@[go_sem] theorem T199 : tab.E.T 199 = some ⟨.map 202 101, 1, 8, [.lit (.map none)]⟩ := by kernel_rfl
@[go_sem] theorem T202 : tab.E.T 202 = some ⟨.struct [(0, 9), (1, 9)], 2, 32, [.str [], .str []]⟩ := by kernel_rfl
@[go_sem] theorem T231 : tab.E.T 231 = some ⟨.struct [(0, 3), (1, 27)], 2, 32, [.int .i64 0, .slo 1 []]⟩ := by kernel_rfl
@[go_sem] theorem T235 : tab.E.T 235 = some ⟨.slice 238, 1, 24, [.slo 3 []]⟩ := by kernel_rfl
@[go_sem] theorem T238 : tab.E.T 238 = some ⟨.struct [(0, 9), (1, 3), (2, 3)], 3, 32, [.str [], .int .i64 0, .int .i64 0]⟩ := by kernel_rfl
@[go_sem] theorem T318 : tab.E.T 318 = some ⟨.struct [(0, 5), (1, 5)], 2, 2, [.int .u8 0, .int .u8 0]⟩ := by kernel_rfl
@[go_sem] theorem ES202 : tab.E.S 202 = some [2, 2] := by kernel_rfl
variable {xs : List PV} {a : Ans}
theorem RT {f n : Nat} {fu : Func} {ts : List ResultVar} {cm : CM} {ns : List Nat} {L : List (Nat × List Nat)} (hf : tab.P.funcs[f]? = some fu) (hxs : xs.length = n) (h : Ends tab.S ⟨ts, ns, cm, lookL L⟩ (.run (fu.body.getD .skip) (ent xs) []) a) (hl : isNone (tab.lib.lookup f) = true := by kernel_rfl) (hb : fu.body = some (fu.body.getD .skip) := by kernel_rfl) (hc : fnChk fu (fu.body.getD .skip) = true := by kernel_rfl) (hcm : tab.M f = cm := by kernel_rfl) (hX : tab.X f = L := by kernel_rfl)
    (hm : cm.modes.length = n := by rfl) (hn : n ≤ fu.ntmps := by exact of_decide_eq_true (by kernel_rfl)) (hg : n ≤ gBase := by exact of_decide_eq_true (by kernel_rfl)) (hts : fu.results.toList = ts := by kernel_rfl) (hns : fu.resultTypes.toList.map (nilSz tab.E) = ns := by kernel_rfl) : R tab.S f xs = some a := R_tab hl hf hb hc hcm hX hm hn hg hts hns hxs h
theorem go6 (hn : xs.length = 2) (h : Ends S0 ⟨[.tmp 4], [0], ⟨[0, 0], false, false⟩, lookL []⟩ (.run (Tryz.f6.body.getD .skip) (ent xs) []) a) : R S0 6 xs = some a := RT Tryz.func6 hn h
theorem go7 (hn : xs.length = 2) (h : Ends S0 ⟨[.tmp 4], [0], ⟨[0, 0], false, false⟩, lookL []⟩ (.run (Tryz.f7.body.getD .skip) (ent xs) []) a) : R S0 7 xs = some a := RT Tryz.func7 hn h
theorem go10 (hn : xs.length = 2) (h : Ends S0 ⟨[.tmp 4], [0], ⟨[0, 0], false, false⟩, lookL []⟩ (.run (Tryz.f10.body.getD .skip) (ent xs) []) a) : R S0 10 xs = some a := RT Tryz.func10 hn h
theorem go12 (hn : xs.length = 1) (h : Ends S0 ⟨[.cell 2 35], [0], ⟨[0], false, false⟩, lookL []⟩ (.run (Tryz.f12.body.getD .skip) (ent xs) []) a) : R S0 12 xs = some a := RT Tryz.func12 hn h
theorem go13 (hn : xs.length = 1) (h : Ends S0 ⟨[.tmp 2], [1], ⟨[0], false, false⟩, lookL [(0, [0, 3, 4]), (1, [3])]⟩ (.run (Tryz.f13.body.getD .skip) (ent xs) []) a) : R S0 13 xs = some a := RT Tryz.func13 hn h
theorem go16 (hn : xs.length = 2) (h : Ends S0 ⟨[.tmp 4], [0], ⟨[0, 0], false, false⟩, lookL []⟩ (.run (Tryz.f16.body.getD .skip) (ent xs) []) a) : R S0 16 xs = some a := RT Tryz.func16 hn h
theorem go17 (hn : xs.length = 2) (h : Ends S0 ⟨[.tmp 4], [0], ⟨[0, 0], false, false⟩, lookL [(0, [0, 1, 5]), (1, [])]⟩ (.run (Tryz.f17.body.getD .skip) (ent xs) []) a) : R S0 17 xs = some a := RT Tryz.func17 hn h
theorem go18 (hn : xs.length = 2) (h : Ends S0 ⟨[.tmp 4], [0], ⟨[1, 0], false, false⟩, lookL []⟩ (.run (Tryz.f18.body.getD .skip) (ent xs) []) a) : R S0 18 xs = some a := RT Tryz.func18 hn h
theorem go19 (hn : xs.length = 2) (h : Ends S0 ⟨[.tmp 4], [0], ⟨[1, 0], false, false⟩, lookL [(0, [0, 1, 5, 1000000]), (1, [1, 1000000])]⟩ (.run (Tryz.f19.body.getD .skip) (ent xs) []) a) : R S0 19 xs = some a := RT Tryz.func19 hn h
theorem go24 (hn : xs.length = 2) (h : Ends S0 ⟨[.tmp 4], [0], ⟨[0, 0], false, false⟩, lookL [(0, [0, 1, 5]), (1, [1])]⟩ (.run (Tryz.f24.body.getD .skip) (ent xs) []) a) : R S0 24 xs = some a := RT Tryz.func24 hn h
theorem go31 (hn : xs.length = 2) (h : Ends S0 ⟨[.cell 4 35, .tmp 5], [0, 0], ⟨[0, 0], true, true⟩, lookL []⟩ (.run (Tryz.f31.body.getD .skip) (ent xs) []) a) : R S0 31 xs = some a := RT Tryz.func31 hn h
theorem go32 (hn : xs.length = 2) (h : Ends S0 ⟨[.cell 4 35, .tmp 5], [0, 0], ⟨[0, 0], false, false⟩, lookL []⟩ (.run (Tryz.f32.body.getD .skip) (ent xs) []) a) : R S0 32 xs = some a := RT Tryz.func32 hn h
theorem go33 (hn : xs.length = 2) (h : Ends S0 ⟨[.tmp 4], [0], ⟨[0, 0], false, false⟩, lookL []⟩ (.run (Tryz.f33.body.getD .skip) (ent xs) []) a) : R S0 33 xs = some a := RT Tryz.func33 hn h
theorem go34 (hn : xs.length = 2) (h : Ends S0 ⟨[.tmp 4], [0], ⟨[0, 0], false, false⟩, lookL []⟩ (.run (Tryz.f34.body.getD .skip) (ent xs) []) a) : R S0 34 xs = some a := RT Tryz.func34 hn h
theorem go35 (hn : xs.length = 2) (h : Ends S0 ⟨[.cell 4 35, .tmp 5, .tmp 6], [0, 0, 0], ⟨[0, 0], true, true⟩, lookL []⟩ (.run (Tryz.f35.body.getD .skip) (ent xs) []) a) : R S0 35 xs = some a := RT Tryz.func35 hn h
theorem go36 (hn : xs.length = 1) (h : Ends S0 ⟨[.cell 2 69], [0], ⟨[0], false, false⟩, lookL []⟩ (.run (Tryz.f36.body.getD .skip) (ent xs) []) a) : R S0 36 xs = some a := RT Tryz.func36 hn h
theorem go37 (hn : xs.length = 2) (h : Ends S0 ⟨[.cell 4 35, .tmp 5, .tmp 6], [0, 0, 0], ⟨[0, 0], false, false⟩, lookL []⟩ (.run (Tryz.f37.body.getD .skip) (ent xs) []) a) : R S0 37 xs = some a := RT Tryz.func37 hn h
theorem go38 (hn : xs.length = 2) (h : Ends S0 ⟨[.tmp 4], [0], ⟨[0, 0], false, false⟩, lookL []⟩ (.run (Tryz.f38.body.getD .skip) (ent xs) []) a) : R S0 38 xs = some a := RT Tryz.func38 hn h
theorem go39 (hn : xs.length = 2) (h : Ends S0 ⟨[.tmp 4], [0], ⟨[1, 0], false, false⟩, lookL []⟩ (.run (Tryz.f39.body.getD .skip) (ent xs) []) a) : R S0 39 xs = some a := RT Tryz.func39 hn h
theorem go50 (hn : xs.length = 2) (h : Ends S0 ⟨[.tmp 4], [0], ⟨[0, 0], false, false⟩, lookL [(0, [0, 1, 5]), (1, [1])]⟩ (.run (Tryz.f50.body.getD .skip) (ent xs) []) a) : R S0 50 xs = some a := RT Tryz.func50 hn h
theorem go51 (hn : xs.length = 2) (h : Ends S0 ⟨[.tmp 4], [0], ⟨[0, 0], false, false⟩, lookL [(0, [0, 1, 5]), (1, [1])]⟩ (.run (Tryz.f51.body.getD .skip) (ent xs) []) a) : R S0 51 xs = some a := RT Tryz.func51 hn h
theorem go52 (hn : xs.length = 2) (h : Ends S0 ⟨[.tmp 4], [0], ⟨[0, 0], false, false⟩, lookL [(0, [0, 1, 5]), (1, [1])]⟩ (.run (Tryz.f52.body.getD .skip) (ent xs) []) a) : R S0 52 xs = some a := RT Tryz.func52 hn h
theorem go53 (hn : xs.length = 1) (h : Ends S0 ⟨[.tmp 2], [0], ⟨[0], false, false⟩, lookL [(0, [1, 3]), (1, [1])]⟩ (.run (Tryz.f53.body.getD .skip) (ent xs) []) a) : R S0 53 xs = some a := RT Tryz.func53 hn h
theorem go55 (hn : xs.length = 1) (h : Ends S0 ⟨[.tmp 2], [3], ⟨[0], false, false⟩, lookL [(0, [0, 3, 4]), (1, [3])]⟩ (.run (Tryz.f55.body.getD .skip) (ent xs) []) a) : R S0 55 xs = some a := RT Tryz.func55 hn h
theorem go56 (hn : xs.length = 1) (h : Ends S0 ⟨[.tmp 2], [3], ⟨[0], false, false⟩, lookL [(0, [0, 3, 4]), (1, [3])]⟩ (.run (Tryz.f56.body.getD .skip) (ent xs) []) a) : R S0 56 xs = some a := RT Tryz.func56 hn h
theorem go57 (hn : xs.length = 1) (h : Ends S0 ⟨[.tmp 2], [3], ⟨[0], false, false⟩, lookL [(0, [0, 3, 4]), (1, [3])]⟩ (.run (Tryz.f57.body.getD .skip) (ent xs) []) a) : R S0 57 xs = some a := RT Tryz.func57 hn h
theorem go58 (hn : xs.length = 1) (h : Ends S0 ⟨[.tmp 2], [0], ⟨[0], false, false⟩, lookL [(0, [1, 22, 23, 24]), (1, [1])]⟩ (.run (Tryz.f58.body.getD .skip) (ent xs) []) a) : R S0 58 xs = some a := RT Tryz.func58 hn h
theorem go60 (hn : xs.length = 2) (h : Ends S0 ⟨[.tmp 4], [0], ⟨[0, 0], false, false⟩, lookL [(0, [0, 1, 5]), (1, [])]⟩ (.run (Tryz.f60.body.getD .skip) (ent xs) []) a) : R S0 60 xs = some a := RT Tryz.func60 hn h
theorem go61 (hn : xs.length = 2) (h : Ends S0 ⟨[.tmp 4], [0], ⟨[0, 0], false, false⟩, lookL [(0, [0, 1, 5]), (1, [])]⟩ (.run (Tryz.f61.body.getD .skip) (ent xs) []) a) : R S0 61 xs = some a := RT Tryz.func61 hn h
theorem go62 (hn : xs.length = 2) (h : Ends S0 ⟨[.tmp 4], [0], ⟨[0, 0], false, false⟩, lookL [(0, [0, 1, 5]), (1, [])]⟩ (.run (Tryz.f62.body.getD .skip) (ent xs) []) a) : R S0 62 xs = some a := RT Tryz.func62 hn h
theorem go63 (hn : xs.length = 2) (h : Ends S0 ⟨[.tmp 4], [0], ⟨[1, 0], false, false⟩, lookL [(0, [0, 1, 5, 1000000]), (1, [1, 1000000])]⟩ (.run (Tryz.f63.body.getD .skip) (ent xs) []) a) : R S0 63 xs = some a := RT Tryz.func63 hn h
theorem go64 (hn : xs.length = 2) (h : Ends S0 ⟨[.tmp 4], [0], ⟨[1, 0], false, false⟩, lookL [(0, [0, 1, 5, 1000000]), (1, [1, 1000000])]⟩ (.run (Tryz.f64.body.getD .skip) (ent xs) []) a) : R S0 64 xs = some a := RT Tryz.func64 hn h
theorem go65 (hn : xs.length = 2) (h : Ends S0 ⟨[.tmp 4], [0], ⟨[1, 0], false, false⟩, lookL [(0, [0, 1, 5, 1000000]), (1, [1, 1000000])]⟩ (.run (Tryz.f65.body.getD .skip) (ent xs) []) a) : R S0 65 xs = some a := RT Tryz.func65 hn h
theorem go66 (hn : xs.length = 1) (h : Ends S0 ⟨[.tmp 2], [0], ⟨[0], false, false⟩, lookL [(0, [0, 3]), (1, [3])]⟩ (.run (Tryz.f66.body.getD .skip) (ent xs) []) a) : R S0 66 xs = some a := RT Tryz.func66 hn h
theorem go67 (hn : xs.length = 2) (h : Ends S0 ⟨[.tmp 4], [0], ⟨[0, 0], false, false⟩, lookL [(0, [0, 1, 5]), (1, [])]⟩ (.run (Tryz.f67.body.getD .skip) (ent xs) []) a) : R S0 67 xs = some a := RT Tryz.func67 hn h
theorem go68 (hn : xs.length = 2) (h : Ends S0 ⟨[.tmp 4], [0], ⟨[0, 0], false, false⟩, lookL []⟩ (.run (Tryz.f68.body.getD .skip) (ent xs) []) a) : R S0 68 xs = some a := RT Tryz.func68 hn h
theorem go82 (hn : xs.length = 2) (h : Ends S0 ⟨[.tmp 4], [3], ⟨[0, 0], false, true⟩, lookL [(0, [0, 1, 5, 6]), (1, [5])]⟩ (.run (Tryz.f82.body.getD .skip) (ent xs) []) a) : R S0 82 xs = some a := RT Tryz.func82 hn h
theorem go83 (hn : xs.length = 3) (h : Ends S0 ⟨[.cell 6 35], [0], ⟨[0, 0, 0], false, false⟩, lookL [(0, [1, 6, 7, 8]), (1, [6, 7])]⟩ (.run (Tryz.f83.body.getD .skip) (ent xs) []) a) : R S0 83 xs = some a := RT Tryz.func83 hn h
theorem go84 (hn : xs.length = 1) (h : Ends S0 ⟨[.cell 2 35], [0], ⟨[0], false, false⟩, lookL []⟩ (.run (Tryz.f84.body.getD .skip) (ent xs) []) a) : R S0 84 xs = some a := RT Tryz.func84 hn h
theorem go85 (hn : xs.length = 3) (h : Ends S0 ⟨[.cell 6 35], [0], ⟨[0, 0, 0], false, false⟩, lookL [(0, [6, 7, 21, 22, 23]), (1, [6, 7])]⟩ (.run (Tryz.f85.body.getD .skip) (ent xs) []) a) : R S0 85 xs = some a := RT Tryz.func85 hn h
theorem go86 (hn : xs.length = 2) (h : Ends S0 ⟨[.tmp 4], [3], ⟨[0, 0], false, true⟩, lookL [(0, [1, 5, 10, 11, 12]), (1, [5])]⟩ (.run (Tryz.f86.body.getD .skip) (ent xs) []) a) : R S0 86 xs = some a := RT Tryz.func86 hn h
theorem go87 (hn : xs.length = 2) (h : Ends S0 ⟨[.tmp 4], [0], ⟨[0, 0], false, false⟩, lookL [(0, [0, 1, 5]), (1, [1])]⟩ (.run (Tryz.f87.body.getD .skip) (ent xs) []) a) : R S0 87 xs = some a := RT Tryz.func87 hn h
theorem go88 (hn : xs.length = 2) (h : Ends S0 ⟨[.tmp 4], [0], ⟨[0, 0], false, false⟩, lookL [(0, [0, 1, 5]), (1, [1])]⟩ (.run (Tryz.f88.body.getD .skip) (ent xs) []) a) : R S0 88 xs = some a := RT Tryz.func88 hn h
theorem go89 (hn : xs.length = 2) (h : Ends S0 ⟨[.tmp 4], [0], ⟨[0, 0], false, false⟩, lookL [(0, [0, 1, 5]), (1, [1])]⟩ (.run (Tryz.f89.body.getD .skip) (ent xs) []) a) : R S0 89 xs = some a := RT Tryz.func89 hn h
theorem go90 (hn : xs.length = 2) (h : Ends S0 ⟨[.tmp 4], [0], ⟨[0, 0], false, false⟩, lookL [(0, [0, 1, 5]), (1, [1])]⟩ (.run (Tryz.f90.body.getD .skip) (ent xs) []) a) : R S0 90 xs = some a := RT Tryz.func90 hn h
theorem go91 (hn : xs.length = 2) (h : Ends S0 ⟨[.tmp 4], [0], ⟨[0, 0], false, false⟩, lookL [(0, [0, 3, 5]), (1, [0, 3])]⟩ (.run (Tryz.f91.body.getD .skip) (ent xs) []) a) : R S0 91 xs = some a := RT Tryz.func91 hn h
theorem go92 (hn : xs.length = 1) (h : Ends S0 ⟨[.cell 2 35], [0], ⟨[0], false, false⟩, lookL []⟩ (.run (Tryz.f92.body.getD .skip) (ent xs) []) a) : R S0 92 xs = some a := RT Tryz.func92 hn h
theorem go93 (hn : xs.length = 1) (h : Ends S0 ⟨[.tmp 2], [2], ⟨[0], false, false⟩, lookL [(0, [0, 3, 4]), (1, [3])]⟩ (.run (Tryz.f93.body.getD .skip) (ent xs) []) a) : R S0 93 xs = some a := RT Tryz.func93 hn h
theorem go94 (hn : xs.length = 2) (h : Ends S0 ⟨[.tmp 4], [0], ⟨[0, 0], false, false⟩, lookL [(0, [0, 18, 19, 20]), (1, [])]⟩ (.run (Tryz.f94.body.getD .skip) (ent xs) []) a) : R S0 94 xs = some a := RT Tryz.func94 hn h
theorem go95 (hn : xs.length = 2) (h : Ends S0 ⟨[.tmp 4], [0], ⟨[0, 0], false, false⟩, lookL [(0, [0, 1, 5]), (1, [])]⟩ (.run (Tryz.f95.body.getD .skip) (ent xs) []) a) : R S0 95 xs = some a := RT Tryz.func95 hn h
theorem go96 (hn : xs.length = 2) (h : Ends S0 ⟨[.tmp 4], [0], ⟨[1, 0], false, false⟩, lookL [(0, [0, 1, 5, 1000000]), (1, [1, 1000000])]⟩ (.run (Tryz.f96.body.getD .skip) (ent xs) []) a) : R S0 96 xs = some a := RT Tryz.func96 hn h
theorem go111 (hn : xs.length = 2) (h : Ends S0 ⟨[.tmp 4], [0], ⟨[0, 0], false, false⟩, lookL []⟩ (.run (Tryz.f111.body.getD .skip) (ent xs) []) a) : R S0 111 xs = some a := RT Tryz.func111 hn h
theorem go112 (hn : xs.length = 2) (h : Ends S0 ⟨[.tmp 4], [0], ⟨[0, 0], false, false⟩, lookL []⟩ (.run (Tryz.f112.body.getD .skip) (ent xs) []) a) : R S0 112 xs = some a := RT Tryz.func112 hn h
theorem go113 (hn : xs.length = 2) (h : Ends S0 ⟨[.tmp 4], [0], ⟨[0, 0], false, false⟩, lookL []⟩ (.run (Tryz.f113.body.getD .skip) (ent xs) []) a) : R S0 113 xs = some a := RT Tryz.func113 hn h
theorem go114 (hn : xs.length = 3) (h : Ends S0 ⟨[.tmp 6], [0], ⟨[0, 0, 0], false, false⟩, lookL []⟩ (.run (Tryz.f114.body.getD .skip) (ent xs) []) a) : R S0 114 xs = some a := RT Tryz.func114 hn h
theorem go115 (hn : xs.length = 1) (h : Ends S0 ⟨[.tmp 2], [0], ⟨[0], false, false⟩, lookL [(0, [0, 3]), (1, [0])]⟩ (.run (Tryz.f115.body.getD .skip) (ent xs) []) a) : R S0 115 xs = some a := RT Tryz.func115 hn h
theorem go116 (hn : xs.length = 2) (h : Ends S0 ⟨[.tmp 4], [0], ⟨[0, 0], false, false⟩, lookL [(0, [0, 1, 5]), (1, []), (4, [0, 1, 5, 6]), (5, [0, 1, 5])]⟩ (.run (Tryz.f116.body.getD .skip) (ent xs) []) a) : R S0 116 xs = some a := RT Tryz.func116 hn h
theorem go117 (hn : xs.length = 2) (h : Ends S0 ⟨[.tmp 4], [3], ⟨[0, 0], false, false⟩, lookL [(0, [0, 1, 5, 6]), (1, [5])]⟩ (.run (Tryz.f117.body.getD .skip) (ent xs) []) a) : R S0 117 xs = some a := RT Tryz.func117 hn h
theorem go118 (hn : xs.length = 1) (h : Ends S0 ⟨[.cell 2 160], [0], ⟨[0], false, false⟩, lookL []⟩ (.run (Tryz.f118.body.getD .skip) (ent xs) []) a) : R S0 118 xs = some a := RT Tryz.func118 hn h
theorem go119 (hn : xs.length = 1) (h : Ends S0 ⟨[.cell 2 89], [0], ⟨[0], false, false⟩, lookL []⟩ (.run (Tryz.f119.body.getD .skip) (ent xs) []) a) : R S0 119 xs = some a := RT Tryz.func119 hn h
theorem go120 (hn : xs.length = 1) (h : Ends S0 ⟨[.cell 2 103], [0], ⟨[0], false, false⟩, lookL []⟩ (.run (Tryz.f120.body.getD .skip) (ent xs) []) a) : R S0 120 xs = some a := RT Tryz.func120 hn h
theorem go121 (hn : xs.length = 1) (h : Ends S0 ⟨[.tmp 2], [0], ⟨[0], false, false⟩, lookL [(0, [0, 3, 8, 9, 10]), (1, [0])]⟩ (.run (Tryz.f121.body.getD .skip) (ent xs) []) a) : R S0 121 xs = some a := RT Tryz.func121 hn h
theorem go122 (hn : xs.length = 3) (h : Ends S0 ⟨[.tmp 6], [0], ⟨[0, 0, 0], false, false⟩, lookL []⟩ (.run (Tryz.f122.body.getD .skip) (ent xs) []) a) : R S0 122 xs = some a := RT Tryz.func122 hn h
theorem go123 (hn : xs.length = 3) (h : Ends S0 ⟨[.tmp 6], [0], ⟨[0, 0, 0], false, false⟩, lookL [(0, [1, 2, 15, 16, 17]), (1, [])]⟩ (.run (Tryz.f123.body.getD .skip) (ent xs) []) a) : R S0 123 xs = some a := RT Tryz.func123 hn h
theorem go124 (hn : xs.length = 2) (h : Ends S0 ⟨[.tmp 4], [3], ⟨[0, 0], false, false⟩, lookL [(0, [0, 5, 18, 19, 20]), (1, [5]), (4, [0, 5, 7, 18, 19, 20, 26, 27, 28]), (5, [0, 5, 18, 19, 20]), (8, [0, 5, 7, 9, 18, 19, 20, 26, 27, 28, 40, 41, 42]), (9, [0, 5, 7, 18, 19, 20, 26, 27, 28]), (12, [14, 101]), (13, [14])]⟩ (.run (Tryz.f124.body.getD .skip) (ent xs) []) a) : R S0 124 xs = some a := RT Tryz.func124 hn h
theorem go125 (hn : xs.length = 2) (h : Ends S0 ⟨[.tmp 4], [0], ⟨[0, 0], false, false⟩, lookL []⟩ (.run (Tryz.f125.body.getD .skip) (ent xs) []) a) : R S0 125 xs = some a := RT Tryz.func125 hn h
theorem go127 (hn : xs.length = 2) (h : Ends S0 ⟨[.tmp 4], [0], ⟨[0, 0], false, false⟩, lookL []⟩ (.run (Tryz.f127.body.getD .skip) (ent xs) []) a) : R S0 127 xs = some a := RT Tryz.func127 hn h
theorem go128 (hn : xs.length = 2) (h : Ends S0 ⟨[.tmp 4], [0], ⟨[0, 0], false, false⟩, lookL []⟩ (.run (Tryz.f128.body.getD .skip) (ent xs) []) a) : R S0 128 xs = some a := RT Tryz.func128 hn h
theorem go129 (hn : xs.length = 2) (h : Ends S0 ⟨[.tmp 4], [0], ⟨[0, 0], false, false⟩, lookL []⟩ (.run (Tryz.f129.body.getD .skip) (ent xs) []) a) : R S0 129 xs = some a := RT Tryz.func129 hn h
theorem go130 (hn : xs.length = 2) (h : Ends S0 ⟨[.tmp 4], [0], ⟨[1, 0], false, false⟩, lookL [(0, [0, 1, 5, 1000000]), (1, [1, 1000000])]⟩ (.run (Tryz.f130.body.getD .skip) (ent xs) []) a) : R S0 130 xs = some a := RT Tryz.func130 hn h
theorem go131 (hn : xs.length = 2) (h : Ends S0 ⟨[.tmp 4], [0], ⟨[0, 0], false, false⟩, lookL [(0, [0, 1, 7, 8]), (1, [])]⟩ (.run (Tryz.f131.body.getD .skip) (ent xs) []) a) : R S0 131 xs = some a := RT Tryz.func131 hn h
theorem go132 (hn : xs.length = 2) (h : Ends S0 ⟨[.tmp 3], [0], ⟨[0, 0], false, false⟩, lookL []⟩ (.run (Tryz.f132.body.getD .skip) (ent xs) []) a) : R S0 132 xs = some a := RT Tryz.func132 hn h
theorem go139 (hn : xs.length = 1) (h : Ends S0 ⟨[.cell 2 69], [0], ⟨[0], false, false⟩, lookL []⟩ (.run (Tryz.f139.body.getD .skip) (ent xs) []) a) : R S0 139 xs = some a := RT Tryz.func139 hn h
theorem go140 (hn : xs.length = 2) (h : Ends S0 ⟨[.tmp 4], [0], ⟨[0, 0], false, false⟩, lookL [(0, [0, 1, 5]), (1, [1])]⟩ (.run (Tryz.f140.body.getD .skip) (ent xs) []) a) : R S0 140 xs = some a := RT Tryz.func140 hn h
theorem go141 (hn : xs.length = 2) (h : Ends S0 ⟨[.tmp 4], [0], ⟨[0, 0], false, false⟩, lookL [(0, [0, 1, 5]), (1, [1])]⟩ (.run (Tryz.f141.body.getD .skip) (ent xs) []) a) : R S0 141 xs = some a := RT Tryz.func141 hn h
theorem go142 (hn : xs.length = 2) (h : Ends S0 ⟨[.tmp 4], [0], ⟨[0, 0], false, false⟩, lookL []⟩ (.run (Tryz.f142.body.getD .skip) (ent xs) []) a) : R S0 142 xs = some a := RT Tryz.func142 hn h
theorem go143 (hn : xs.length = 2) (h : Ends S0 ⟨[.tmp 4], [0], ⟨[0, 0], false, false⟩, lookL [(0, [0, 1, 5]), (1, [])]⟩ (.run (Tryz.f143.body.getD .skip) (ent xs) []) a) : R S0 143 xs = some a := RT Tryz.func143 hn h
theorem go144 (hn : xs.length = 2) (h : Ends S0 ⟨[.tmp 4], [0], ⟨[0, 0], false, false⟩, lookL []⟩ (.run (Tryz.f144.body.getD .skip) (ent xs) []) a) : R S0 144 xs = some a := RT Tryz.func144 hn h
theorem go145 (hn : xs.length = 1) (h : Ends S0 ⟨[.tmp 2], [0], ⟨[0], false, false⟩, lookL [(0, [1, 3]), (1, [1])]⟩ (.run (Tryz.f145.body.getD .skip) (ent xs) []) a) : R S0 145 xs = some a := RT Tryz.func145 hn h
theorem go146 (hn : xs.length = 1) (h : Ends S0 ⟨[.cell 2 179], [0], ⟨[0], false, false⟩, lookL []⟩ (.run (Tryz.f146.body.getD .skip) (ent xs) []) a) : R S0 146 xs = some a := RT Tryz.func146 hn h
theorem go147 (hn : xs.length = 1) (h : Ends S0 ⟨[.tmp 2], [0], ⟨[0], false, false⟩, lookL [(0, [1, 6, 7, 8]), (1, [1])]⟩ (.run (Tryz.f147.body.getD .skip) (ent xs) []) a) : R S0 147 xs = some a := RT Tryz.func147 hn h
theorem go148 (hn : xs.length = 2) (h : Ends S0 ⟨[.cell 4 160], [0], ⟨[0, 0], false, false⟩, lookL [(0, [1, 4, 7, 8, 9]), (1, [4])]⟩ (.run (Tryz.f148.body.getD .skip) (ent xs) []) a) : R S0 148 xs = some a := RT Tryz.func148 hn h
theorem go150 (hn : xs.length = 1) (h : Ends S0 ⟨[.tmp 2], [0], ⟨[0], false, false⟩, lookL [(0, [3, 8, 9, 10]), (1, [3])]⟩ (.run (Tryz.f150.body.getD .skip) (ent xs) []) a) : R S0 150 xs = some a := RT Tryz.func150 hn h
theorem go151 (hn : xs.length = 2) (h : Ends S0 ⟨[.tmp 4], [0], ⟨[0, 0], false, false⟩, lookL []⟩ (.run (Tryz.f151.body.getD .skip) (ent xs) []) a) : R S0 151 xs = some a := RT Tryz.func151 hn h
theorem go167 (hn : xs.length = 1) (h : Ends S0 ⟨[.tmp 2], [0], ⟨[0], false, false⟩, lookL [(0, [0, 5, 6]), (1, [0])]⟩ (.run (Tryz.f167.body.getD .skip) (ent xs) []) a) : R S0 167 xs = some a := RT Tryz.func167 hn h
theorem go169 (hn : xs.length = 1) (h : Ends S0 ⟨[.tmp 2], [0], ⟨[0], false, false⟩, lookL []⟩ (.run (Tryz.f169.body.getD .skip) (ent xs) []) a) : R S0 169 xs = some a := RT Tryz.func169 hn h
theorem go171 (hn : xs.length = 1) (h : Ends S0 ⟨[.tmp 2], [0], ⟨[0], false, false⟩, lookL [(0, [3, 8, 9, 10]), (1, [3])]⟩ (.run (Tryz.f171.body.getD .skip) (ent xs) []) a) : R S0 171 xs = some a := RT Tryz.func171 hn h
theorem go174 (hn : xs.length = 2) (h : Ends S0 ⟨[.tmp 4], [0], ⟨[0, 0], false, false⟩, lookL [(0, [0, 1, 5]), (1, [1])]⟩ (.run (Tryz.f174.body.getD .skip) (ent xs) []) a) : R S0 174 xs = some a := RT Tryz.func174 hn h
theorem go175 (hn : xs.length = 1) (h : Ends S0 ⟨[.tmp 2], [0], ⟨[0], false, false⟩, lookL [(0, [0, 3]), (1, [0])]⟩ (.run (Tryz.f175.body.getD .skip) (ent xs) []) a) : R S0 175 xs = some a := RT Tryz.func175 hn h
theorem go176 (hn : xs.length = 2) (h : Ends S0 ⟨[.tmp 4], [0], ⟨[0, 0], false, false⟩, lookL [(0, [0, 1, 5]), (1, [])]⟩ (.run (Tryz.f176.body.getD .skip) (ent xs) []) a) : R S0 176 xs = some a := RT Tryz.func176 hn h
theorem go177 (hn : xs.length = 3) (h : Ends S0 ⟨[.tmp 6], [3], ⟨[0, 2, 0], false, false⟩, lookL [(0, [0, 1, 5, 7]), (1, [1]), (4, [0, 1, 5, 7, 8, 9]), (5, [0, 1, 5, 7])]⟩ (.run (Tryz.f177.body.getD .skip) (ent xs) []) a) : R S0 177 xs = some a := RT Tryz.func177 hn h
theorem go178 (hn : xs.length = 1) (h : Ends S0 ⟨[.tmp 2], [2], ⟨[0], false, false⟩, lookL [(0, [0, 3, 4]), (1, [3])]⟩ (.run (Tryz.f178.body.getD .skip) (ent xs) []) a) : R S0 178 xs = some a := RT Tryz.func178 hn h
theorem go179 (hn : xs.length = 2) (h : Ends S0 ⟨[.tmp 4], [0], ⟨[0, 0], false, false⟩, lookL []⟩ (.run (Tryz.f179.body.getD .skip) (ent xs) []) a) : R S0 179 xs = some a := RT Tryz.func179 hn h
theorem go180 (hn : xs.length = 1) (h : Ends S0 ⟨[.tmp 2], [1], ⟨[0], false, false⟩, lookL [(0, [3, 8, 9, 10]), (1, [3])]⟩ (.run (Tryz.f180.body.getD .skip) (ent xs) []) a) : R S0 180 xs = some a := RT Tryz.func180 hn h
theorem go185 (hn : xs.length = 3) (h : Ends S0 ⟨[.tmp 6], [0], ⟨[0, 0, 0], false, false⟩, lookL [(0, [1, 2, 15, 16, 17]), (1, [])]⟩ (.run (Tryz.f185.body.getD .skip) (ent xs) []) a) : R S0 185 xs = some a := RT Tryz.func185 hn h
theorem go186 (hn : xs.length = 2) (h : Ends S0 ⟨[.tmp 4], [0], ⟨[0, 0], false, false⟩, lookL []⟩ (.run (Tryz.f186.body.getD .skip) (ent xs) []) a) : R S0 186 xs = some a := RT Tryz.func186 hn h
theorem go187 (hn : xs.length = 2) (h : Ends S0 ⟨[.tmp 4], [0], ⟨[0, 0], false, false⟩, lookL [(0, [0, 1, 5]), (1, [])]⟩ (.run (Tryz.f187.body.getD .skip) (ent xs) []) a) : R S0 187 xs = some a := RT Tryz.func187 hn h
theorem go188 (hn : xs.length = 3) (h : Ends S0 ⟨[.tmp 6], [0], ⟨[0, 0, 0], false, false⟩, lookL []⟩ (.run (Tryz.f188.body.getD .skip) (ent xs) []) a) : R S0 188 xs = some a := RT Tryz.func188 hn h
theorem go197 (hn : xs.length = 1) (h : Ends S0 ⟨[.tmp 2, .tmp 3], [0, 0], ⟨[0], false, false⟩, lookL []⟩ (.run (Tryz.f197.body.getD .skip) (ent xs) []) a) : R S0 197 xs = some a := RT Tryz.func197 hn h
theorem go198 (hn : xs.length = 1) (h : Ends S0 ⟨[.tmp 2, .tmp 3], [1, 0], ⟨[0], false, false⟩, lookL [(0, [4, 5, 6]), (1, [4, 5])]⟩ (.run (Tryz.f198.body.getD .skip) (ent xs) []) a) : R S0 198 xs = some a := RT Tryz.func198 hn h
theorem go199 (hn : xs.length = 1) (h : Ends S0 ⟨[.tmp 2], [0], ⟨[0], false, false⟩, lookL [(0, [0, 3]), (1, [0])]⟩ (.run (Tryz.f199.body.getD .skip) (ent xs) []) a) : R S0 199 xs = some a := RT Tryz.func199 hn h
theorem go200 (hn : xs.length = 1) (h : Ends S0 ⟨[.tmp 2], [0], ⟨[0], false, false⟩, lookL []⟩ (.run (Tryz.f200.body.getD .skip) (ent xs) []) a) : R S0 200 xs = some a := RT Tryz.func200 hn h
theorem go202 (hn : xs.length = 2) (h : Ends S0 ⟨[.tmp 4], [1], ⟨[0, 0], true, true⟩, lookL []⟩ (.run (Tryz.f202.body.getD .skip) (ent xs) []) a) : R S0 202 xs = some a := RT Tryz.func202 hn h
theorem go206 (hn : xs.length = 1) (h : Ends S0 ⟨[.tmp 2], [0], ⟨[0], false, false⟩, lookL []⟩ (.run (Tryz.f206.body.getD .skip) (ent xs) []) a) : R S0 206 xs = some a := RT Tryz.func206 hn h
theorem go209 (hn : xs.length = 1) (h : Ends S0 ⟨[.tmp 2], [0], ⟨[0], false, false⟩, lookL []⟩ (.run (Tryz.f209.body.getD .skip) (ent xs) []) a) : R S0 209 xs = some a := RT Tryz.func209 hn h
theorem go214 (hn : xs.length = 1) (h : Ends S0 ⟨[.tmp 2], [0], ⟨[0], false, false⟩, lookL []⟩ (.run (Tryz.f214.body.getD .skip) (ent xs) []) a) : R S0 214 xs = some a := RT Tryz.func214 hn h
theorem go215 (hn : xs.length = 1) (h : Ends S0 ⟨[.tmp 2], [0], ⟨[0], false, false⟩, lookL []⟩ (.run (Tryz.f215.body.getD .skip) (ent xs) []) a) : R S0 215 xs = some a := RT Tryz.func215 hn h
theorem go216 (hn : xs.length = 1) (h : Ends S0 ⟨[.tmp 2], [0], ⟨[0], false, false⟩, lookL []⟩ (.run (Tryz.f216.body.getD .skip) (ent xs) []) a) : R S0 216 xs = some a := RT Tryz.func216 hn h
theorem go218 (hn : xs.length = 1) (h : Ends S0 ⟨[.tmp 2], [0], ⟨[0], false, false⟩, lookL []⟩ (.run (Tryz.f218.body.getD .skip) (ent xs) []) a) : R S0 218 xs = some a := RT Tryz.func218 hn h
theorem go219 (hn : xs.length = 1) (h : Ends S0 ⟨[.tmp 2], [0], ⟨[0], false, false⟩, lookL [(0, [0, 3, 4]), (1, [3])]⟩ (.run (Tryz.f219.body.getD .skip) (ent xs) []) a) : R S0 219 xs = some a := RT Tryz.func219 hn h
theorem go220 (hn : xs.length = 2) (h : Ends S0 ⟨[.tmp 4], [0], ⟨[0, 0], false, false⟩, lookL []⟩ (.run (Tryz.f220.body.getD .skip) (ent xs) []) a) : R S0 220 xs = some a := RT Tryz.func220 hn h
theorem go221 (hn : xs.length = 1) (h : Ends S0 ⟨[.tmp 2], [1], ⟨[0], false, false⟩, lookL [(0, [3, 4, 5]), (1, [3])]⟩ (.run (Tryz.f221.body.getD .skip) (ent xs) []) a) : R S0 221 xs = some a := RT Tryz.func221 hn h
theorem go222 (hn : xs.length = 5) (h : Ends S0 ⟨[.tmp 10], [3], ⟨[2, 0, 0, 0, 0], false, false⟩, lookL []⟩ (.run (Tryz.f222.body.getD .skip) (ent xs) []) a) : R S0 222 xs = some a := RT Tryz.func222 hn h
theorem go223 (hn : xs.length = 1) (h : Ends S0 ⟨[.cell 2 105], [0], ⟨[0], false, false⟩, lookL []⟩ (.run (Tryz.f223.body.getD .skip) (ent xs) []) a) : R S0 223 xs = some a := RT Tryz.func223 hn h
theorem go224 (hn : xs.length = 2) (h : Ends S0 ⟨[.tmp 4], [0], ⟨[0, 0], false, false⟩, lookL [(0, [0, 1, 7, 8]), (1, [])]⟩ (.run (Tryz.f224.body.getD .skip) (ent xs) []) a) : R S0 224 xs = some a := RT Tryz.func224 hn h
theorem go225 (hn : xs.length = 1) (h : Ends S0 ⟨[.tmp 2], [3], ⟨[0], false, false⟩, lookL [(0, [0, 3, 4]), (1, [3]), (4, [0, 3, 4, 5]), (5, [0, 3, 4, 5])]⟩ (.run (Tryz.f225.body.getD .skip) (ent xs) []) a) : R S0 225 xs = some a := RT Tryz.func225 hn h
theorem go229 (hn : xs.length = 2) (h : Ends S0 ⟨[.tmp 4], [0], ⟨[0, 0], false, false⟩, lookL [(0, [0, 1, 12, 13]), (1, [])]⟩ (.run (Tryz.f229.body.getD .skip) (ent xs) []) a) : R S0 229 xs = some a := RT Tryz.func229 hn h
theorem go230 (hn : xs.length = 2) (h : Ends S0 ⟨[.tmp 4], [0], ⟨[0, 0], false, false⟩, lookL []⟩ (.run (Tryz.f230.body.getD .skip) (ent xs) []) a) : R S0 230 xs = some a := RT Tryz.func230 hn h
theorem go238 (hn : xs.length = 1) (h : Ends S0 ⟨[.tmp 2], [0], ⟨[0], false, false⟩, lookL [(0, [0, 3, 4]), (1, [0, 3])]⟩ (.run (Tryz.f238.body.getD .skip) (ent xs) []) a) : R S0 238 xs = some a := RT Tryz.func238 hn h
theorem go239 (hn : xs.length = 3) (h : Ends S0 ⟨[.tmp 6], [1], ⟨[0, 0, 0], false, false⟩, lookL [(0, [0, 1, 2, 7, 8, 9]), (1, [0, 7, 8])]⟩ (.run (Tryz.f239.body.getD .skip) (ent xs) []) a) : R S0 239 xs = some a := RT Tryz.func239 hn h
theorem go240 (hn : xs.length = 2) (h : Ends S0 ⟨[.tmp 4], [1], ⟨[2, 0], false, false⟩, lookL [(0, [0, 1, 5]), (1, [0, 1, 5])]⟩ (.run (Tryz.f240.body.getD .skip) (ent xs) []) a) : R S0 240 xs = some a := RT Tryz.func240 hn h
theorem go241 (hn : xs.length = 2) (h : Ends S0 ⟨[.tmp 4], [0], ⟨[0, 0], false, false⟩, lookL [(0, [0, 1, 7, 8]), (1, [0, 1])]⟩ (.run (Tryz.f241.body.getD .skip) (ent xs) []) a) : R S0 241 xs = some a := RT Tryz.func241 hn h
theorem go244 (hn : xs.length = 4) (h : Ends S0 ⟨[.tmp 8], [1], ⟨[0, 0, 0, 0], true, true⟩, lookL [(0, [0, 1, 2, 3, 9, 10]), (1, [0, 9, 10])]⟩ (.run (Tryz.f244.body.getD .skip) (ent xs) []) a) : R S0 244 xs = some a := RT Tryz.func244 hn h
theorem go245 (hn : xs.length = 1) (h : Ends S0 ⟨[.tmp 2], [0], ⟨[0], false, false⟩, lookL []⟩ (.run (Tryz.f245.body.getD .skip) (ent xs) []) a) : R S0 245 xs = some a := RT Tryz.func245 hn h
theorem go250 (hn : xs.length = 1) (h : Ends S0 ⟨[.tmp 2], [3], ⟨[0], false, false⟩, lookL [(0, [0, 3, 4]), (1, [3]), (4, [0, 3, 4, 5]), (5, [0, 3, 4, 5])]⟩ (.run (Tryz.f250.body.getD .skip) (ent xs) []) a) : R S0 250 xs = some a := RT Tryz.func250 hn h
theorem go251 (hn : xs.length = 1) (h : Ends S0 ⟨[.tmp 2], [0], ⟨[0], false, false⟩, lookL [(0, [0, 3, 4]), (1, [])]⟩ (.run (Tryz.f251.body.getD .skip) (ent xs) []) a) : R S0 251 xs = some a := RT Tryz.func251 hn h
theorem go252 (hn : xs.length = 2) (h : Ends S0 ⟨[.tmp 4], [0], ⟨[0, 0], false, false⟩, lookL []⟩ (.run (Tryz.f252.body.getD .skip) (ent xs) []) a) : R S0 252 xs = some a := RT Tryz.func252 hn h
theorem go253 (hn : xs.length = 3) (h : Ends S0 ⟨[.tmp 6, .tmp 7], [0, 0], ⟨[0, 0, 0], false, false⟩, lookL [(0, [0, 1, 2, 8]), (1, [0, 1, 2, 8])]⟩ (.run (Tryz.f253.body.getD .skip) (ent xs) []) a) : R S0 253 xs = some a := RT Tryz.func253 hn h
theorem go278 (hn : xs.length = 2) (h : Ends S0 ⟨[.tmp 4], [0], ⟨[0, 0], false, false⟩, lookL []⟩ (.run (Tryz.f278.body.getD .skip) (ent xs) []) a) : R S0 278 xs = some a := RT Tryz.func278 hn h
noncomputable def tabC : Tab := ⟨Tryz.prog, fun _ => none,
  [(182, ⟨[0, 0], false, false⟩), (183, ⟨[0], false, false⟩), (184, ⟨[0, 0], false, false⟩), (228, ⟨[0], false, false⟩)],
  [(183, [(0, [3, 6, 7, 8]), (1, [3])])],
  []⟩
noncomputable abbrev SC : Sys := tabC.S
@[go_sem] theorem MC182 : tabC.E.M 182 = ⟨[0, 0], false, false⟩ := by kernel_rfl
@[go_sem] theorem MC183 : tabC.E.M 183 = ⟨[0], false, false⟩ := by kernel_rfl
@[go_sem] theorem MC184 : tabC.E.M 184 = ⟨[0, 0], false, false⟩ := by kernel_rfl
@[go_sem] theorem MC228 : tabC.E.M 228 = ⟨[0], false, false⟩ := by kernel_rfl
@[go_sem] theorem TC3 : tabC.E.T 3 = some ⟨.int .i64, 1, 8, [.int .i64 0]⟩ := T3
@[go_sem] theorem TC4 : tabC.E.T 4 = some ⟨.bool, 1, 1, [.bool false]⟩ := T4
@[go_sem] theorem TC9 : tabC.E.T 9 = some ⟨.str, 1, 16, [.str []]⟩ := T9
@[go_sem] theorem TC27 : tabC.E.T 27 = some ⟨.slice 3, 1, 24, [.slo 1 []]⟩ := T27
@[go_sem] theorem TC101 : tabC.E.T 101 = some ⟨.slice 105, 1, 24, [.slo 2 []]⟩ := T101
@[go_sem] theorem TC103 : tabC.E.T 103 = some ⟨.struct [(0, 9), (1, 9), (2, 101)], 3, 56, [.str [], .str [], .slo 2 []]⟩ := T103
@[go_sem] theorem TC105 : tabC.E.T 105 = some ⟨.struct [(0, 3), (1, 27)], 2, 32, [.int .i64 0, .slo 1 []]⟩ := T105
theorem goC182 {xs : List PV} {a : Ans} (hn : xs.length = 2) (h : Ends SC ⟨[.tmp 4], [0], ⟨[0, 0], false, false⟩, lookL []⟩ (.run (Tryz.f182.body.getD .skip) (ent xs) []) a) : R SC 182 xs = some a := R_tab (t := tabC) (n := 2) (by kernel_rfl) Tryz.func182 (by kernel_rfl) (by kernel_rfl) (by kernel_rfl) (by kernel_rfl) rfl (of_decide_eq_true (by kernel_rfl)) (of_decide_eq_true (by kernel_rfl)) (by kernel_rfl) (by kernel_rfl) hn h
theorem goC183 {xs : List PV} {a : Ans} (hn : xs.length = 1) (h : Ends SC ⟨[.tmp 2], [0], ⟨[0], false, false⟩, lookL [(0, [3, 6, 7, 8]), (1, [3])]⟩ (.run (Tryz.f183.body.getD .skip) (ent xs) []) a) : R SC 183 xs = some a := R_tab (t := tabC) (n := 1) (by kernel_rfl) Tryz.func183 (by kernel_rfl) (by kernel_rfl) (by kernel_rfl) (by kernel_rfl) rfl (of_decide_eq_true (by kernel_rfl)) (of_decide_eq_true (by kernel_rfl)) (by kernel_rfl) (by kernel_rfl) hn h
theorem goC184 {xs : List PV} {a : Ans} (hn : xs.length = 2) (h : Ends SC ⟨[.tmp 4], [0], ⟨[0, 0], false, false⟩, lookL []⟩ (.run (Tryz.f184.body.getD .skip) (ent xs) []) a) : R SC 184 xs = some a := R_tab (t := tabC) (n := 2) (by kernel_rfl) Tryz.func184 (by kernel_rfl) (by kernel_rfl) (by kernel_rfl) (by kernel_rfl) rfl (of_decide_eq_true (by kernel_rfl)) (of_decide_eq_true (by kernel_rfl)) (by kernel_rfl) (by kernel_rfl) hn h
theorem goC228 {xs : List PV} {a : Ans} (hn : xs.length = 1) (h : Ends SC ⟨[.tmp 2], [0], ⟨[0], false, false⟩, lookL []⟩ (.run (Tryz.f228.body.getD .skip) (ent xs) []) a) : R SC 228 xs = some a := R_tab (t := tabC) (n := 1) (by kernel_rfl) Tryz.func228 (by kernel_rfl) (by kernel_rfl) (by kernel_rfl) (by kernel_rfl) rfl (of_decide_eq_true (by kernel_rfl)) (of_decide_eq_true (by kernel_rfl)) (by kernel_rfl) (by kernel_rfl) hn h
end Go.Proofs.YtmanllfmgghadaaGreatDoor.PVE
