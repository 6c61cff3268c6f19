/- The tables of the seat, by program: types, how functions are called, what lives at loops. -/
import Derived.Test.YtgnggcpcijcahaaGreatDoorL3
import Derived.Test.YtgnggcpcijcahaaGreatDoorL4
import Derived.Test.YtgnggcpcijcahaaGreatDoorL5
import Derived.Test.YtgnggcpcijcahaaGreatDoorL6
import Derived.Test.YtgnggcpcijcahaaGreatDoorChecked
set_option linter.unusedVariables false
set_option linter.unusedSimpArgs false
set_option maxRecDepth 100000
namespace Go.Proofs.YtgnggcpcijcahaaGreatDoor.PVE
open PV
noncomputable def tab : Tab := ⟨Tryz.prog, fun g => if g = 0 then some ([.sl ([[97], [97, 110], [97, 110, 100], [111, 102], [116, 104, 101], [116, 111]].map PV.str)]) else if g = 1 then some ([PV.ifc]) else if g = 2 then some ([PV.ifc]) else if g = 3 then some (Lib.pow10Tab.map (PV.int .u64)) else none,
  [(3, ⟨[0], false, false⟩), (4, ⟨[0], false, false⟩), (5, ⟨[0], false, false⟩), (10, ⟨[0], true, true⟩), (11, ⟨[0, 0, 0], false, false⟩), (12, ⟨[0, 0, 0], false, false⟩), (13, ⟨[0], false, false⟩), (14, ⟨[0, 0], false, false⟩), (15, ⟨[0, 0], false, false⟩), (16, ⟨[0, 0], false, false⟩), (17, ⟨[0], true, true⟩), (18, ⟨[0, 0], false, false⟩), (19, ⟨[0, 0], false, false⟩), (20, ⟨[0], true, true⟩), (21, ⟨[0], false, false⟩), (22, ⟨[0, 0], false, false⟩), (40, ⟨[0], false, true⟩), (41, ⟨[1, 0], false, true⟩), (42, ⟨[0, 0], false, false⟩), (43, ⟨[0, 0], false, false⟩), (44, ⟨[0, 0, 0], false, false⟩), (45, ⟨[0, 0], false, false⟩), (46, ⟨[0, 0, 0], false, false⟩), (47, ⟨[0, 0], false, false⟩), (48, ⟨[0, 0], false, false⟩), (49, ⟨[0, 0, 0], false, false⟩), (50, ⟨[0], false, false⟩), (51, ⟨[0, 0], false, false⟩), (52, ⟨[0, 0], false, false⟩), (53, ⟨[0], false, false⟩), (54, ⟨[0, 0], false, false⟩), (55, ⟨[0, 0], false, false⟩), (56, ⟨[1], true, true⟩), (57, ⟨[1, 0], false, true⟩), (58, ⟨[0, 0], false, false⟩), (59, ⟨[0], false, false⟩), (60, ⟨[0, 0, 0], false, false⟩), (61, ⟨[0, 0], false, false⟩), (62, ⟨[0, 0], false, false⟩), (63, ⟨[0, 0, 0], false, false⟩), (64, ⟨[0, 0], false, false⟩), (65, ⟨[0, 0], false, false⟩), (66, ⟨[1, 0], false, false⟩), (67, ⟨[0, 0], false, false⟩), (68, ⟨[0], false, false⟩), (69, ⟨[0, 0], false, false⟩), (70, ⟨[0, 0], false, false⟩), (71, ⟨[1, 0], false, true⟩), (72, ⟨[0, 0], false, false⟩), (73, ⟨[0, 0, 0], false, false⟩), (76, ⟨[0, 0, 0], false, false⟩), (77, ⟨[0, 0, 0], false, false⟩), (78, ⟨[0, 0, 0], false, false⟩), (82, ⟨[0, 0], false, false⟩), (83, ⟨[0, 0], false, false⟩), (87, ⟨[0], false, false⟩), (88, ⟨[1], false, true⟩), (90, ⟨[0], false, false⟩), (91, ⟨[0], false, false⟩), (92, ⟨[0, 0], false, false⟩), (93, ⟨[0, 0], false, false⟩), (94, ⟨[0, 0], false, false⟩), (95, ⟨[0, 0, 0], false, false⟩), (96, ⟨[0, 0, 0], false, false⟩), (97, ⟨[0, 0], false, false⟩), (98, ⟨[0, 0], false, false⟩), (99, ⟨[0], false, false⟩), (100, ⟨[0], false, false⟩), (101, ⟨[0, 0], false, false⟩), (102, ⟨[0, 2, 0], false, false⟩), (103, ⟨[0, 0], false, false⟩), (104, ⟨[0, 0, 0], false, false⟩), (105, ⟨[1], false, true⟩), (106, ⟨[1, 0], false, true⟩), (107, ⟨[1, 0], false, true⟩), (108, ⟨[1], true, true⟩), (109, ⟨[1, 0, 0], false, true⟩), (110, ⟨[0], false, false⟩), (111, ⟨[0, 0], false, false⟩), (112, ⟨[0], false, false⟩), (113, ⟨[0], false, false⟩), (114, ⟨[0], false, false⟩), (115, ⟨[0, 0], false, false⟩), (116, ⟨[0], false, false⟩), (117, ⟨[1, 0], false, false⟩), (118, ⟨[0, 0], false, false⟩), (119, ⟨[0, 0, 0], false, false⟩), (120, ⟨[0, 0], false, false⟩), (123, ⟨[0], false, false⟩), (124, ⟨[0], false, false⟩), (125, ⟨[0, 0, 0, 0], false, false⟩), (126, ⟨[0, 0], false, false⟩), (127, ⟨[0], false, false⟩), (128, ⟨[0, 0, 0], false, false⟩), (129, ⟨[0, 0], false, false⟩), (132, ⟨[0], false, false⟩), (133, ⟨[0], false, false⟩), (134, ⟨[0, 0, 0], false, false⟩), (135, ⟨[0], false, false⟩), (136, ⟨[0], false, false⟩), (137, ⟨[0], false, false⟩), (138, ⟨[0, 0], false, false⟩), (139, ⟨[0, 0], false, false⟩), (140, ⟨[0, 0], false, false⟩), (141, ⟨[0], false, false⟩), (142, ⟨[0], false, false⟩), (143, ⟨[0], false, false⟩), (144, ⟨[2, 0, 0, 0, 0], false, false⟩), (145, ⟨[0], false, false⟩), (146, ⟨[0, 0, 0], false, false⟩), (147, ⟨[0, 0, 0], false, false⟩), (148, ⟨[0, 0], false, false⟩), (149, ⟨[0, 0], false, false⟩), (150, ⟨[1], true, true⟩), (151, ⟨[1, 0], false, true⟩), (152, ⟨[0, 0], false, true⟩), (153, ⟨[0], false, false⟩), (154, ⟨[0, 0, 0], false, false⟩), (155, ⟨[1], false, true⟩), (156, ⟨[1, 0], false, true⟩), (157, ⟨[0], false, false⟩), (158, ⟨[0], false, false⟩), (159, ⟨[0, 0], false, false⟩), (160, ⟨[0], false, false⟩), (163, ⟨[0, 0], true, true⟩), (164, ⟨[0], false, false⟩), (166, ⟨[0, 0], false, false⟩), (177, ⟨[0, 0], false, false⟩), (178, ⟨[0], false, false⟩), (179, ⟨[0, 0, 0], false, false⟩), (180, ⟨[0, 0], false, false⟩), (190, ⟨[0], false, false⟩), (191, ⟨[0], false, false⟩), (192, ⟨[0, 0], false, false⟩), (193, ⟨[0, 0], false, false⟩), (194, ⟨[0, 0], false, false⟩), (195, ⟨[0, 0, 0], false, false⟩), (196, ⟨[2, 0], false, false⟩), (197, ⟨[0], false, false⟩), (198, ⟨[0], false, false⟩), (199, ⟨[0], false, false⟩), (200, ⟨[0, 0], false, false⟩), (201, ⟨[], false, false⟩), (202, ⟨[1], false, true⟩), (203, ⟨[0, 0], false, false⟩), (204, ⟨[0, 0], false, false⟩), (208, ⟨[0, 0, 0, 0], true, true⟩), (222, ⟨[0, 0], false, false⟩), (226, ⟨[0, 0, 0], false, false⟩), (227, ⟨[0], false, false⟩), (228, ⟨[1], false, false⟩), (229, ⟨[2], false, false⟩), (236, ⟨[0, 0], false, false⟩), (237, ⟨[0, 0], false, false⟩), (238, ⟨[0, 0], false, false⟩), (252, ⟨[0], false, false⟩), (253, ⟨[0], false, false⟩), (255, ⟨[0, 0], false, false⟩), (272, ⟨[0], false, false⟩)],
  [(3, [(0, [3, 4, 5, 6, 7, 8, 9]), (1, [4, 6, 7, 8])]), (4, [(0, [3, 4, 5, 6, 7, 8, 9]), (1, [3, 5, 6, 7, 8])]), (5, [(0, [3, 5, 6]), (1, [3, 5])]), (13, [(0, [1, 3]), (1, [1])]), (15, [(0, [0, 1, 5]), (1, [])]), (18, [(0, [0, 1, 5]), (1, [])]), (21, [(0, [1, 22, 23, 24]), (1, [1])]), (22, [(0, [2, 3, 5, 17, 18, 19]), (1, [5])]), (44, [(2, [3, 5, 9, 41, 42, 43]), (3, [9])]), (45, [(0, [0, 1, 5]), (1, [])]), (46, [(2, [3, 4, 5, 7, 8]), (3, [7])]), (47, [(0, [0, 3, 5]), (1, [0, 3])]), (48, [(0, [0, 1, 5]), (1, [])]), (50, [(0, [0, 3]), (1, [0])]), (51, [(0, [0, 1, 5]), (1, []), (4, [0, 1, 5, 6]), (5, [0, 1, 5])]), (52, [(0, [0, 1, 5, 6]), (1, [5])]), (54, [(0, [0, 3, 5]), (1, [0, 3])]), (55, [(0, [2, 3, 5, 10, 11, 12]), (1, [5])]), (57, [(2, [4, 5, 6, 1000000]), (3, [4, 5, 1000000])]), (58, [(0, [2, 3, 5, 6]), (1, [5])]), (59, [(0, [0, 3, 8, 9, 10]), (1, [0])]), (61, [(0, [0, 18, 19, 20]), (1, [])]), (63, [(0, [1, 2, 15, 16, 17]), (1, [])]), (64, [(0, [0, 5, 18, 19, 20]), (1, [5]), (4, [0, 5, 7, 18, 19, 20, 26, 27, 28]), (5, [0, 5, 18, 19, 20]), (8, [0, 5, 7, 9, 18, 19, 20, 26, 27, 28, 40, 41, 42]), (9, [0, 5, 7, 18, 19, 20, 26, 27, 28]), (12, [14, 101]), (13, [14])]), (68, [(0, [3, 6, 7, 8]), (1, [3])]), (72, [(0, [1, 4, 7, 8, 9]), (1, [4])]), (78, [(2, [0, 4, 5, 7]), (3, []), (6, [0, 4, 5, 8]), (7, [])]), (90, [(0, [0, 5, 6]), (1, [0])]), (92, [(0, [0, 1, 7, 8]), (1, [])]), (95, [(0, [1, 3, 7, 12, 13, 14]), (1, [7])]), (96, [(0, [0, 4, 5, 7, 8]), (1, [7])]), (97, [(0, [0, 1, 5]), (1, [])]), (99, [(0, [1, 3]), (1, [1])]), (100, [(0, [0, 3]), (1, [0])]), (101, [(0, [0, 1, 5]), (1, [])]), (102, [(0, [0, 1, 5, 7]), (1, [1]), (4, [0, 1, 5, 7, 8, 9]), (5, [0, 1, 5, 7])]), (103, [(0, [1, 2, 5, 6]), (1, [2, 5])]), (105, [(0, [0, 2, 3, 4, 5, 6, 1000000]), (1, [0, 2, 3, 4, 5, 1000000]), (4, [2, 3, 4, 5, 8, 1000000]), (5, [2, 3, 4, 5, 1000000])]), (109, [(0, [0, 1, 2, 6, 7, 8, 1000000]), (1, [6, 7, 1000000])]), (110, [(0, [0, 5, 6]), (1, [0])]), (112, [(0, [1, 6, 7, 8]), (1, [1])]), (114, [(0, [3, 8, 9, 10]), (1, [3])]), (116, [(0, [3, 8, 9, 10]), (1, [3])]), (119, [(0, [1, 2, 15, 16, 17]), (1, [])]), (126, [(0, [1, 2, 6]), (1, [])]), (128, [(2, [5, 9, 10]), (3, []), (6, [0, 4, 5, 11]), (7, [])]), (132, [(0, [0, 3, 4]), (1, [3])]), (133, [(0, [0, 3, 4]), (1, [])]), (134, [(0, [0, 1, 2, 8]), (1, [0, 1, 2, 8])]), (136, [(0, [3, 8, 9, 10]), (1, [3])]), (138, [(2, [1, 35, 36, 37]), (3, [])]), (139, [(0, [2, 6, 16, 17, 18]), (1, [6]), (4, [5, 6, 9, 10]), (5, [6])]), (140, [(0, [3, 5, 6, 7, 8]), (1, [7])]), (141, [(0, [4, 5, 6]), (1, [4, 5])]), (142, [(0, [0, 3]), (1, [0])]), (143, [(0, [3, 4, 5]), (1, [3])]), (151, [(0, [0, 1, 4, 5, 6, 7, 1000000]), (1, [4, 5, 1000000])]), (152, [(0, [0, 1, 5, 6]), (1, [5])]), (154, [(0, [1, 6, 7, 8]), (1, [6, 7])]), (159, [(0, [0, 1, 7, 8]), (1, [])]), (164, [(0, [0, 3, 4]), (1, [3]), (4, [0, 3, 4, 5]), (5, [0, 3, 4, 5])]), (166, [(0, [0, 1, 12, 13]), (1, [])]), (177, [(0, [1, 9, 10, 11]), (1, [])]), (178, [(0, [0, 3, 4]), (1, [0, 3])]), (192, [(2, [1, 183, 184, 185]), (3, [])]), (193, [(0, [0, 1, 12, 13]), (1, [])]), (194, [(0, [0, 1, 5]), (1, []), (4, [0, 1, 5, 6, 7]), (5, [0, 1, 5, 6])]), (195, [(0, [0, 1, 2, 7, 8, 9]), (1, [0, 7, 8])]), (196, [(0, [0, 1, 5]), (1, [0, 1, 5])]), (197, [(0, [0, 3, 4]), (1, [3]), (4, [0, 3, 4, 5]), (5, [0, 3, 4, 5])]), (198, [(0, [0, 3, 4, 5]), (1, [0, 3, 4])]), (200, [(0, [0, 1, 7, 8]), (1, [])]), (202, [(0, [0, 3, 4, 1000000]), (1, [3, 1000000])]), (203, [(0, [0, 1, 5]), (1, [5])]), (204, [(0, [0, 1, 7, 8]), (1, [0, 1])]), (208, [(0, [0, 1, 2, 3, 9, 10]), (1, [0, 9, 10])]), (222, [(0, [0, 1, 5]), (1, [])]), (226, [(0, [0, 1, 2, 7, 12, 13, 14]), (1, [0, 1, 2, 7])]), (236, [(0, [0, 1, 6, 7]), (1, [0, 1, 6])]), (252, [(0, [2, 4]), (1, [2])])],
  [(66, libSortH), (113, libNumber), (117, libSortE), (228, libSort), (229, libCompact), (237, libCount), (255, libIndex)]⟩
noncomputable abbrev S0 : Sys := tab.S
@[go_sem] theorem M3 : tab.E.M 3 = ⟨[0], false, false⟩ := by kernel_rfl
@[go_sem] theorem M4 : tab.E.M 4 = ⟨[0], false, false⟩ := by kernel_rfl
@[go_sem] theorem M5 : tab.E.M 5 = ⟨[0], false, false⟩ := by kernel_rfl
@[go_sem] theorem M10 : tab.E.M 10 = ⟨[0], true, true⟩ := by kernel_rfl
@[go_sem] theorem M11 : tab.E.M 11 = ⟨[0, 0, 0], false, false⟩ := by kernel_rfl
@[go_sem] theorem M12 : tab.E.M 12 = ⟨[0, 0, 0], false, false⟩ := by kernel_rfl
@[go_sem] theorem M13 : tab.E.M 13 = ⟨[0], false, false⟩ := by kernel_rfl
@[go_sem] theorem M14 : tab.E.M 14 = ⟨[0, 0], false, false⟩ := by kernel_rfl
@[go_sem] theorem M15 : tab.E.M 15 = ⟨[0, 0], false, false⟩ := by kernel_rfl
@[go_sem] theorem M16 : tab.E.M 16 = ⟨[0, 0], false, false⟩ := by kernel_rfl
@[go_sem] theorem M17 : tab.E.M 17 = ⟨[0], true, true⟩ := by kernel_rfl
@[go_sem] theorem M18 : tab.E.M 18 = ⟨[0, 0], false, false⟩ := by kernel_rfl
@[go_sem] theorem M19 : tab.E.M 19 = ⟨[0, 0], false, false⟩ := by kernel_rfl
@[go_sem] theorem M20 : tab.E.M 20 = ⟨[0], true, true⟩ := by kernel_rfl
@[go_sem] theorem M21 : tab.E.M 21 = ⟨[0], false, false⟩ := by kernel_rfl
@[go_sem] theorem M22 : tab.E.M 22 = ⟨[0, 0], false, false⟩ := by kernel_rfl
@[go_sem] theorem M40 : tab.E.M 40 = ⟨[0], false, true⟩ := by kernel_rfl
@[go_sem] theorem M41 : tab.E.M 41 = ⟨[1, 0], false, true⟩ := by kernel_rfl
@[go_sem] theorem M42 : tab.E.M 42 = ⟨[0, 0], false, false⟩ := by kernel_rfl
@[go_sem] theorem M43 : tab.E.M 43 = ⟨[0, 0], false, false⟩ := by kernel_rfl
@[go_sem] theorem M44 : tab.E.M 44 = ⟨[0, 0, 0], false, false⟩ := by kernel_rfl
@[go_sem] theorem M45 : tab.E.M 45 = ⟨[0, 0], false, false⟩ := by kernel_rfl
@[go_sem] theorem M46 : tab.E.M 46 = ⟨[0, 0, 0], false, false⟩ := by kernel_rfl
@[go_sem] theorem M47 : tab.E.M 47 = ⟨[0, 0], false, false⟩ := by kernel_rfl
@[go_sem] theorem M48 : tab.E.M 48 = ⟨[0, 0], false, false⟩ := by kernel_rfl
@[go_sem] theorem M49 : tab.E.M 49 = ⟨[0, 0, 0], false, false⟩ := by kernel_rfl
@[go_sem] theorem M50 : tab.E.M 50 = ⟨[0], false, false⟩ := by kernel_rfl
@[go_sem] theorem M51 : tab.E.M 51 = ⟨[0, 0], false, false⟩ := by kernel_rfl
@[go_sem] theorem M52 : tab.E.M 52 = ⟨[0, 0], false, false⟩ := by kernel_rfl
@[go_sem] theorem M53 : tab.E.M 53 = ⟨[0], false, false⟩ := by kernel_rfl
@[go_sem] theorem M54 : tab.E.M 54 = ⟨[0, 0], false, false⟩ := by kernel_rfl
@[go_sem] theorem M55 : tab.E.M 55 = ⟨[0, 0], false, false⟩ := by kernel_rfl
@[go_sem] theorem M56 : tab.E.M 56 = ⟨[1], true, true⟩ := by kernel_rfl
@[go_sem] theorem M57 : tab.E.M 57 = ⟨[1, 0], false, true⟩ := by kernel_rfl
@[go_sem] theorem M58 : tab.E.M 58 = ⟨[0, 0], false, false⟩ := by kernel_rfl
@[go_sem] theorem M59 : tab.E.M 59 = ⟨[0], false, false⟩ := by kernel_rfl
@[go_sem] theorem M60 : tab.E.M 60 = ⟨[0, 0, 0], false, false⟩ := by kernel_rfl
@[go_sem] theorem M61 : tab.E.M 61 = ⟨[0, 0], false, false⟩ := by kernel_rfl
@[go_sem] theorem M62 : tab.E.M 62 = ⟨[0, 0], false, false⟩ := by kernel_rfl
@[go_sem] theorem M63 : tab.E.M 63 = ⟨[0, 0, 0], false, false⟩ := by kernel_rfl
@[go_sem] theorem M64 : tab.E.M 64 = ⟨[0, 0], false, false⟩ := by kernel_rfl
@[go_sem] theorem M65 : tab.E.M 65 = ⟨[0, 0], false, false⟩ := by kernel_rfl
@[go_sem] theorem M66 : tab.E.M 66 = ⟨[1, 0], false, false⟩ := by kernel_rfl
@[go_sem] theorem M67 : tab.E.M 67 = ⟨[0, 0], false, false⟩ := by kernel_rfl
@[go_sem] theorem M68 : tab.E.M 68 = ⟨[0], false, false⟩ := by kernel_rfl
@[go_sem] theorem M69 : tab.E.M 69 = ⟨[0, 0], false, false⟩ := by kernel_rfl
@[go_sem] theorem M70 : tab.E.M 70 = ⟨[0, 0], false, false⟩ := by kernel_rfl
@[go_sem] theorem M71 : tab.E.M 71 = ⟨[1, 0], false, true⟩ := by kernel_rfl
@[go_sem] theorem M72 : tab.E.M 72 = ⟨[0, 0], false, false⟩ := by kernel_rfl
@[go_sem] theorem M73 : tab.E.M 73 = ⟨[0, 0, 0], false, false⟩ := by kernel_rfl
@[go_sem] theorem M76 : tab.E.M 76 = ⟨[0, 0, 0], false, false⟩ := by kernel_rfl
@[go_sem] theorem M77 : tab.E.M 77 = ⟨[0, 0, 0], false, false⟩ := by kernel_rfl
@[go_sem] theorem M78 : tab.E.M 78 = ⟨[0, 0, 0], false, false⟩ := by kernel_rfl
@[go_sem] theorem M82 : tab.E.M 82 = ⟨[0, 0], false, false⟩ := by kernel_rfl
@[go_sem] theorem M83 : tab.E.M 83 = ⟨[0, 0], false, false⟩ := by kernel_rfl
@[go_sem] theorem M87 : tab.E.M 87 = ⟨[0], false, false⟩ := by kernel_rfl
@[go_sem] theorem M88 : tab.E.M 88 = ⟨[1], false, true⟩ := by kernel_rfl
@[go_sem] theorem M90 : tab.E.M 90 = ⟨[0], false, false⟩ := by kernel_rfl
@[go_sem] theorem M91 : tab.E.M 91 = ⟨[0], false, false⟩ := by kernel_rfl
@[go_sem] theorem M92 : tab.E.M 92 = ⟨[0, 0], false, false⟩ := by kernel_rfl
@[go_sem] theorem M93 : tab.E.M 93 = ⟨[0, 0], false, false⟩ := by kernel_rfl
@[go_sem] theorem M94 : tab.E.M 94 = ⟨[0, 0], false, false⟩ := by kernel_rfl
@[go_sem] theorem M95 : tab.E.M 95 = ⟨[0, 0, 0], false, false⟩ := by kernel_rfl
@[go_sem] theorem M96 : tab.E.M 96 = ⟨[0, 0, 0], false, false⟩ := by kernel_rfl
@[go_sem] theorem M97 : tab.E.M 97 = ⟨[0, 0], false, false⟩ := by kernel_rfl
@[go_sem] theorem M98 : tab.E.M 98 = ⟨[0, 0], false, false⟩ := by kernel_rfl
@[go_sem] theorem M99 : tab.E.M 99 = ⟨[0], false, false⟩ := by kernel_rfl
@[go_sem] theorem M100 : tab.E.M 100 = ⟨[0], false, false⟩ := by kernel_rfl
@[go_sem] theorem M101 : tab.E.M 101 = ⟨[0, 0], false, false⟩ := by kernel_rfl
@[go_sem] theorem M102 : tab.E.M 102 = ⟨[0, 2, 0], false, false⟩ := by kernel_rfl
@[go_sem] theorem M103 : tab.E.M 103 = ⟨[0, 0], false, false⟩ := by kernel_rfl
@[go_sem] theorem M104 : tab.E.M 104 = ⟨[0, 0, 0], false, false⟩ := by kernel_rfl
@[go_sem] theorem M105 : tab.E.M 105 = ⟨[1], false, true⟩ := by kernel_rfl
@[go_sem] theorem M106 : tab.E.M 106 = ⟨[1, 0], false, true⟩ := by kernel_rfl
@[go_sem] theorem M107 : tab.E.M 107 = ⟨[1, 0], false, true⟩ := by kernel_rfl
@[go_sem] theorem M108 : tab.E.M 108 = ⟨[1], true, true⟩ := by kernel_rfl
@[go_sem] theorem M109 : tab.E.M 109 = ⟨[1, 0, 0], false, true⟩ := by kernel_rfl
@[go_sem] theorem M110 : tab.E.M 110 = ⟨[0], false, false⟩ := by kernel_rfl
@[go_sem] theorem M111 : tab.E.M 111 = ⟨[0, 0], false, false⟩ := by kernel_rfl
@[go_sem] theorem M112 : tab.E.M 112 = ⟨[0], false, false⟩ := by kernel_rfl
@[go_sem] theorem M113 : tab.E.M 113 = ⟨[0], false, false⟩ := by kernel_rfl
@[go_sem] theorem M114 : tab.E.M 114 = ⟨[0], false, false⟩ := by kernel_rfl
@[go_sem] theorem M115 : tab.E.M 115 = ⟨[0, 0], false, false⟩ := by kernel_rfl
@[go_sem] theorem M116 : tab.E.M 116 = ⟨[0], false, false⟩ := by kernel_rfl
@[go_sem] theorem M117 : tab.E.M 117 = ⟨[1, 0], false, false⟩ := by kernel_rfl
@[go_sem] theorem M118 : tab.E.M 118 = ⟨[0, 0], false, false⟩ := by kernel_rfl
@[go_sem] theorem M119 : tab.E.M 119 = ⟨[0, 0, 0], false, false⟩ := by kernel_rfl
@[go_sem] theorem M120 : tab.E.M 120 = ⟨[0, 0], false, false⟩ := by kernel_rfl
@[go_sem] theorem M123 : tab.E.M 123 = ⟨[0], false, false⟩ := by kernel_rfl
@[go_sem] theorem M124 : tab.E.M 124 = ⟨[0], false, false⟩ := by kernel_rfl
@[go_sem] theorem M125 : tab.E.M 125 = ⟨[0, 0, 0, 0], false, false⟩ := by kernel_rfl
@[go_sem] theorem M126 : tab.E.M 126 = ⟨[0, 0], false, false⟩ := by kernel_rfl
@[go_sem] theorem M127 : tab.E.M 127 = ⟨[0], false, false⟩ := by kernel_rfl
@[go_sem] theorem M128 : tab.E.M 128 = ⟨[0, 0, 0], false, false⟩ := by kernel_rfl
@[go_sem] theorem M129 : tab.E.M 129 = ⟨[0, 0], false, false⟩ := by kernel_rfl
@[go_sem] theorem M132 : tab.E.M 132 = ⟨[0], false, false⟩ := by kernel_rfl
@[go_sem] theorem M133 : tab.E.M 133 = ⟨[0], false, false⟩ := by kernel_rfl
@[go_sem] theorem M134 : tab.E.M 134 = ⟨[0, 0, 0], false, false⟩ := by kernel_rfl
@[go_sem] theorem M135 : tab.E.M 135 = ⟨[0], false, false⟩ := by kernel_rfl
@[go_sem] theorem M136 : tab.E.M 136 = ⟨[0], false, false⟩ := by kernel_rfl
@[go_sem] theorem M137 : tab.E.M 137 = ⟨[0], false, false⟩ := by kernel_rfl
@[go_sem] theorem M138 : tab.E.M 138 = ⟨[0, 0], false, false⟩ := by kernel_rfl
@[go_sem] theorem M139 : tab.E.M 139 = ⟨[0, 0], false, false⟩ := by kernel_rfl
@[go_sem] theorem M140 : tab.E.M 140 = ⟨[0, 0], false, false⟩ := by kernel_rfl
@[go_sem] theorem M141 : tab.E.M 141 = ⟨[0], false, false⟩ := by kernel_rfl
@[go_sem] theorem M142 : tab.E.M 142 = ⟨[0], false, false⟩ := by kernel_rfl
@[go_sem] theorem M143 : tab.E.M 143 = ⟨[0], false, false⟩ := by kernel_rfl
@[go_sem] theorem M144 : tab.E.M 144 = ⟨[2, 0, 0, 0, 0], false, false⟩ := by kernel_rfl
@[go_sem] theorem M145 : tab.E.M 145 = ⟨[0], false, false⟩ := by kernel_rfl
@[go_sem] theorem M146 : tab.E.M 146 = ⟨[0, 0, 0], false, false⟩ := by kernel_rfl
@[go_sem] theorem M147 : tab.E.M 147 = ⟨[0, 0, 0], false, false⟩ := by kernel_rfl
@[go_sem] theorem M148 : tab.E.M 148 = ⟨[0, 0], false, false⟩ := by kernel_rfl
@[go_sem] theorem M149 : tab.E.M 149 = ⟨[0, 0], false, false⟩ := by kernel_rfl
@[go_sem] theorem M150 : tab.E.M 150 = ⟨[1], true, true⟩ := by kernel_rfl
@[go_sem] theorem M151 : tab.E.M 151 = ⟨[1, 0], false, true⟩ := by kernel_rfl
@[go_sem] theorem M152 : tab.E.M 152 = ⟨[0, 0], false, true⟩ := by kernel_rfl
@[go_sem] theorem M153 : tab.E.M 153 = ⟨[0], false, false⟩ := by kernel_rfl
@[go_sem] theorem M154 : tab.E.M 154 = ⟨[0, 0, 0], false, false⟩ := by kernel_rfl
@[go_sem] theorem M155 : tab.E.M 155 = ⟨[1], false, true⟩ := by kernel_rfl
@[go_sem] theorem M156 : tab.E.M 156 = ⟨[1, 0], false, true⟩ := by kernel_rfl
@[go_sem] theorem M157 : tab.E.M 157 = ⟨[0], false, false⟩ := by kernel_rfl
@[go_sem] theorem M158 : tab.E.M 158 = ⟨[0], false, false⟩ := by kernel_rfl
@[go_sem] theorem M159 : tab.E.M 159 = ⟨[0, 0], false, false⟩ := by kernel_rfl
@[go_sem] theorem M160 : tab.E.M 160 = ⟨[0], false, false⟩ := by kernel_rfl
@[go_sem] theorem M163 : tab.E.M 163 = ⟨[0, 0], true, true⟩ := by kernel_rfl
@[go_sem] theorem M164 : tab.E.M 164 = ⟨[0], false, false⟩ := by kernel_rfl
@[go_sem] theorem M166 : tab.E.M 166 = ⟨[0, 0], false, false⟩ := by kernel_rfl
@[go_sem] theorem M177 : tab.E.M 177 = ⟨[0, 0], false, false⟩ := by kernel_rfl
@[go_sem] theorem M178 : tab.E.M 178 = ⟨[0], false, false⟩ := by kernel_rfl
@[go_sem] theorem M179 : tab.E.M 179 = ⟨[0, 0, 0], false, false⟩ := by kernel_rfl
@[go_sem] theorem M180 : tab.E.M 180 = ⟨[0, 0], false, false⟩ := by kernel_rfl
@[go_sem] theorem M190 : tab.E.M 190 = ⟨[0], false, false⟩ := by kernel_rfl
@[go_sem] theorem M191 : tab.E.M 191 = ⟨[0], false, false⟩ := by kernel_rfl
@[go_sem] theorem M192 : tab.E.M 192 = ⟨[0, 0], false, false⟩ := by kernel_rfl
@[go_sem] theorem M193 : tab.E.M 193 = ⟨[0, 0], false, false⟩ := by kernel_rfl
@[go_sem] theorem M194 : tab.E.M 194 = ⟨[0, 0], false, false⟩ := by kernel_rfl
@[go_sem] theorem M195 : tab.E.M 195 = ⟨[0, 0, 0], false, false⟩ := by kernel_rfl
@[go_sem] theorem M196 : tab.E.M 196 = ⟨[2, 0], false, false⟩ := by kernel_rfl
@[go_sem] theorem M197 : tab.E.M 197 = ⟨[0], false, false⟩ := by kernel_rfl
@[go_sem] theorem M198 : tab.E.M 198 = ⟨[0], false, false⟩ := by kernel_rfl
@[go_sem] theorem M199 : tab.E.M 199 = ⟨[0], false, false⟩ := by kernel_rfl
@[go_sem] theorem M200 : tab.E.M 200 = ⟨[0, 0], false, false⟩ := by kernel_rfl
@[go_sem] theorem M201 : tab.E.M 201 = ⟨[], false, false⟩ := by kernel_rfl
@[go_sem] theorem M202 : tab.E.M 202 = ⟨[1], false, true⟩ := by kernel_rfl
@[go_sem] theorem M203 : tab.E.M 203 = ⟨[0, 0], false, false⟩ := by kernel_rfl
@[go_sem] theorem M204 : tab.E.M 204 = ⟨[0, 0], false, false⟩ := by kernel_rfl
@[go_sem] theorem M208 : tab.E.M 208 = ⟨[0, 0, 0, 0], true, true⟩ := by kernel_rfl
@[go_sem] theorem M222 : tab.E.M 222 = ⟨[0, 0], false, false⟩ := by kernel_rfl
@[go_sem] theorem M226 : tab.E.M 226 = ⟨[0, 0, 0], false, false⟩ := by kernel_rfl
@[go_sem] theorem M227 : tab.E.M 227 = ⟨[0], false, false⟩ := by kernel_rfl
@[go_sem] theorem M228 : tab.E.M 228 = ⟨[1], false, false⟩ := by kernel_rfl
@[go_sem] theorem M229 : tab.E.M 229 = ⟨[2], false, false⟩ := by kernel_rfl
@[go_sem] theorem M236 : tab.E.M 236 = ⟨[0, 0], false, false⟩ := by kernel_rfl
@[go_sem] theorem M237 : tab.E.M 237 = ⟨[0, 0], false, false⟩ := by kernel_rfl
@[go_sem] theorem M238 : tab.E.M 238 = ⟨[0, 0], false, false⟩ := by kernel_rfl
@[go_sem] theorem M252 : tab.E.M 252 = ⟨[0], false, false⟩ := by kernel_rfl
@[go_sem] theorem M253 : tab.E.M 253 = ⟨[0], false, false⟩ := by kernel_rfl
@[go_sem] theorem M255 : tab.E.M 255 = ⟨[0, 0], false, false⟩ := by kernel_rfl
@[go_sem] theorem M272 : tab.E.M 272 = ⟨[0], false, false⟩ := by kernel_rfl
@[go_sem] theorem G0 : tab.E.G 0 = some ([.sl ([[97], [97, 110], [97, 110, 100], [111, 102], [116, 104, 101], [116, 111]].map PV.str)]) := rfl
@[go_sem] theorem G1 : tab.E.G 1 = some ([PV.ifc]) := rfl
@[go_sem] theorem G2 : tab.E.G 2 = some ([PV.ifc]) := rfl
@[go_sem] theorem G3 : tab.E.G 3 = some (Lib.pow10Tab.map (PV.int .u64)) := rfl
@[go_sem] theorem T3 : tab.E.T 3 = some ⟨.int .i64, 1, 8, [.int .i64 0]⟩ := by kernel_rfl
@[go_sem] theorem T4 : tab.E.T 4 = some ⟨.bool, 1, 1, [.bool false]⟩ := by kernel_rfl
@[go_sem] theorem T5 : tab.E.T 5 = some ⟨.int .u8, 1, 1, [.int .u8 0]⟩ := by kernel_rfl
@[go_sem] theorem T9 : tab.E.T 9 = some ⟨.str, 1, 16, [.str []]⟩ := by kernel_rfl
@[go_sem] theorem T21 : tab.E.T 21 = some ⟨.int .i32, 1, 4, [.int .i32 0]⟩ := by kernel_rfl
@[go_sem] theorem T22 : tab.E.T 22 = some ⟨.slice 5, 1, 24, [.slo 1 []]⟩ := by kernel_rfl
@[go_sem] theorem T23 : tab.E.T 23 = some ⟨.slice 102, 1, 24, [.slo 3 []]⟩ := by kernel_rfl
@[go_sem] theorem T24 : tab.E.T 24 = some ⟨.slice 76, 1, 24, [.slo 3 []]⟩ := by kernel_rfl
@[go_sem] theorem T25 : tab.E.T 25 = some ⟨.slice 93, 1, 24, [.slo 3 []]⟩ := by kernel_rfl
@[go_sem] theorem T27 : tab.E.T 27 = some ⟨.struct [(0, 23), (1, 24), (2, 25), (3, 3)], 4, 80, [.slo 3 [], .slo 3 [], .slo 3 [], .int .i64 0]⟩ := by kernel_rfl
@[go_sem] theorem T28 : tab.E.T 28 = some ⟨.slice 30, 1, 24, [.slo 6 []]⟩ := by kernel_rfl
@[go_sem] theorem T30 : tab.E.T 30 = some ⟨.struct [(0, 3), (1, 9), (2, 9), (3, 3), (4, 3), (5, 28)], 6, 80, [.int .i64 0, .str [], .str [], .int .i64 0, .int .i64 0, .slo 6 []]⟩ := by kernel_rfl
@[go_sem] theorem T37 : tab.E.T 37 = some ⟨.slice 3, 1, 24, [.slo 1 []]⟩ := by kernel_rfl
@[go_sem] theorem T44 : tab.E.T 44 = some ⟨.slice 47, 1, 24, [.slo 3 []]⟩ := by kernel_rfl
@[go_sem] theorem T47 : tab.E.T 47 = some ⟨.struct [(0, 3), (1, 9), (2, 3)], 3, 32, [.int .i64 0, .str [], .int .i64 0]⟩ := by kernel_rfl
@[go_sem] theorem T53 : tab.E.T 53 = some ⟨.slice 120, 1, 24, [.slo 2 []]⟩ := by kernel_rfl
@[go_sem] theorem T55 : tab.E.T 55 = some ⟨.struct [(0, 9), (1, 53)], 2, 40, [.str [], .slo 2 []]⟩ := by kernel_rfl
@[go_sem] theorem T62 : tab.E.T 62 = some ⟨.slice 9, 1, 24, [.slo 1 []]⟩ := by kernel_rfl
@[go_sem] theorem T66 : tab.E.T 66 = some ⟨.slice 71, 1, 24, [.slo 2 []]⟩ := by kernel_rfl
@[go_sem] theorem T71 : tab.E.T 71 = some ⟨.struct [(0, 3), (1, 37)], 2, 32, [.int .i64 0, .slo 1 []]⟩ := by kernel_rfl
@[go_sem] theorem T72 : tab.E.T 72 = some ⟨.ptr 114, 1, 8, [.lit (.pointer none)]⟩ := by kernel_rfl
@[go_sem] theorem T76 : tab.E.T 76 = some ⟨.struct [(0, 3), (1, 55)], 3, 48, [.int .i64 0, .str [], .slo 2 []]⟩ := by kernel_rfl
@[go_sem] theorem T87 : tab.E.T 87 = some ⟨.other, 1, 8, [.lit .nilFunc]⟩ := by kernel_rfl
@[go_sem] theorem T93 : tab.E.T 93 = some ⟨.struct [(0, 9), (1, 9), (2, 66)], 3, 56, [.str [], .str [], .slo 2 []]⟩ := by kernel_rfl
@[go_sem] theorem T102 : tab.E.T 102 = some ⟨.struct [(0, 9), (1, 3), (2, 3)], 3, 32, [.str [], .int .i64 0, .int .i64 0]⟩ := by kernel_rfl
@[go_sem] theorem T114 : tab.E.T 114 = some ⟨.struct [(0, 22), (1, 3)], 2, 32, [.slo 1 [], .int .i64 0]⟩ := by kernel_rfl
@[go_sem] theorem T120 : tab.E.T 120 = some ⟨.struct [(0, 9), (1, 9)], 2, 32, [.str [], .str []]⟩ := by kernel_rfl
@[go_sem] theorem T131 : tab.E.T 131 = some ⟨.map 134 66, 1, 8, [.lit (.map none)]⟩ := by kernel_rfl
@[go_sem] theorem T134 : tab.E.T 134 = some ⟨.struct [(0, 9), (1, 9)], 2, 32, [.str [], .str []]⟩ := by kernel_rfl
@[go_sem] theorem T165 : tab.E.T 165 = some ⟨.slice 168, 1, 24, [.slo 3 []]⟩ := by kernel_rfl
@[go_sem] theorem T168 : tab.E.T 168 = some ⟨.struct [(0, 9), (1, 3), (2, 3)], 3, 32, [.str [], .int .i64 0, .int .i64 0]⟩ := by kernel_rfl
@[go_sem] theorem T257 : tab.E.T 257 = some ⟨.struct [(0, 5), (1, 5)], 2, 2, [.int .u8 0, .int .u8 0]⟩ := by kernel_rfl
@[go_sem] theorem ES134 : tab.E.S 134 = some [2, 2] := by kernel_rfl
variable {xs : List PV} {a : Ans}
theorem RT {f n : Nat} {fu : Func} {ts : List ResultVar} {cm : CM} {ns : List Nat} {L : List (Nat × List Nat)} (hf : tab.P.funcs[f]? = some fu) (hxs : xs.length = n) (h : Ends tab.S ⟨ts, ns, cm, lookL L⟩ (.run (fu.body.getD .skip) (ent xs) []) a) (hl : isNone (tab.lib.lookup f) = true := by kernel_rfl) (hb : fu.body = some (fu.body.getD .skip) := by kernel_rfl) (hc : fnChk fu (fu.body.getD .skip) = true := by kernel_rfl) (hcm : tab.M f = cm := by kernel_rfl) (hX : tab.X f = L := by kernel_rfl)
    (hm : cm.modes.length = n := by rfl) (hn : n ≤ fu.ntmps := by exact of_decide_eq_true (by kernel_rfl)) (hg : n ≤ gBase := by exact of_decide_eq_true (by kernel_rfl)) (hts : fu.results.toList = ts := by kernel_rfl) (hns : fu.resultTypes.toList.map (nilSz tab.E) = ns := by kernel_rfl) : R tab.S f xs = some a := R_tab hl hf hb hc hcm hX hm hn hg hts hns hxs h
theorem go3 (hn : xs.length = 1) (h : Ends S0 ⟨[.tmp 2], [0], ⟨[0], false, false⟩, lookL [(0, [3, 4, 5, 6, 7, 8, 9]), (1, [4, 6, 7, 8])]⟩ (.run (Tryz.f3.body.getD .skip) (ent xs) []) a) : R S0 3 xs = some a := RT Tryz.func3 hn h
theorem go4 (hn : xs.length = 1) (h : Ends S0 ⟨[.tmp 2], [0], ⟨[0], false, false⟩, lookL [(0, [3, 4, 5, 6, 7, 8, 9]), (1, [3, 5, 6, 7, 8])]⟩ (.run (Tryz.f4.body.getD .skip) (ent xs) []) a) : R S0 4 xs = some a := RT Tryz.func4 hn h
theorem go5 (hn : xs.length = 1) (h : Ends S0 ⟨[.tmp 2], [0], ⟨[0], false, false⟩, lookL [(0, [3, 5, 6]), (1, [3, 5])]⟩ (.run (Tryz.f5.body.getD .skip) (ent xs) []) a) : R S0 5 xs = some a := RT Tryz.func5 hn h
theorem go10 (hn : xs.length = 1) (h : Ends S0 ⟨[.cell 2 27, .cell 3 30, .tmp 4], [0, 0, 0], ⟨[0], true, true⟩, lookL []⟩ (.run (Tryz.f10.body.getD .skip) (ent xs) []) a) : R S0 10 xs = some a := RT Tryz.func10 hn h
theorem go11 (hn : xs.length = 3) (h : Ends S0 ⟨[.tmp 6], [0], ⟨[0, 0, 0], false, false⟩, lookL []⟩ (.run (Tryz.f11.body.getD .skip) (ent xs) []) a) : R S0 11 xs = some a := RT Tryz.func11 hn h
theorem go12 (hn : xs.length = 3) (h : Ends S0 ⟨[.tmp 6], [0], ⟨[0, 0, 0], false, false⟩, lookL []⟩ (.run (Tryz.f12.body.getD .skip) (ent xs) []) a) : R S0 12 xs = some a := RT Tryz.func12 hn h
theorem go13 (hn : xs.length = 1) (h : Ends S0 ⟨[.tmp 2], [0], ⟨[0], false, false⟩, lookL [(0, [1, 3]), (1, [1])]⟩ (.run (Tryz.f13.body.getD .skip) (ent xs) []) a) : R S0 13 xs = some a := RT Tryz.func13 hn h
theorem go14 (hn : xs.length = 2) (h : Ends S0 ⟨[.tmp 4], [0], ⟨[0, 0], false, false⟩, lookL []⟩ (.run (Tryz.f14.body.getD .skip) (ent xs) []) a) : R S0 14 xs = some a := RT Tryz.func14 hn h
theorem go15 (hn : xs.length = 2) (h : Ends S0 ⟨[.tmp 4], [0], ⟨[0, 0], false, false⟩, lookL [(0, [0, 1, 5]), (1, [])]⟩ (.run (Tryz.f15.body.getD .skip) (ent xs) []) a) : R S0 15 xs = some a := RT Tryz.func15 hn h
theorem go16 (hn : xs.length = 2) (h : Ends S0 ⟨[.tmp 4], [1], ⟨[0, 0], false, false⟩, lookL []⟩ (.run (Tryz.f16.body.getD .skip) (ent xs) []) a) : R S0 16 xs = some a := RT Tryz.func16 hn h
theorem go17 (hn : xs.length = 1) (h : Ends S0 ⟨[.cell 2 27, .cell 3 30], [0, 0], ⟨[0], true, true⟩, lookL []⟩ (.run (Tryz.f17.body.getD .skip) (ent xs) []) a) : R S0 17 xs = some a := RT Tryz.func17 hn h
theorem go18 (hn : xs.length = 2) (h : Ends S0 ⟨[.tmp 4], [0], ⟨[0, 0], false, false⟩, lookL [(0, [0, 1, 5]), (1, [])]⟩ (.run (Tryz.f18.body.getD .skip) (ent xs) []) a) : R S0 18 xs = some a := RT Tryz.func18 hn h
theorem go19 (hn : xs.length = 2) (h : Ends S0 ⟨[.tmp 4], [1], ⟨[0, 0], false, false⟩, lookL []⟩ (.run (Tryz.f19.body.getD .skip) (ent xs) []) a) : R S0 19 xs = some a := RT Tryz.func19 hn h
theorem go20 (hn : xs.length = 1) (h : Ends S0 ⟨[.cell 2 27], [0], ⟨[0], true, true⟩, lookL []⟩ (.run (Tryz.f20.body.getD .skip) (ent xs) []) a) : R S0 20 xs = some a := RT Tryz.func20 hn h
theorem go21 (hn : xs.length = 1) (h : Ends S0 ⟨[.tmp 2], [0], ⟨[0], false, false⟩, lookL [(0, [1, 22, 23, 24]), (1, [1])]⟩ (.run (Tryz.f21.body.getD .skip) (ent xs) []) a) : R S0 21 xs = some a := RT Tryz.func21 hn h
theorem go22 (hn : xs.length = 2) (h : Ends S0 ⟨[.tmp 4], [3], ⟨[0, 0], false, false⟩, lookL [(0, [2, 3, 5, 17, 18, 19]), (1, [5])]⟩ (.run (Tryz.f22.body.getD .skip) (ent xs) []) a) : R S0 22 xs = some a := RT Tryz.func22 hn h
theorem go40 (hn : xs.length = 1) (h : Ends S0 ⟨[.tmp 2], [0], ⟨[0], false, true⟩, lookL []⟩ (.run (Tryz.f40.body.getD .skip) (ent xs) []) a) : R S0 40 xs = some a := RT Tryz.func40 hn h
theorem go41 (hn : xs.length = 2) (h : Ends S0 ⟨[.tmp 4], [0], ⟨[1, 0], false, true⟩, lookL []⟩ (.run (Tryz.f41.body.getD .skip) (ent xs) []) a) : R S0 41 xs = some a := RT Tryz.func41 hn h
theorem go42 (hn : xs.length = 2) (h : Ends S0 ⟨[.tmp 4], [0], ⟨[0, 0], false, false⟩, lookL []⟩ (.run (Tryz.f42.body.getD .skip) (ent xs) []) a) : R S0 42 xs = some a := RT Tryz.func42 hn h
theorem go43 (hn : xs.length = 2) (h : Ends S0 ⟨[.tmp 4], [0], ⟨[0, 0], false, false⟩, lookL []⟩ (.run (Tryz.f43.body.getD .skip) (ent xs) []) a) : R S0 43 xs = some a := RT Tryz.func43 hn h
theorem go44 (hn : xs.length = 3) (h : Ends S0 ⟨[.tmp 6], [0], ⟨[0, 0, 0], false, false⟩, lookL [(2, [3, 5, 9, 41, 42, 43]), (3, [9])]⟩ (.run (Tryz.f44.body.getD .skip) (ent xs) []) a) : R S0 44 xs = some a := RT Tryz.func44 hn h
theorem go45 (hn : xs.length = 2) (h : Ends S0 ⟨[.tmp 4], [0], ⟨[0, 0], false, false⟩, lookL [(0, [0, 1, 5]), (1, [])]⟩ (.run (Tryz.f45.body.getD .skip) (ent xs) []) a) : R S0 45 xs = some a := RT Tryz.func45 hn h
theorem go46 (hn : xs.length = 3) (h : Ends S0 ⟨[.tmp 6], [0], ⟨[0, 0, 0], false, false⟩, lookL [(2, [3, 4, 5, 7, 8]), (3, [7])]⟩ (.run (Tryz.f46.body.getD .skip) (ent xs) []) a) : R S0 46 xs = some a := RT Tryz.func46 hn h
theorem go47 (hn : xs.length = 2) (h : Ends S0 ⟨[.tmp 4], [0], ⟨[0, 0], false, false⟩, lookL [(0, [0, 3, 5]), (1, [0, 3])]⟩ (.run (Tryz.f47.body.getD .skip) (ent xs) []) a) : R S0 47 xs = some a := RT Tryz.func47 hn h
theorem go48 (hn : xs.length = 2) (h : Ends S0 ⟨[.tmp 4], [0], ⟨[0, 0], false, false⟩, lookL [(0, [0, 1, 5]), (1, [])]⟩ (.run (Tryz.f48.body.getD .skip) (ent xs) []) a) : R S0 48 xs = some a := RT Tryz.func48 hn h
theorem go49 (hn : xs.length = 3) (h : Ends S0 ⟨[.tmp 6], [0], ⟨[0, 0, 0], false, false⟩, lookL []⟩ (.run (Tryz.f49.body.getD .skip) (ent xs) []) a) : R S0 49 xs = some a := RT Tryz.func49 hn h
theorem go50 (hn : xs.length = 1) (h : Ends S0 ⟨[.tmp 2], [0], ⟨[0], false, false⟩, lookL [(0, [0, 3]), (1, [0])]⟩ (.run (Tryz.f50.body.getD .skip) (ent xs) []) a) : R S0 50 xs = some a := RT Tryz.func50 hn h
theorem go51 (hn : xs.length = 2) (h : Ends S0 ⟨[.tmp 4], [0], ⟨[0, 0], false, false⟩, lookL [(0, [0, 1, 5]), (1, []), (4, [0, 1, 5, 6]), (5, [0, 1, 5])]⟩ (.run (Tryz.f51.body.getD .skip) (ent xs) []) a) : R S0 51 xs = some a := RT Tryz.func51 hn h
theorem go52 (hn : xs.length = 2) (h : Ends S0 ⟨[.tmp 4], [3], ⟨[0, 0], false, false⟩, lookL [(0, [0, 1, 5, 6]), (1, [5])]⟩ (.run (Tryz.f52.body.getD .skip) (ent xs) []) a) : R S0 52 xs = some a := RT Tryz.func52 hn h
theorem go53 (hn : xs.length = 1) (h : Ends S0 ⟨[.tmp 2], [0], ⟨[0], false, false⟩, lookL []⟩ (.run (Tryz.f53.body.getD .skip) (ent xs) []) a) : R S0 53 xs = some a := RT Tryz.func53 hn h
theorem go54 (hn : xs.length = 2) (h : Ends S0 ⟨[.tmp 4], [0], ⟨[0, 0], false, false⟩, lookL [(0, [0, 3, 5]), (1, [0, 3])]⟩ (.run (Tryz.f54.body.getD .skip) (ent xs) []) a) : R S0 54 xs = some a := RT Tryz.func54 hn h
theorem go55 (hn : xs.length = 2) (h : Ends S0 ⟨[.tmp 4], [1], ⟨[0, 0], false, false⟩, lookL [(0, [2, 3, 5, 10, 11, 12]), (1, [5])]⟩ (.run (Tryz.f55.body.getD .skip) (ent xs) []) a) : R S0 55 xs = some a := RT Tryz.func55 hn h
theorem go56 (hn : xs.length = 1) (h : Ends S0 ⟨[.cell 2 27], [0], ⟨[1], true, true⟩, lookL []⟩ (.run (Tryz.f56.body.getD .skip) (ent xs) []) a) : R S0 56 xs = some a := RT Tryz.func56 hn h
theorem go57 (hn : xs.length = 2) (h : Ends S0 ⟨[.cell 4 30], [0], ⟨[1, 0], false, true⟩, lookL [(2, [4, 5, 6, 1000000]), (3, [4, 5, 1000000])]⟩ (.run (Tryz.f57.body.getD .skip) (ent xs) []) a) : R S0 57 xs = some a := RT Tryz.func57 hn h
theorem go58 (hn : xs.length = 2) (h : Ends S0 ⟨[.tmp 4], [1], ⟨[0, 0], false, false⟩, lookL [(0, [2, 3, 5, 6]), (1, [5])]⟩ (.run (Tryz.f58.body.getD .skip) (ent xs) []) a) : R S0 58 xs = some a := RT Tryz.func58 hn h
theorem go59 (hn : xs.length = 1) (h : Ends S0 ⟨[.tmp 2], [0], ⟨[0], false, false⟩, lookL [(0, [0, 3, 8, 9, 10]), (1, [0])]⟩ (.run (Tryz.f59.body.getD .skip) (ent xs) []) a) : R S0 59 xs = some a := RT Tryz.func59 hn h
theorem go60 (hn : xs.length = 3) (h : Ends S0 ⟨[.tmp 6], [0], ⟨[0, 0, 0], false, false⟩, lookL []⟩ (.run (Tryz.f60.body.getD .skip) (ent xs) []) a) : R S0 60 xs = some a := RT Tryz.func60 hn h
theorem go61 (hn : xs.length = 2) (h : Ends S0 ⟨[.tmp 4], [0], ⟨[0, 0], false, false⟩, lookL [(0, [0, 18, 19, 20]), (1, [])]⟩ (.run (Tryz.f61.body.getD .skip) (ent xs) []) a) : R S0 61 xs = some a := RT Tryz.func61 hn h
theorem go62 (hn : xs.length = 2) (h : Ends S0 ⟨[.tmp 4], [0], ⟨[0, 0], false, false⟩, lookL []⟩ (.run (Tryz.f62.body.getD .skip) (ent xs) []) a) : R S0 62 xs = some a := RT Tryz.func62 hn h
theorem go63 (hn : xs.length = 3) (h : Ends S0 ⟨[.tmp 6], [0], ⟨[0, 0, 0], false, false⟩, lookL [(0, [1, 2, 15, 16, 17]), (1, [])]⟩ (.run (Tryz.f63.body.getD .skip) (ent xs) []) a) : R S0 63 xs = some a := RT Tryz.func63 hn h
theorem go64 (hn : xs.length = 2) (h : Ends S0 ⟨[.tmp 4], [3], ⟨[0, 0], false, false⟩, lookL [(0, [0, 5, 18, 19, 20]), (1, [5]), (4, [0, 5, 7, 18, 19, 20, 26, 27, 28]), (5, [0, 5, 18, 19, 20]), (8, [0, 5, 7, 9, 18, 19, 20, 26, 27, 28, 40, 41, 42]), (9, [0, 5, 7, 18, 19, 20, 26, 27, 28]), (12, [14, 101]), (13, [14])]⟩ (.run (Tryz.f64.body.getD .skip) (ent xs) []) a) : R S0 64 xs = some a := RT Tryz.func64 hn h
theorem go65 (hn : xs.length = 2) (h : Ends S0 ⟨[.tmp 4], [0], ⟨[0, 0], false, false⟩, lookL []⟩ (.run (Tryz.f65.body.getD .skip) (ent xs) []) a) : R S0 65 xs = some a := RT Tryz.func65 hn h
theorem go71 (hn : xs.length = 2) (h : Ends S0 ⟨[.tmp 4], [0], ⟨[1, 0], false, true⟩, lookL []⟩ (.run (Tryz.f71.body.getD .skip) (ent xs) []) a) : R S0 71 xs = some a := RT Tryz.func71 hn h
theorem go72 (hn : xs.length = 2) (h : Ends S0 ⟨[.cell 4 102], [0], ⟨[0, 0], false, false⟩, lookL [(0, [1, 4, 7, 8, 9]), (1, [4])]⟩ (.run (Tryz.f72.body.getD .skip) (ent xs) []) a) : R S0 72 xs = some a := RT Tryz.func72 hn h
theorem go73 (hn : xs.length = 3) (h : Ends S0 ⟨[.tmp 6, .tmp 7], [0, 0], ⟨[0, 0, 0], false, false⟩, lookL []⟩ (.run (Tryz.f73.body.getD .skip) (ent xs) []) a) : R S0 73 xs = some a := RT Tryz.func73 hn h
theorem go76 (hn : xs.length = 3) (h : Ends S0 ⟨[.tmp 6], [0], ⟨[0, 0, 0], false, false⟩, lookL []⟩ (.run (Tryz.f76.body.getD .skip) (ent xs) []) a) : R S0 76 xs = some a := RT Tryz.func76 hn h
theorem go77 (hn : xs.length = 3) (h : Ends S0 ⟨[.tmp 6, .tmp 7], [0, 0], ⟨[0, 0, 0], false, false⟩, lookL []⟩ (.run (Tryz.f77.body.getD .skip) (ent xs) []) a) : R S0 77 xs = some a := RT Tryz.func77 hn h
theorem go78 (hn : xs.length = 3) (h : Ends S0 ⟨[.tmp 6], [0], ⟨[0, 0, 0], false, false⟩, lookL [(2, [0, 4, 5, 7]), (3, []), (6, [0, 4, 5, 8]), (7, [])]⟩ (.run (Tryz.f78.body.getD .skip) (ent xs) []) a) : R S0 78 xs = some a := RT Tryz.func78 hn h
theorem go82 (hn : xs.length = 2) (h : Ends S0 ⟨[.tmp 4], [0], ⟨[0, 0], false, false⟩, lookL []⟩ (.run (Tryz.f82.body.getD .skip) (ent xs) []) a) : R S0 82 xs = some a := RT Tryz.func82 hn h
theorem go83 (hn : xs.length = 2) (h : Ends S0 ⟨[.tmp 4], [0], ⟨[0, 0], false, false⟩, lookL []⟩ (.run (Tryz.f83.body.getD .skip) (ent xs) []) a) : R S0 83 xs = some a := RT Tryz.func83 hn h
theorem go87 (hn : xs.length = 1) (h : Ends S0 ⟨[.tmp 2], [0], ⟨[0], false, false⟩, lookL []⟩ (.run (Tryz.f87.body.getD .skip) (ent xs) []) a) : R S0 87 xs = some a := RT Tryz.func87 hn h
theorem go88 (hn : xs.length = 1) (h : Ends S0 ⟨[.tmp 2], [0], ⟨[1], false, true⟩, lookL []⟩ (.run (Tryz.f88.body.getD .skip) (ent xs) []) a) : R S0 88 xs = some a := RT Tryz.func88 hn h
theorem go90 (hn : xs.length = 1) (h : Ends S0 ⟨[.tmp 2], [0], ⟨[0], false, false⟩, lookL [(0, [0, 5, 6]), (1, [0])]⟩ (.run (Tryz.f90.body.getD .skip) (ent xs) []) a) : R S0 90 xs = some a := RT Tryz.func90 hn h
theorem go91 (hn : xs.length = 1) (h : Ends S0 ⟨[.tmp 2], [0], ⟨[0], false, false⟩, lookL []⟩ (.run (Tryz.f91.body.getD .skip) (ent xs) []) a) : R S0 91 xs = some a := RT Tryz.func91 hn h
theorem go92 (hn : xs.length = 2) (h : Ends S0 ⟨[.tmp 4], [0], ⟨[0, 0], false, false⟩, lookL [(0, [0, 1, 7, 8]), (1, [])]⟩ (.run (Tryz.f92.body.getD .skip) (ent xs) []) a) : R S0 92 xs = some a := RT Tryz.func92 hn h
theorem go93 (hn : xs.length = 2) (h : Ends S0 ⟨[.tmp 3], [0], ⟨[0, 0], false, false⟩, lookL []⟩ (.run (Tryz.f93.body.getD .skip) (ent xs) []) a) : R S0 93 xs = some a := RT Tryz.func93 hn h
theorem go94 (hn : xs.length = 2) (h : Ends S0 ⟨[.tmp 4], [0], ⟨[0, 0], false, false⟩, lookL []⟩ (.run (Tryz.f94.body.getD .skip) (ent xs) []) a) : R S0 94 xs = some a := RT Tryz.func94 hn h
theorem go95 (hn : xs.length = 3) (h : Ends S0 ⟨[.tmp 6], [0], ⟨[0, 0, 0], false, false⟩, lookL [(0, [1, 3, 7, 12, 13, 14]), (1, [7])]⟩ (.run (Tryz.f95.body.getD .skip) (ent xs) []) a) : R S0 95 xs = some a := RT Tryz.func95 hn h
theorem go96 (hn : xs.length = 3) (h : Ends S0 ⟨[.tmp 6], [0], ⟨[0, 0, 0], false, false⟩, lookL [(0, [0, 4, 5, 7, 8]), (1, [7])]⟩ (.run (Tryz.f96.body.getD .skip) (ent xs) []) a) : R S0 96 xs = some a := RT Tryz.func96 hn h
theorem go97 (hn : xs.length = 2) (h : Ends S0 ⟨[.tmp 4], [0], ⟨[0, 0], false, false⟩, lookL [(0, [0, 1, 5]), (1, [])]⟩ (.run (Tryz.f97.body.getD .skip) (ent xs) []) a) : R S0 97 xs = some a := RT Tryz.func97 hn h
theorem go98 (hn : xs.length = 2) (h : Ends S0 ⟨[.tmp 4], [0], ⟨[0, 0], false, false⟩, lookL []⟩ (.run (Tryz.f98.body.getD .skip) (ent xs) []) a) : R S0 98 xs = some a := RT Tryz.func98 hn h
theorem go99 (hn : xs.length = 1) (h : Ends S0 ⟨[.tmp 2], [0], ⟨[0], false, false⟩, lookL [(0, [1, 3]), (1, [1])]⟩ (.run (Tryz.f99.body.getD .skip) (ent xs) []) a) : R S0 99 xs = some a := RT Tryz.func99 hn h
theorem go100 (hn : xs.length = 1) (h : Ends S0 ⟨[.tmp 2], [0], ⟨[0], false, false⟩, lookL [(0, [0, 3]), (1, [0])]⟩ (.run (Tryz.f100.body.getD .skip) (ent xs) []) a) : R S0 100 xs = some a := RT Tryz.func100 hn h
theorem go101 (hn : xs.length = 2) (h : Ends S0 ⟨[.tmp 4], [0], ⟨[0, 0], false, false⟩, lookL [(0, [0, 1, 5]), (1, [])]⟩ (.run (Tryz.f101.body.getD .skip) (ent xs) []) a) : R S0 101 xs = some a := RT Tryz.func101 hn h
theorem go102 (hn : xs.length = 3) (h : Ends S0 ⟨[.tmp 6], [3], ⟨[0, 2, 0], false, false⟩, lookL [(0, [0, 1, 5, 7]), (1, [1]), (4, [0, 1, 5, 7, 8, 9]), (5, [0, 1, 5, 7])]⟩ (.run (Tryz.f102.body.getD .skip) (ent xs) []) a) : R S0 102 xs = some a := RT Tryz.func102 hn h
theorem go103 (hn : xs.length = 2) (h : Ends S0 ⟨[.tmp 4], [0], ⟨[0, 0], false, false⟩, lookL [(0, [1, 2, 5, 6]), (1, [2, 5])]⟩ (.run (Tryz.f103.body.getD .skip) (ent xs) []) a) : R S0 103 xs = some a := RT Tryz.func103 hn h
theorem go104 (hn : xs.length = 3) (h : Ends S0 ⟨[.tmp 6], [0], ⟨[0, 0, 0], false, false⟩, lookL []⟩ (.run (Tryz.f104.body.getD .skip) (ent xs) []) a) : R S0 104 xs = some a := RT Tryz.func104 hn h
theorem go105 (hn : xs.length = 1) (h : Ends S0 ⟨[.cell 2 27], [0], ⟨[1], false, true⟩, lookL [(0, [0, 2, 3, 4, 5, 6, 1000000]), (1, [0, 2, 3, 4, 5, 1000000]), (4, [2, 3, 4, 5, 8, 1000000]), (5, [2, 3, 4, 5, 1000000])]⟩ (.run (Tryz.f105.body.getD .skip) (ent xs) []) a) : R S0 105 xs = some a := RT Tryz.func105 hn h
theorem go106 (hn : xs.length = 2) (h : Ends S0 ⟨[.tmp 4], [0], ⟨[1, 0], false, true⟩, lookL []⟩ (.run (Tryz.f106.body.getD .skip) (ent xs) []) a) : R S0 106 xs = some a := RT Tryz.func106 hn h
theorem go107 (hn : xs.length = 2) (h : Ends S0 ⟨[.cell 4 55], [0], ⟨[1, 0], false, true⟩, lookL []⟩ (.run (Tryz.f107.body.getD .skip) (ent xs) []) a) : R S0 107 xs = some a := RT Tryz.func107 hn h
theorem go108 (hn : xs.length = 1) (h : Ends S0 ⟨[.tmp 2], [3], ⟨[1], true, true⟩, lookL []⟩ (.run (Tryz.f108.body.getD .skip) (ent xs) []) a) : R S0 108 xs = some a := RT Tryz.func108 hn h
theorem go109 (hn : xs.length = 3) (h : Ends S0 ⟨[.cell 6 30], [0], ⟨[1, 0, 0], false, true⟩, lookL [(0, [0, 1, 2, 6, 7, 8, 1000000]), (1, [6, 7, 1000000])]⟩ (.run (Tryz.f109.body.getD .skip) (ent xs) []) a) : R S0 109 xs = some a := RT Tryz.func109 hn h
theorem go110 (hn : xs.length = 1) (h : Ends S0 ⟨[.tmp 2], [0], ⟨[0], false, false⟩, lookL [(0, [0, 5, 6]), (1, [0])]⟩ (.run (Tryz.f110.body.getD .skip) (ent xs) []) a) : R S0 110 xs = some a := RT Tryz.func110 hn h
theorem go111 (hn : xs.length = 2) (h : Ends S0 ⟨[.tmp 4], [0], ⟨[0, 0], false, false⟩, lookL []⟩ (.run (Tryz.f111.body.getD .skip) (ent xs) []) a) : R S0 111 xs = some a := RT Tryz.func111 hn h
theorem go112 (hn : xs.length = 1) (h : Ends S0 ⟨[.tmp 2], [0], ⟨[0], false, false⟩, lookL [(0, [1, 6, 7, 8]), (1, [1])]⟩ (.run (Tryz.f112.body.getD .skip) (ent xs) []) a) : R S0 112 xs = some a := RT Tryz.func112 hn h
theorem go114 (hn : xs.length = 1) (h : Ends S0 ⟨[.tmp 2], [0], ⟨[0], false, false⟩, lookL [(0, [3, 8, 9, 10]), (1, [3])]⟩ (.run (Tryz.f114.body.getD .skip) (ent xs) []) a) : R S0 114 xs = some a := RT Tryz.func114 hn h
theorem go115 (hn : xs.length = 2) (h : Ends S0 ⟨[.tmp 3], [0], ⟨[0, 0], false, false⟩, lookL []⟩ (.run (Tryz.f115.body.getD .skip) (ent xs) []) a) : R S0 115 xs = some a := RT Tryz.func115 hn h
theorem go116 (hn : xs.length = 1) (h : Ends S0 ⟨[.tmp 2], [1], ⟨[0], false, false⟩, lookL [(0, [3, 8, 9, 10]), (1, [3])]⟩ (.run (Tryz.f116.body.getD .skip) (ent xs) []) a) : R S0 116 xs = some a := RT Tryz.func116 hn h
theorem go119 (hn : xs.length = 3) (h : Ends S0 ⟨[.tmp 6], [0], ⟨[0, 0, 0], false, false⟩, lookL [(0, [1, 2, 15, 16, 17]), (1, [])]⟩ (.run (Tryz.f119.body.getD .skip) (ent xs) []) a) : R S0 119 xs = some a := RT Tryz.func119 hn h
theorem go120 (hn : xs.length = 2) (h : Ends S0 ⟨[.tmp 4], [0], ⟨[0, 0], false, false⟩, lookL []⟩ (.run (Tryz.f120.body.getD .skip) (ent xs) []) a) : R S0 120 xs = some a := RT Tryz.func120 hn h
theorem go125 (hn : xs.length = 4) (h : Ends S0 ⟨[.tmp 8, .tmp 9], [0, 0], ⟨[0, 0, 0, 0], false, false⟩, lookL []⟩ (.run (Tryz.f125.body.getD .skip) (ent xs) []) a) : R S0 125 xs = some a := RT Tryz.func125 hn h
theorem go126 (hn : xs.length = 2) (h : Ends S0 ⟨[.tmp 4, .tmp 5], [0, 0], ⟨[0, 0], false, false⟩, lookL [(0, [1, 2, 6]), (1, [])]⟩ (.run (Tryz.f126.body.getD .skip) (ent xs) []) a) : R S0 126 xs = some a := RT Tryz.func126 hn h
theorem go127 (hn : xs.length = 1) (h : Ends S0 ⟨[.tmp 2, .tmp 3], [0, 0], ⟨[0], false, false⟩, lookL []⟩ (.run (Tryz.f127.body.getD .skip) (ent xs) []) a) : R S0 127 xs = some a := RT Tryz.func127 hn h
theorem go128 (hn : xs.length = 3) (h : Ends S0 ⟨[.tmp 6], [0], ⟨[0, 0, 0], false, false⟩, lookL [(2, [5, 9, 10]), (3, []), (6, [0, 4, 5, 11]), (7, [])]⟩ (.run (Tryz.f128.body.getD .skip) (ent xs) []) a) : R S0 128 xs = some a := RT Tryz.func128 hn h
theorem go129 (hn : xs.length = 2) (h : Ends S0 ⟨[.tmp 4], [0], ⟨[0, 0], false, false⟩, lookL []⟩ (.run (Tryz.f129.body.getD .skip) (ent xs) []) a) : R S0 129 xs = some a := RT Tryz.func129 hn h
theorem go132 (hn : xs.length = 1) (h : Ends S0 ⟨[.tmp 2], [0], ⟨[0], false, false⟩, lookL [(0, [0, 3, 4]), (1, [3])]⟩ (.run (Tryz.f132.body.getD .skip) (ent xs) []) a) : R S0 132 xs = some a := RT Tryz.func132 hn h
theorem go133 (hn : xs.length = 1) (h : Ends S0 ⟨[.tmp 2], [0], ⟨[0], false, false⟩, lookL [(0, [0, 3, 4]), (1, [])]⟩ (.run (Tryz.f133.body.getD .skip) (ent xs) []) a) : R S0 133 xs = some a := RT Tryz.func133 hn h
theorem go134 (hn : xs.length = 3) (h : Ends S0 ⟨[.tmp 6, .tmp 7], [0, 0], ⟨[0, 0, 0], false, false⟩, lookL [(0, [0, 1, 2, 8]), (1, [0, 1, 2, 8])]⟩ (.run (Tryz.f134.body.getD .skip) (ent xs) []) a) : R S0 134 xs = some a := RT Tryz.func134 hn h
theorem go135 (hn : xs.length = 1) (h : Ends S0 ⟨[.tmp 2], [0], ⟨[0], false, false⟩, lookL []⟩ (.run (Tryz.f135.body.getD .skip) (ent xs) []) a) : R S0 135 xs = some a := RT Tryz.func135 hn h
theorem go136 (hn : xs.length = 1) (h : Ends S0 ⟨[.tmp 2], [0], ⟨[0], false, false⟩, lookL [(0, [3, 8, 9, 10]), (1, [3])]⟩ (.run (Tryz.f136.body.getD .skip) (ent xs) []) a) : R S0 136 xs = some a := RT Tryz.func136 hn h
theorem go137 (hn : xs.length = 1) (h : Ends S0 ⟨[.tmp 2], [0], ⟨[0], false, false⟩, lookL []⟩ (.run (Tryz.f137.body.getD .skip) (ent xs) []) a) : R S0 137 xs = some a := RT Tryz.func137 hn h
theorem go138 (hn : xs.length = 2) (h : Ends S0 ⟨[.tmp 4], [0], ⟨[0, 0], false, false⟩, lookL [(2, [1, 35, 36, 37]), (3, [])]⟩ (.run (Tryz.f138.body.getD .skip) (ent xs) []) a) : R S0 138 xs = some a := RT Tryz.func138 hn h
theorem go139 (hn : xs.length = 2) (h : Ends S0 ⟨[.tmp 4], [0], ⟨[0, 0], false, false⟩, lookL [(0, [2, 6, 16, 17, 18]), (1, [6]), (4, [5, 6, 9, 10]), (5, [6])]⟩ (.run (Tryz.f139.body.getD .skip) (ent xs) []) a) : R S0 139 xs = some a := RT Tryz.func139 hn h
theorem go140 (hn : xs.length = 2) (h : Ends S0 ⟨[.tmp 4], [0], ⟨[0, 0], false, false⟩, lookL [(0, [3, 5, 6, 7, 8]), (1, [7])]⟩ (.run (Tryz.f140.body.getD .skip) (ent xs) []) a) : R S0 140 xs = some a := RT Tryz.func140 hn h
theorem go141 (hn : xs.length = 1) (h : Ends S0 ⟨[.tmp 2, .tmp 3], [1, 0], ⟨[0], false, false⟩, lookL [(0, [4, 5, 6]), (1, [4, 5])]⟩ (.run (Tryz.f141.body.getD .skip) (ent xs) []) a) : R S0 141 xs = some a := RT Tryz.func141 hn h
theorem go142 (hn : xs.length = 1) (h : Ends S0 ⟨[.tmp 2], [0], ⟨[0], false, false⟩, lookL [(0, [0, 3]), (1, [0])]⟩ (.run (Tryz.f142.body.getD .skip) (ent xs) []) a) : R S0 142 xs = some a := RT Tryz.func142 hn h
theorem go143 (hn : xs.length = 1) (h : Ends S0 ⟨[.tmp 2], [1], ⟨[0], false, false⟩, lookL [(0, [3, 4, 5]), (1, [3])]⟩ (.run (Tryz.f143.body.getD .skip) (ent xs) []) a) : R S0 143 xs = some a := RT Tryz.func143 hn h
theorem go144 (hn : xs.length = 5) (h : Ends S0 ⟨[.tmp 10], [3], ⟨[2, 0, 0, 0, 0], false, false⟩, lookL []⟩ (.run (Tryz.f144.body.getD .skip) (ent xs) []) a) : R S0 144 xs = some a := RT Tryz.func144 hn h
theorem go145 (hn : xs.length = 1) (h : Ends S0 ⟨[.tmp 2], [0], ⟨[0], false, false⟩, lookL []⟩ (.run (Tryz.f145.body.getD .skip) (ent xs) []) a) : R S0 145 xs = some a := RT Tryz.func145 hn h
theorem go146 (hn : xs.length = 3) (h : Ends S0 ⟨[.tmp 4], [0], ⟨[0, 0, 0], false, false⟩, lookL []⟩ (.run (Tryz.f146.body.getD .skip) (ent xs) []) a) : R S0 146 xs = some a := RT Tryz.func146 hn h
theorem go147 (hn : xs.length = 3) (h : Ends S0 ⟨[.tmp 6], [1], ⟨[0, 0, 0], false, false⟩, lookL []⟩ (.run (Tryz.f147.body.getD .skip) (ent xs) []) a) : R S0 147 xs = some a := RT Tryz.func147 hn h
theorem go148 (hn : xs.length = 2) (h : Ends S0 ⟨[.tmp 4], [0], ⟨[0, 0], false, false⟩, lookL []⟩ (.run (Tryz.f148.body.getD .skip) (ent xs) []) a) : R S0 148 xs = some a := RT Tryz.func148 hn h
theorem go149 (hn : xs.length = 2) (h : Ends S0 ⟨[.tmp 3], [0], ⟨[0, 0], false, false⟩, lookL []⟩ (.run (Tryz.f149.body.getD .skip) (ent xs) []) a) : R S0 149 xs = some a := RT Tryz.func149 hn h
theorem go150 (hn : xs.length = 1) (h : Ends S0 ⟨[.tmp 2], [3], ⟨[1], true, true⟩, lookL []⟩ (.run (Tryz.f150.body.getD .skip) (ent xs) []) a) : R S0 150 xs = some a := RT Tryz.func150 hn h
theorem go151 (hn : xs.length = 2) (h : Ends S0 ⟨[.cell 4 55], [0], ⟨[1, 0], false, true⟩, lookL [(0, [0, 1, 4, 5, 6, 7, 1000000]), (1, [4, 5, 1000000])]⟩ (.run (Tryz.f151.body.getD .skip) (ent xs) []) a) : R S0 151 xs = some a := RT Tryz.func151 hn h
theorem go152 (hn : xs.length = 2) (h : Ends S0 ⟨[.tmp 4], [3], ⟨[0, 0], false, true⟩, lookL [(0, [0, 1, 5, 6]), (1, [5])]⟩ (.run (Tryz.f152.body.getD .skip) (ent xs) []) a) : R S0 152 xs = some a := RT Tryz.func152 hn h
theorem go153 (hn : xs.length = 1) (h : Ends S0 ⟨[.tmp 2], [0], ⟨[0], false, false⟩, lookL []⟩ (.run (Tryz.f153.body.getD .skip) (ent xs) []) a) : R S0 153 xs = some a := RT Tryz.func153 hn h
theorem go154 (hn : xs.length = 3) (h : Ends S0 ⟨[.cell 6 27], [0], ⟨[0, 0, 0], false, false⟩, lookL [(0, [1, 6, 7, 8]), (1, [6, 7])]⟩ (.run (Tryz.f154.body.getD .skip) (ent xs) []) a) : R S0 154 xs = some a := RT Tryz.func154 hn h
theorem go155 (hn : xs.length = 1) (h : Ends S0 ⟨[.tmp 2], [0], ⟨[1], false, true⟩, lookL []⟩ (.run (Tryz.f155.body.getD .skip) (ent xs) []) a) : R S0 155 xs = some a := RT Tryz.func155 hn h
theorem go156 (hn : xs.length = 2) (h : Ends S0 ⟨[.cell 4 30], [0], ⟨[1, 0], false, true⟩, lookL []⟩ (.run (Tryz.f156.body.getD .skip) (ent xs) []) a) : R S0 156 xs = some a := RT Tryz.func156 hn h
theorem go157 (hn : xs.length = 1) (h : Ends S0 ⟨[.tmp 2], [0], ⟨[0], false, false⟩, lookL []⟩ (.run (Tryz.f157.body.getD .skip) (ent xs) []) a) : R S0 157 xs = some a := RT Tryz.func157 hn h
theorem go158 (hn : xs.length = 1) (h : Ends S0 ⟨[.tmp 2], [0], ⟨[0], false, false⟩, lookL []⟩ (.run (Tryz.f158.body.getD .skip) (ent xs) []) a) : R S0 158 xs = some a := RT Tryz.func158 hn h
theorem go159 (hn : xs.length = 2) (h : Ends S0 ⟨[.tmp 4], [0], ⟨[0, 0], false, false⟩, lookL [(0, [0, 1, 7, 8]), (1, [])]⟩ (.run (Tryz.f159.body.getD .skip) (ent xs) []) a) : R S0 159 xs = some a := RT Tryz.func159 hn h
theorem go160 (hn : xs.length = 1) (h : Ends S0 ⟨[.tmp 2], [0], ⟨[0], false, false⟩, lookL []⟩ (.run (Tryz.f160.body.getD .skip) (ent xs) []) a) : R S0 160 xs = some a := RT Tryz.func160 hn h
theorem go163 (hn : xs.length = 2) (h : Ends S0 ⟨[.tmp 4], [1], ⟨[0, 0], true, true⟩, lookL []⟩ (.run (Tryz.f163.body.getD .skip) (ent xs) []) a) : R S0 163 xs = some a := RT Tryz.func163 hn h
theorem go164 (hn : xs.length = 1) (h : Ends S0 ⟨[.tmp 2], [3], ⟨[0], false, false⟩, lookL [(0, [0, 3, 4]), (1, [3]), (4, [0, 3, 4, 5]), (5, [0, 3, 4, 5])]⟩ (.run (Tryz.f164.body.getD .skip) (ent xs) []) a) : R S0 164 xs = some a := RT Tryz.func164 hn h
theorem go166 (hn : xs.length = 2) (h : Ends S0 ⟨[.tmp 4], [0], ⟨[0, 0], false, false⟩, lookL [(0, [0, 1, 12, 13]), (1, [])]⟩ (.run (Tryz.f166.body.getD .skip) (ent xs) []) a) : R S0 166 xs = some a := RT Tryz.func166 hn h
theorem go177 (hn : xs.length = 2) (h : Ends S0 ⟨[.tmp 4, .tmp 5], [0, 0], ⟨[0, 0], false, false⟩, lookL [(0, [1, 9, 10, 11]), (1, [])]⟩ (.run (Tryz.f177.body.getD .skip) (ent xs) []) a) : R S0 177 xs = some a := RT Tryz.func177 hn h
theorem go178 (hn : xs.length = 1) (h : Ends S0 ⟨[.tmp 2], [0], ⟨[0], false, false⟩, lookL [(0, [0, 3, 4]), (1, [0, 3])]⟩ (.run (Tryz.f178.body.getD .skip) (ent xs) []) a) : R S0 178 xs = some a := RT Tryz.func178 hn h
theorem go179 (hn : xs.length = 3) (h : Ends S0 ⟨[.tmp 6], [1], ⟨[0, 0, 0], false, false⟩, lookL []⟩ (.run (Tryz.f179.body.getD .skip) (ent xs) []) a) : R S0 179 xs = some a := RT Tryz.func179 hn h
theorem go180 (hn : xs.length = 2) (h : Ends S0 ⟨[.tmp 4], [0], ⟨[0, 0], false, false⟩, lookL []⟩ (.run (Tryz.f180.body.getD .skip) (ent xs) []) a) : R S0 180 xs = some a := RT Tryz.func180 hn h
theorem go190 (hn : xs.length = 1) (h : Ends S0 ⟨[.tmp 2], [0], ⟨[0], false, false⟩, lookL []⟩ (.run (Tryz.f190.body.getD .skip) (ent xs) []) a) : R S0 190 xs = some a := RT Tryz.func190 hn h
theorem go191 (hn : xs.length = 1) (h : Ends S0 ⟨[.tmp 2], [0], ⟨[0], false, false⟩, lookL []⟩ (.run (Tryz.f191.body.getD .skip) (ent xs) []) a) : R S0 191 xs = some a := RT Tryz.func191 hn h
theorem go192 (hn : xs.length = 2) (h : Ends S0 ⟨[.tmp 4], [0], ⟨[0, 0], false, false⟩, lookL [(2, [1, 183, 184, 185]), (3, [])]⟩ (.run (Tryz.f192.body.getD .skip) (ent xs) []) a) : R S0 192 xs = some a := RT Tryz.func192 hn h
theorem go193 (hn : xs.length = 2) (h : Ends S0 ⟨[.tmp 4], [0], ⟨[0, 0], false, false⟩, lookL [(0, [0, 1, 12, 13]), (1, [])]⟩ (.run (Tryz.f193.body.getD .skip) (ent xs) []) a) : R S0 193 xs = some a := RT Tryz.func193 hn h
theorem go194 (hn : xs.length = 2) (h : Ends S0 ⟨[.tmp 4], [0], ⟨[0, 0], false, false⟩, lookL [(0, [0, 1, 5]), (1, []), (4, [0, 1, 5, 6, 7]), (5, [0, 1, 5, 6])]⟩ (.run (Tryz.f194.body.getD .skip) (ent xs) []) a) : R S0 194 xs = some a := RT Tryz.func194 hn h
theorem go195 (hn : xs.length = 3) (h : Ends S0 ⟨[.tmp 6], [1], ⟨[0, 0, 0], false, false⟩, lookL [(0, [0, 1, 2, 7, 8, 9]), (1, [0, 7, 8])]⟩ (.run (Tryz.f195.body.getD .skip) (ent xs) []) a) : R S0 195 xs = some a := RT Tryz.func195 hn h
theorem go196 (hn : xs.length = 2) (h : Ends S0 ⟨[.tmp 4], [1], ⟨[2, 0], false, false⟩, lookL [(0, [0, 1, 5]), (1, [0, 1, 5])]⟩ (.run (Tryz.f196.body.getD .skip) (ent xs) []) a) : R S0 196 xs = some a := RT Tryz.func196 hn h
theorem go197 (hn : xs.length = 1) (h : Ends S0 ⟨[.tmp 2], [3], ⟨[0], false, false⟩, lookL [(0, [0, 3, 4]), (1, [3]), (4, [0, 3, 4, 5]), (5, [0, 3, 4, 5])]⟩ (.run (Tryz.f197.body.getD .skip) (ent xs) []) a) : R S0 197 xs = some a := RT Tryz.func197 hn h
theorem go198 (hn : xs.length = 1) (h : Ends S0 ⟨[.tmp 2], [0], ⟨[0], false, false⟩, lookL [(0, [0, 3, 4, 5]), (1, [0, 3, 4])]⟩ (.run (Tryz.f198.body.getD .skip) (ent xs) []) a) : R S0 198 xs = some a := RT Tryz.func198 hn h
theorem go199 (hn : xs.length = 1) (h : Ends S0 ⟨[.tmp 2], [1], ⟨[0], false, false⟩, lookL []⟩ (.run (Tryz.f199.body.getD .skip) (ent xs) []) a) : R S0 199 xs = some a := RT Tryz.func199 hn h
theorem go200 (hn : xs.length = 2) (h : Ends S0 ⟨[.tmp 4], [0], ⟨[0, 0], false, false⟩, lookL [(0, [0, 1, 7, 8]), (1, [])]⟩ (.run (Tryz.f200.body.getD .skip) (ent xs) []) a) : R S0 200 xs = some a := RT Tryz.func200 hn h
theorem go201 (hn : xs.length = 0) (h : Ends S0 ⟨[.tmp 0], [3], ⟨[], false, false⟩, lookL []⟩ (.run (Tryz.f201.body.getD .skip) (ent xs) []) a) : R S0 201 xs = some a := RT Tryz.func201 hn h
theorem go202 (hn : xs.length = 1) (h : Ends S0 ⟨[.tmp 2], [0], ⟨[1], false, true⟩, lookL [(0, [0, 3, 4, 1000000]), (1, [3, 1000000])]⟩ (.run (Tryz.f202.body.getD .skip) (ent xs) []) a) : R S0 202 xs = some a := RT Tryz.func202 hn h
theorem go203 (hn : xs.length = 2) (h : Ends S0 ⟨[.tmp 4], [0], ⟨[0, 0], false, false⟩, lookL [(0, [0, 1, 5]), (1, [5])]⟩ (.run (Tryz.f203.body.getD .skip) (ent xs) []) a) : R S0 203 xs = some a := RT Tryz.func203 hn h
theorem go204 (hn : xs.length = 2) (h : Ends S0 ⟨[.tmp 4], [0], ⟨[0, 0], false, false⟩, lookL [(0, [0, 1, 7, 8]), (1, [0, 1])]⟩ (.run (Tryz.f204.body.getD .skip) (ent xs) []) a) : R S0 204 xs = some a := RT Tryz.func204 hn h
theorem go208 (hn : xs.length = 4) (h : Ends S0 ⟨[.tmp 8], [1], ⟨[0, 0, 0, 0], true, true⟩, lookL [(0, [0, 1, 2, 3, 9, 10]), (1, [0, 9, 10])]⟩ (.run (Tryz.f208.body.getD .skip) (ent xs) []) a) : R S0 208 xs = some a := RT Tryz.func208 hn h
theorem go222 (hn : xs.length = 2) (h : Ends S0 ⟨[.tmp 4], [0], ⟨[0, 0], false, false⟩, lookL [(0, [0, 1, 5]), (1, [])]⟩ (.run (Tryz.f222.body.getD .skip) (ent xs) []) a) : R S0 222 xs = some a := RT Tryz.func222 hn h
theorem go226 (hn : xs.length = 3) (h : Ends S0 ⟨[.tmp 6], [0], ⟨[0, 0, 0], false, false⟩, lookL [(0, [0, 1, 2, 7, 12, 13, 14]), (1, [0, 1, 2, 7])]⟩ (.run (Tryz.f226.body.getD .skip) (ent xs) []) a) : R S0 226 xs = some a := RT Tryz.func226 hn h
theorem go227 (hn : xs.length = 1) (h : Ends S0 ⟨[.tmp 2], [0], ⟨[0], false, false⟩, lookL []⟩ (.run (Tryz.f227.body.getD .skip) (ent xs) []) a) : R S0 227 xs = some a := RT Tryz.func227 hn h
theorem go238 (hn : xs.length = 2) (h : Ends S0 ⟨[.tmp 4], [0], ⟨[0, 0], false, false⟩, lookL []⟩ (.run (Tryz.f238.body.getD .skip) (ent xs) []) a) : R S0 238 xs = some a := RT Tryz.func238 hn h
noncomputable def tabC : Tab := ⟨Tryz.prog, fun _ => none,
  [(67, ⟨[0, 0], false, false⟩), (68, ⟨[0], false, false⟩), (69, ⟨[0, 0], false, false⟩), (70, ⟨[0, 0], false, false⟩), (118, ⟨[0, 0], false, false⟩), (123, ⟨[0], false, false⟩), (124, ⟨[0], false, false⟩)],
  [(68, [(0, [3, 6, 7, 8]), (1, [3])])],
  []⟩
noncomputable abbrev SC : Sys := tabC.S
@[go_sem] theorem MC67 : tabC.E.M 67 = ⟨[0, 0], false, false⟩ := by kernel_rfl
@[go_sem] theorem MC68 : tabC.E.M 68 = ⟨[0], false, false⟩ := by kernel_rfl
@[go_sem] theorem MC69 : tabC.E.M 69 = ⟨[0, 0], false, false⟩ := by kernel_rfl
@[go_sem] theorem MC70 : tabC.E.M 70 = ⟨[0, 0], false, false⟩ := by kernel_rfl
@[go_sem] theorem MC118 : tabC.E.M 118 = ⟨[0, 0], false, false⟩ := by kernel_rfl
@[go_sem] theorem MC123 : tabC.E.M 123 = ⟨[0], false, false⟩ := by kernel_rfl
@[go_sem] theorem MC124 : tabC.E.M 124 = ⟨[0], false, false⟩ := by kernel_rfl
@[go_sem] theorem TC3 : tabC.E.T 3 = some ⟨.int .i64, 1, 8, [.int .i64 0]⟩ := T3
@[go_sem] theorem TC4 : tabC.E.T 4 = some ⟨.bool, 1, 1, [.bool false]⟩ := T4
@[go_sem] theorem TC9 : tabC.E.T 9 = some ⟨.str, 1, 16, [.str []]⟩ := T9
@[go_sem] theorem TC37 : tabC.E.T 37 = some ⟨.slice 3, 1, 24, [.slo 1 []]⟩ := T37
@[go_sem] theorem TC47 : tabC.E.T 47 = some ⟨.struct [(0, 3), (1, 9), (2, 3)], 3, 32, [.int .i64 0, .str [], .int .i64 0]⟩ := T47
@[go_sem] theorem TC66 : tabC.E.T 66 = some ⟨.slice 71, 1, 24, [.slo 2 []]⟩ := T66
@[go_sem] theorem TC71 : tabC.E.T 71 = some ⟨.struct [(0, 3), (1, 37)], 2, 32, [.int .i64 0, .slo 1 []]⟩ := T71
@[go_sem] theorem TC93 : tabC.E.T 93 = some ⟨.struct [(0, 9), (1, 9), (2, 66)], 3, 56, [.str [], .str [], .slo 2 []]⟩ := T93
theorem goC67 {xs : List PV} {a : Ans} (hn : xs.length = 2) (h : Ends SC ⟨[.tmp 4], [0], ⟨[0, 0], false, false⟩, lookL []⟩ (.run (Tryz.f67.body.getD .skip) (ent xs) []) a) : R SC 67 xs = some a := R_tab (t := tabC) (n := 2) (by kernel_rfl) Tryz.func67 (by kernel_rfl) (by kernel_rfl) (by kernel_rfl) (by kernel_rfl) rfl (of_decide_eq_true (by kernel_rfl)) (of_decide_eq_true (by kernel_rfl)) (by kernel_rfl) (by kernel_rfl) hn h
theorem goC68 {xs : List PV} {a : Ans} (hn : xs.length = 1) (h : Ends SC ⟨[.tmp 2], [0], ⟨[0], false, false⟩, lookL [(0, [3, 6, 7, 8]), (1, [3])]⟩ (.run (Tryz.f68.body.getD .skip) (ent xs) []) a) : R SC 68 xs = some a := R_tab (t := tabC) (n := 1) (by kernel_rfl) Tryz.func68 (by kernel_rfl) (by kernel_rfl) (by kernel_rfl) (by kernel_rfl) rfl (of_decide_eq_true (by kernel_rfl)) (of_decide_eq_true (by kernel_rfl)) (by kernel_rfl) (by kernel_rfl) hn h
theorem goC69 {xs : List PV} {a : Ans} (hn : xs.length = 2) (h : Ends SC ⟨[.tmp 4], [0], ⟨[0, 0], false, false⟩, lookL []⟩ (.run (Tryz.f69.body.getD .skip) (ent xs) []) a) : R SC 69 xs = some a := R_tab (t := tabC) (n := 2) (by kernel_rfl) Tryz.func69 (by kernel_rfl) (by kernel_rfl) (by kernel_rfl) (by kernel_rfl) rfl (of_decide_eq_true (by kernel_rfl)) (of_decide_eq_true (by kernel_rfl)) (by kernel_rfl) (by kernel_rfl) hn h
theorem goC70 {xs : List PV} {a : Ans} (hn : xs.length = 2) (h : Ends SC ⟨[.tmp 4], [0], ⟨[0, 0], false, false⟩, lookL []⟩ (.run (Tryz.f70.body.getD .skip) (ent xs) []) a) : R SC 70 xs = some a := R_tab (t := tabC) (n := 2) (by kernel_rfl) Tryz.func70 (by kernel_rfl) (by kernel_rfl) (by kernel_rfl) (by kernel_rfl) rfl (of_decide_eq_true (by kernel_rfl)) (of_decide_eq_true (by kernel_rfl)) (by kernel_rfl) (by kernel_rfl) hn h
theorem goC118 {xs : List PV} {a : Ans} (hn : xs.length = 2) (h : Ends SC ⟨[.tmp 4], [0], ⟨[0, 0], false, false⟩, lookL []⟩ (.run (Tryz.f118.body.getD .skip) (ent xs) []) a) : R SC 118 xs = some a := R_tab (t := tabC) (n := 2) (by kernel_rfl) Tryz.func118 (by kernel_rfl) (by kernel_rfl) (by kernel_rfl) (by kernel_rfl) rfl (of_decide_eq_true (by kernel_rfl)) (of_decide_eq_true (by kernel_rfl)) (by kernel_rfl) (by kernel_rfl) hn h
theorem goC123 {xs : List PV} {a : Ans} (hn : xs.length = 1) (h : Ends SC ⟨[.tmp 2], [0], ⟨[0], false, false⟩, lookL []⟩ (.run (Tryz.f123.body.getD .skip) (ent xs) []) a) : R SC 123 xs = some a := R_tab (t := tabC) (n := 1) (by kernel_rfl) Tryz.func123 (by kernel_rfl) (by kernel_rfl) (by kernel_rfl) (by kernel_rfl) rfl (of_decide_eq_true (by kernel_rfl)) (of_decide_eq_true (by kernel_rfl)) (by kernel_rfl) (by kernel_rfl) hn h
theorem goC124 {xs : List PV} {a : Ans} (hn : xs.length = 1) (h : Ends SC ⟨[.tmp 2], [0], ⟨[0], false, false⟩, lookL []⟩ (.run (Tryz.f124.body.getD .skip) (ent xs) []) a) : R SC 124 xs = some a := R_tab (t := tabC) (n := 1) (by kernel_rfl) Tryz.func124 (by kernel_rfl) (by kernel_rfl) (by kernel_rfl) (by kernel_rfl) rfl (of_decide_eq_true (by kernel_rfl)) (of_decide_eq_true (by kernel_rfl)) (by kernel_rfl) (by kernel_rfl) hn h
end Go.Proofs.YtgnggcpcijcahaaGreatDoor.PVE
