/- The tables of the seat, by program: types, how functions are called, what lives at loops. -/
import Derived.Test.YtjagjfjhinlgiaaGreatDoorL3
import Derived.Test.YtjagjfjhinlgiaaGreatDoorL4
import Derived.Test.YtjagjfjhinlgiaaGreatDoorChecked
set_option linter.unusedVariables false
set_option linter.unusedSimpArgs false
set_option maxRecDepth 100000
namespace Go.Proofs.YtjagjfjhinlgiaaGreatDoor.PVE
open PV
noncomputable def tab : Tab := ⟨Tryz.prog, fun g => if g = 0 then some ([.sl ([[97], [97, 110], [97, 110, 100], [111, 102], [116, 104, 101], [116, 111]].map PV.str)]) else if g = 1 then some ([PV.ifc]) else if g = 2 then some ([PV.ifc]) else if g = 3 then some (Lib.pow10Tab.map (PV.int .u64)) else none,
  [(10, ⟨[0], false, false⟩), (11, ⟨[0], false, false⟩), (12, ⟨[0], false, false⟩), (13, ⟨[0], true, true⟩), (14, ⟨[0], false, false⟩), (15, ⟨[0], false, false⟩), (18, ⟨[0, 0], false, false⟩), (24, ⟨[0, 0], false, false⟩), (32, ⟨[0, 0], false, false⟩), (33, ⟨[0, 0], false, false⟩), (34, ⟨[0, 0], false, false⟩), (35, ⟨[0], false, false⟩), (36, ⟨[0], true, true⟩), (37, ⟨[0, 0], false, false⟩), (38, ⟨[0, 0], false, false⟩), (39, ⟨[0, 0, 0], false, false⟩), (40, ⟨[1], true, true⟩), (41, ⟨[0], false, true⟩), (42, ⟨[0], false, false⟩), (43, ⟨[0, 0, 0], false, false⟩), (44, ⟨[0, 0], false, false⟩), (45, ⟨[0, 0], false, false⟩), (46, ⟨[0, 0, 0], false, false⟩), (47, ⟨[0, 0], false, false⟩), (48, ⟨[0, 0], false, false⟩), (49, ⟨[0, 0], false, false⟩), (50, ⟨[0, 0], false, false⟩), (51, ⟨[0, 0, 0], false, false⟩), (52, ⟨[0], false, false⟩), (53, ⟨[0, 0], false, false⟩), (54, ⟨[0, 0], false, false⟩), (59, ⟨[0, 0], false, false⟩), (66, ⟨[1, 0], false, true⟩), (67, ⟨[0, 0], false, true⟩), (69, ⟨[0, 0, 0], false, false⟩), (73, ⟨[0], false, false⟩), (74, ⟨[0, 0], false, false⟩), (75, ⟨[0, 0], false, false⟩), (76, ⟨[1, 0], false, true⟩), (77, ⟨[0, 0], false, false⟩), (78, ⟨[0], false, false⟩), (79, ⟨[0, 0], false, false⟩), (80, ⟨[0, 0], false, false⟩), (81, ⟨[0, 0, 0], false, false⟩), (82, ⟨[1], false, true⟩), (83, ⟨[1, 0], false, true⟩), (84, ⟨[1, 0], false, true⟩), (85, ⟨[1], true, true⟩), (86, ⟨[0], false, false⟩), (87, ⟨[0, 0], false, false⟩), (88, ⟨[0], false, false⟩), (89, ⟨[0, 0], false, false⟩), (90, ⟨[0], false, false⟩), (91, ⟨[0], false, false⟩), (92, ⟨[0, 0], false, false⟩), (93, ⟨[0, 0], false, false⟩), (94, ⟨[0], false, false⟩), (95, ⟨[1, 0], false, false⟩), (96, ⟨[0, 0], false, false⟩), (97, ⟨[0], false, false⟩), (98, ⟨[0, 0], false, false⟩), (99, ⟨[0, 0, 0], false, false⟩), (100, ⟨[0, 0], false, false⟩), (101, ⟨[0, 0], false, false⟩), (102, ⟨[0, 0], false, false⟩), (103, ⟨[0], false, false⟩), (104, ⟨[0], false, false⟩), (105, ⟨[0, 0], false, false⟩), (106, ⟨[0, 2, 0], false, false⟩), (107, ⟨[0, 0], false, false⟩), (110, ⟨[1, 0], false, true⟩), (111, ⟨[1, 0], false, true⟩), (112, ⟨[1], false, true⟩), (113, ⟨[1, 0, 0], false, true⟩), (114, ⟨[0, 0, 0], false, false⟩), (115, ⟨[0, 0], false, false⟩), (116, ⟨[0, 0, 0], false, false⟩), (117, ⟨[0], false, false⟩), (118, ⟨[0, 0], false, false⟩), (119, ⟨[0, 0, 0], false, false⟩), (120, ⟨[0, 0, 0], false, false⟩), (121, ⟨[0, 0, 0], false, false⟩), (122, ⟨[0, 0, 0], false, false⟩), (123, ⟨[0, 0], false, false⟩), (124, ⟨[0, 0], false, false⟩), (125, ⟨[1], true, true⟩), (126, ⟨[0], false, false⟩), (127, ⟨[0], false, false⟩), (128, ⟨[0], false, false⟩), (129, ⟨[0, 0], false, false⟩), (130, ⟨[0], false, false⟩), (133, ⟨[0, 0], true, true⟩), (134, ⟨[0], false, false⟩), (135, ⟨[0], false, false⟩), (138, ⟨[0], false, false⟩), (139, ⟨[0, 0], false, false⟩), (140, ⟨[0], false, false⟩), (141, ⟨[0], false, false⟩), (142, ⟨[0], false, false⟩), (143, ⟨[0], false, false⟩), (144, ⟨[2, 0, 0, 0, 0], false, false⟩), (145, ⟨[1], false, true⟩), (146, ⟨[0, 0], false, false⟩), (147, ⟨[1, 0], false, true⟩), (148, ⟨[0, 0, 0], false, false⟩), (149, ⟨[0], false, false⟩), (150, ⟨[0, 0], false, false⟩), (151, ⟨[0, 0], false, false⟩), (152, ⟨[0, 0, 0, 0], false, false⟩), (153, ⟨[0], false, false⟩), (154, ⟨[0, 0], false, false⟩), (155, ⟨[], false, false⟩), (156, ⟨[0, 0], false, false⟩), (160, ⟨[0, 0, 0, 0], true, true⟩), (161, ⟨[0], false, false⟩), (162, ⟨[0], false, false⟩), (173, ⟨[0], false, false⟩), (174, ⟨[0, 0, 0], false, false⟩), (175, ⟨[2, 0], false, false⟩), (176, ⟨[0], false, false⟩), (177, ⟨[0], false, false⟩), (178, ⟨[0, 0, 0], false, false⟩), (179, ⟨[1], false, true⟩), (180, ⟨[0, 0, 0], false, false⟩), (181, ⟨[0, 0, 0], false, false⟩), (182, ⟨[0, 0], false, false⟩), (183, ⟨[0], false, false⟩), (184, ⟨[0], false, false⟩), (185, ⟨[0, 0, 0], false, false⟩), (186, ⟨[0], false, false⟩), (187, ⟨[0, 0], false, false⟩), (188, ⟨[0, 0], false, false⟩), (189, ⟨[0, 0], false, false⟩), (190, ⟨[1], false, false⟩), (191, ⟨[2], false, false⟩), (198, ⟨[0, 0], false, false⟩), (199, ⟨[0, 0], false, false⟩), (200, ⟨[0, 0], false, false⟩), (201, ⟨[0], false, false⟩), (207, ⟨[0], false, false⟩), (208, ⟨[0], false, false⟩), (209, ⟨[0, 0], false, false⟩), (210, ⟨[0, 0], false, false⟩), (211, ⟨[0, 0], false, false⟩), (212, ⟨[0], false, false⟩), (213, ⟨[0, 0], false, false⟩), (222, ⟨[0], false, false⟩), (223, ⟨[0], false, false⟩), (225, ⟨[0, 0], false, false⟩), (227, ⟨[0, 0], false, false⟩), (243, ⟨[0], false, false⟩)],
  [(10, [(0, [3, 6, 7, 8]), (1, [3, 6, 7])]), (11, [(0, [3, 5, 6]), (1, [3, 5])]), (12, [(0, [3, 4, 5, 6, 7]), (1, [5, 6])]), (14, [(0, [1, 22, 23, 24]), (1, [1])]), (15, [(0, [1, 3]), (1, [1])]), (18, [(0, [1, 5, 14, 15, 16]), (1, [5])]), (24, [(0, [0, 1, 5]), (1, [])]), (33, [(0, [2, 3, 5]), (1, [])]), (35, [(0, [0, 5, 6, 7]), (1, [0])]), (42, [(0, [0, 3, 8, 9, 10]), (1, [0])]), (44, [(0, [0, 18, 19, 20]), (1, [])]), (46, [(0, [1, 2, 15, 16, 17]), (1, [])]), (47, [(0, [0, 5, 18, 19, 20]), (1, [5]), (4, [0, 5, 7, 18, 19, 20, 26, 27, 28]), (5, [0, 5, 18, 19, 20]), (8, [0, 5, 7, 9, 18, 19, 20, 26, 27, 28, 40, 41, 42]), (9, [0, 5, 7, 18, 19, 20, 26, 27, 28]), (12, [14, 101]), (13, [14])]), (49, [(0, [0, 3, 5]), (1, [0, 3])]), (50, [(0, [0, 1, 5]), (1, [])]), (52, [(0, [0, 3]), (1, [0])]), (53, [(0, [0, 1, 5]), (1, []), (4, [0, 1, 5, 6]), (5, [0, 1, 5])]), (54, [(0, [0, 1, 5, 6]), (1, [5])]), (67, [(0, [0, 1, 5, 6]), (1, [5])]), (69, [(0, [1, 6, 7, 8]), (1, [6, 7])]), (75, [(0, [2, 3, 5, 10, 11, 12]), (1, [5])]), (76, [(2, [4, 5, 6, 1000000]), (3, [4, 5, 1000000])]), (77, [(0, [2, 3, 5, 6]), (1, [5])]), (79, [(0, [0, 3, 5]), (1, [0, 3])]), (82, [(0, [0, 2, 3, 4, 5, 6, 1000000]), (1, [0, 2, 3, 4, 5, 1000000]), (4, [2, 3, 4, 5, 8, 1000000]), (5, [2, 3, 4, 5, 1000000])]), (86, [(0, [0, 5, 6]), (1, [0])]), (88, [(0, [1, 6, 7, 8]), (1, [1])]), (89, [(0, [1, 4, 7, 8, 9]), (1, [4])]), (91, [(0, [3, 8, 9, 10]), (1, [3])]), (92, [(0, [0, 1, 7, 8]), (1, [])]), (94, [(0, [3, 8, 9, 10]), (1, [3])]), (97, [(0, [3, 6, 7, 8]), (1, [3])]), (99, [(0, [1, 2, 15, 16, 17]), (1, [])]), (101, [(0, [0, 1, 5]), (1, [])]), (103, [(0, [1, 3]), (1, [1])]), (104, [(0, [0, 3]), (1, [0])]), (105, [(0, [0, 1, 5]), (1, [])]), (106, [(0, [0, 1, 5, 7]), (1, [1]), (4, [0, 1, 5, 7, 8, 9]), (5, [0, 1, 5, 7])]), (107, [(0, [0, 1, 7, 8]), (1, [])]), (110, [(0, [0, 1, 4, 5, 6, 7, 1000000]), (1, [4, 5, 1000000])]), (113, [(0, [0, 1, 2, 6, 7, 8, 1000000]), (1, [6, 7, 1000000])]), (114, [(2, [0, 4, 5, 7]), (3, []), (6, [0, 4, 5, 8]), (7, [])]), (115, [(0, [1, 2, 5, 6]), (1, [2, 5])]), (118, [(2, [1, 35, 36, 37]), (3, [])]), (120, [(0, [1, 3, 7, 12, 13, 14]), (1, [7])]), (129, [(0, [0, 1, 7, 8]), (1, [])]), (134, [(0, [0, 3, 4]), (1, [3]), (4, [0, 3, 4, 5]), (5, [0, 3, 4, 5])]), (139, [(0, [0, 1, 12, 13]), (1, [])]), (141, [(0, [4, 5, 6]), (1, [4, 5])]), (142, [(0, [0, 3]), (1, [0])]), (143, [(0, [3, 4, 5]), (1, [3])]), (145, [(0, [0, 3, 4, 1000000]), (1, [3, 1000000])]), (146, [(0, [0, 1, 5]), (1, [5])]), (148, [(2, [5, 9, 10]), (3, []), (6, [0, 4, 5, 11]), (7, [])]), (150, [(2, [1, 183, 184, 185]), (3, [])]), (151, [(0, [2, 6, 16, 17, 18]), (1, [6]), (4, [5, 6, 9, 10]), (5, [6])]), (154, [(0, [0, 1, 7, 8]), (1, [])]), (156, [(0, [0, 1, 7, 8]), (1, [0, 1])]), (160, [(0, [0, 1, 2, 3, 9, 10]), (1, [0, 9, 10])]), (162, [(0, [3, 8, 9, 10]), (1, [3])]), (173, [(0, [0, 3, 4]), (1, [0, 3])]), (174, [(0, [0, 1, 2, 7, 8, 9]), (1, [0, 7, 8])]), (175, [(0, [0, 1, 5]), (1, [0, 1, 5])]), (176, [(0, [0, 3, 4]), (1, [3]), (4, [0, 3, 4, 5]), (5, [0, 3, 4, 5])]), (178, [(0, [0, 1, 2, 8]), (1, [0, 1, 2, 8])]), (183, [(0, [0, 3, 4, 5]), (1, [0, 3, 4])]), (184, [(0, [0, 3, 4]), (1, [3])]), (185, [(0, [0, 1, 2, 7, 12, 13, 14]), (1, [0, 1, 2, 7])]), (186, [(0, [0, 5, 6]), (1, [0])]), (188, [(0, [0, 1, 12, 13]), (1, [])]), (189, [(0, [1, 9, 10, 11]), (1, [])]), (198, [(0, [0, 1, 6, 7]), (1, [0, 1, 6])]), (208, [(0, [0, 3, 4]), (1, [])]), (209, [(0, [1, 2, 6]), (1, [])]), (210, [(0, [0, 1, 5]), (1, [])]), (211, [(0, [0, 1, 5]), (1, []), (4, [0, 1, 5, 6, 7]), (5, [0, 1, 5, 6])]), (222, [(0, [2, 4]), (1, [2])])],
  [(90, libNumber), (95, libSortE), (190, libSort), (191, libCompact), (199, libCount), (225, libIndex)]⟩
noncomputable abbrev S0 : Sys := tab.S
theorem prog_eq : tab.P = Tryz.prog := rfl
@[go_sem] theorem M10 : tab.E.M 10 = ⟨[0], false, false⟩ := by kernel_rfl
@[go_sem] theorem M11 : tab.E.M 11 = ⟨[0], false, false⟩ := by kernel_rfl
@[go_sem] theorem M12 : tab.E.M 12 = ⟨[0], false, false⟩ := by kernel_rfl
@[go_sem] theorem M13 : tab.E.M 13 = ⟨[0], true, true⟩ := by kernel_rfl
@[go_sem] theorem M14 : tab.E.M 14 = ⟨[0], false, false⟩ := by kernel_rfl
@[go_sem] theorem M15 : tab.E.M 15 = ⟨[0], false, false⟩ := by kernel_rfl
@[go_sem] theorem M18 : tab.E.M 18 = ⟨[0, 0], false, false⟩ := by kernel_rfl
@[go_sem] theorem M24 : tab.E.M 24 = ⟨[0, 0], false, false⟩ := by kernel_rfl
@[go_sem] theorem M32 : tab.E.M 32 = ⟨[0, 0], false, false⟩ := by kernel_rfl
@[go_sem] theorem M33 : tab.E.M 33 = ⟨[0, 0], false, false⟩ := by kernel_rfl
@[go_sem] theorem M34 : tab.E.M 34 = ⟨[0, 0], false, false⟩ := by kernel_rfl
@[go_sem] theorem M35 : tab.E.M 35 = ⟨[0], false, false⟩ := by kernel_rfl
@[go_sem] theorem M36 : tab.E.M 36 = ⟨[0], true, true⟩ := by kernel_rfl
@[go_sem] theorem M37 : tab.E.M 37 = ⟨[0, 0], false, false⟩ := by kernel_rfl
@[go_sem] theorem M38 : tab.E.M 38 = ⟨[0, 0], false, false⟩ := by kernel_rfl
@[go_sem] theorem M39 : tab.E.M 39 = ⟨[0, 0, 0], false, false⟩ := by kernel_rfl
@[go_sem] theorem M40 : tab.E.M 40 = ⟨[1], true, true⟩ := by kernel_rfl
@[go_sem] theorem M41 : tab.E.M 41 = ⟨[0], false, true⟩ := by kernel_rfl
@[go_sem] theorem M42 : tab.E.M 42 = ⟨[0], false, false⟩ := by kernel_rfl
@[go_sem] theorem M43 : tab.E.M 43 = ⟨[0, 0, 0], false, false⟩ := by kernel_rfl
@[go_sem] theorem M44 : tab.E.M 44 = ⟨[0, 0], false, false⟩ := by kernel_rfl
@[go_sem] theorem M45 : tab.E.M 45 = ⟨[0, 0], false, false⟩ := by kernel_rfl
@[go_sem] theorem M46 : tab.E.M 46 = ⟨[0, 0, 0], false, false⟩ := by kernel_rfl
@[go_sem] theorem M47 : tab.E.M 47 = ⟨[0, 0], false, false⟩ := by kernel_rfl
@[go_sem] theorem M48 : tab.E.M 48 = ⟨[0, 0], false, false⟩ := by kernel_rfl
@[go_sem] theorem M49 : tab.E.M 49 = ⟨[0, 0], false, false⟩ := by kernel_rfl
@[go_sem] theorem M50 : tab.E.M 50 = ⟨[0, 0], false, false⟩ := by kernel_rfl
@[go_sem] theorem M51 : tab.E.M 51 = ⟨[0, 0, 0], false, false⟩ := by kernel_rfl
@[go_sem] theorem M52 : tab.E.M 52 = ⟨[0], false, false⟩ := by kernel_rfl
@[go_sem] theorem M53 : tab.E.M 53 = ⟨[0, 0], false, false⟩ := by kernel_rfl
@[go_sem] theorem M54 : tab.E.M 54 = ⟨[0, 0], false, false⟩ := by kernel_rfl
@[go_sem] theorem M59 : tab.E.M 59 = ⟨[0, 0], false, false⟩ := by kernel_rfl
@[go_sem] theorem M66 : tab.E.M 66 = ⟨[1, 0], false, true⟩ := by kernel_rfl
@[go_sem] theorem M67 : tab.E.M 67 = ⟨[0, 0], false, true⟩ := by kernel_rfl
@[go_sem] theorem M69 : tab.E.M 69 = ⟨[0, 0, 0], false, false⟩ := by kernel_rfl
@[go_sem] theorem M73 : tab.E.M 73 = ⟨[0], false, false⟩ := by kernel_rfl
@[go_sem] theorem M74 : tab.E.M 74 = ⟨[0, 0], false, false⟩ := by kernel_rfl
@[go_sem] theorem M75 : tab.E.M 75 = ⟨[0, 0], false, false⟩ := by kernel_rfl
@[go_sem] theorem M76 : tab.E.M 76 = ⟨[1, 0], false, true⟩ := by kernel_rfl
@[go_sem] theorem M77 : tab.E.M 77 = ⟨[0, 0], false, false⟩ := by kernel_rfl
@[go_sem] theorem M78 : tab.E.M 78 = ⟨[0], false, false⟩ := by kernel_rfl
@[go_sem] theorem M79 : tab.E.M 79 = ⟨[0, 0], false, false⟩ := by kernel_rfl
@[go_sem] theorem M80 : tab.E.M 80 = ⟨[0, 0], false, false⟩ := by kernel_rfl
@[go_sem] theorem M81 : tab.E.M 81 = ⟨[0, 0, 0], false, false⟩ := by kernel_rfl
@[go_sem] theorem M82 : tab.E.M 82 = ⟨[1], false, true⟩ := by kernel_rfl
@[go_sem] theorem M83 : tab.E.M 83 = ⟨[1, 0], false, true⟩ := by kernel_rfl
@[go_sem] theorem M84 : tab.E.M 84 = ⟨[1, 0], false, true⟩ := by kernel_rfl
@[go_sem] theorem M85 : tab.E.M 85 = ⟨[1], true, true⟩ := by kernel_rfl
@[go_sem] theorem M86 : tab.E.M 86 = ⟨[0], false, false⟩ := by kernel_rfl
@[go_sem] theorem M87 : tab.E.M 87 = ⟨[0, 0], false, false⟩ := by kernel_rfl
@[go_sem] theorem M88 : tab.E.M 88 = ⟨[0], false, false⟩ := by kernel_rfl
@[go_sem] theorem M89 : tab.E.M 89 = ⟨[0, 0], false, false⟩ := by kernel_rfl
@[go_sem] theorem M90 : tab.E.M 90 = ⟨[0], false, false⟩ := by kernel_rfl
@[go_sem] theorem M91 : tab.E.M 91 = ⟨[0], false, false⟩ := by kernel_rfl
@[go_sem] theorem M92 : tab.E.M 92 = ⟨[0, 0], false, false⟩ := by kernel_rfl
@[go_sem] theorem M93 : tab.E.M 93 = ⟨[0, 0], false, false⟩ := by kernel_rfl
@[go_sem] theorem M94 : tab.E.M 94 = ⟨[0], false, false⟩ := by kernel_rfl
@[go_sem] theorem M95 : tab.E.M 95 = ⟨[1, 0], false, false⟩ := by kernel_rfl
@[go_sem] theorem M96 : tab.E.M 96 = ⟨[0, 0], false, false⟩ := by kernel_rfl
@[go_sem] theorem M97 : tab.E.M 97 = ⟨[0], false, false⟩ := by kernel_rfl
@[go_sem] theorem M98 : tab.E.M 98 = ⟨[0, 0], false, false⟩ := by kernel_rfl
@[go_sem] theorem M99 : tab.E.M 99 = ⟨[0, 0, 0], false, false⟩ := by kernel_rfl
@[go_sem] theorem M100 : tab.E.M 100 = ⟨[0, 0], false, false⟩ := by kernel_rfl
@[go_sem] theorem M101 : tab.E.M 101 = ⟨[0, 0], false, false⟩ := by kernel_rfl
@[go_sem] theorem M102 : tab.E.M 102 = ⟨[0, 0], false, false⟩ := by kernel_rfl
@[go_sem] theorem M103 : tab.E.M 103 = ⟨[0], false, false⟩ := by kernel_rfl
@[go_sem] theorem M104 : tab.E.M 104 = ⟨[0], false, false⟩ := by kernel_rfl
@[go_sem] theorem M105 : tab.E.M 105 = ⟨[0, 0], false, false⟩ := by kernel_rfl
@[go_sem] theorem M106 : tab.E.M 106 = ⟨[0, 2, 0], false, false⟩ := by kernel_rfl
@[go_sem] theorem M107 : tab.E.M 107 = ⟨[0, 0], false, false⟩ := by kernel_rfl
@[go_sem] theorem M110 : tab.E.M 110 = ⟨[1, 0], false, true⟩ := by kernel_rfl
@[go_sem] theorem M111 : tab.E.M 111 = ⟨[1, 0], false, true⟩ := by kernel_rfl
@[go_sem] theorem M112 : tab.E.M 112 = ⟨[1], false, true⟩ := by kernel_rfl
@[go_sem] theorem M113 : tab.E.M 113 = ⟨[1, 0, 0], false, true⟩ := by kernel_rfl
@[go_sem] theorem M114 : tab.E.M 114 = ⟨[0, 0, 0], false, false⟩ := by kernel_rfl
@[go_sem] theorem M115 : tab.E.M 115 = ⟨[0, 0], false, false⟩ := by kernel_rfl
@[go_sem] theorem M116 : tab.E.M 116 = ⟨[0, 0, 0], false, false⟩ := by kernel_rfl
@[go_sem] theorem M117 : tab.E.M 117 = ⟨[0], false, false⟩ := by kernel_rfl
@[go_sem] theorem M118 : tab.E.M 118 = ⟨[0, 0], false, false⟩ := by kernel_rfl
@[go_sem] theorem M119 : tab.E.M 119 = ⟨[0, 0, 0], false, false⟩ := by kernel_rfl
@[go_sem] theorem M120 : tab.E.M 120 = ⟨[0, 0, 0], false, false⟩ := by kernel_rfl
@[go_sem] theorem M121 : tab.E.M 121 = ⟨[0, 0, 0], false, false⟩ := by kernel_rfl
@[go_sem] theorem M122 : tab.E.M 122 = ⟨[0, 0, 0], false, false⟩ := by kernel_rfl
@[go_sem] theorem M123 : tab.E.M 123 = ⟨[0, 0], false, false⟩ := by kernel_rfl
@[go_sem] theorem M124 : tab.E.M 124 = ⟨[0, 0], false, false⟩ := by kernel_rfl
@[go_sem] theorem M125 : tab.E.M 125 = ⟨[1], true, true⟩ := by kernel_rfl
@[go_sem] theorem M126 : tab.E.M 126 = ⟨[0], false, false⟩ := by kernel_rfl
@[go_sem] theorem M127 : tab.E.M 127 = ⟨[0], false, false⟩ := by kernel_rfl
@[go_sem] theorem M128 : tab.E.M 128 = ⟨[0], false, false⟩ := by kernel_rfl
@[go_sem] theorem M129 : tab.E.M 129 = ⟨[0, 0], false, false⟩ := by kernel_rfl
@[go_sem] theorem M130 : tab.E.M 130 = ⟨[0], false, false⟩ := by kernel_rfl
@[go_sem] theorem M133 : tab.E.M 133 = ⟨[0, 0], true, true⟩ := by kernel_rfl
@[go_sem] theorem M134 : tab.E.M 134 = ⟨[0], false, false⟩ := by kernel_rfl
@[go_sem] theorem M135 : tab.E.M 135 = ⟨[0], false, false⟩ := by kernel_rfl
@[go_sem] theorem M138 : tab.E.M 138 = ⟨[0], false, false⟩ := by kernel_rfl
@[go_sem] theorem M139 : tab.E.M 139 = ⟨[0, 0], false, false⟩ := by kernel_rfl
@[go_sem] theorem M140 : tab.E.M 140 = ⟨[0], false, false⟩ := by kernel_rfl
@[go_sem] theorem M141 : tab.E.M 141 = ⟨[0], false, false⟩ := by kernel_rfl
@[go_sem] theorem M142 : tab.E.M 142 = ⟨[0], false, false⟩ := by kernel_rfl
@[go_sem] theorem M143 : tab.E.M 143 = ⟨[0], false, false⟩ := by kernel_rfl
@[go_sem] theorem M144 : tab.E.M 144 = ⟨[2, 0, 0, 0, 0], false, false⟩ := by kernel_rfl
@[go_sem] theorem M145 : tab.E.M 145 = ⟨[1], false, true⟩ := by kernel_rfl
@[go_sem] theorem M146 : tab.E.M 146 = ⟨[0, 0], false, false⟩ := by kernel_rfl
@[go_sem] theorem M147 : tab.E.M 147 = ⟨[1, 0], false, true⟩ := by kernel_rfl
@[go_sem] theorem M148 : tab.E.M 148 = ⟨[0, 0, 0], false, false⟩ := by kernel_rfl
@[go_sem] theorem M149 : tab.E.M 149 = ⟨[0], false, false⟩ := by kernel_rfl
@[go_sem] theorem M150 : tab.E.M 150 = ⟨[0, 0], false, false⟩ := by kernel_rfl
@[go_sem] theorem M151 : tab.E.M 151 = ⟨[0, 0], false, false⟩ := by kernel_rfl
@[go_sem] theorem M152 : tab.E.M 152 = ⟨[0, 0, 0, 0], false, false⟩ := by kernel_rfl
@[go_sem] theorem M153 : tab.E.M 153 = ⟨[0], false, false⟩ := by kernel_rfl
@[go_sem] theorem M154 : tab.E.M 154 = ⟨[0, 0], false, false⟩ := by kernel_rfl
@[go_sem] theorem M155 : tab.E.M 155 = ⟨[], false, false⟩ := by kernel_rfl
@[go_sem] theorem M156 : tab.E.M 156 = ⟨[0, 0], false, false⟩ := by kernel_rfl
@[go_sem] theorem M160 : tab.E.M 160 = ⟨[0, 0, 0, 0], true, true⟩ := by kernel_rfl
@[go_sem] theorem M161 : tab.E.M 161 = ⟨[0], false, false⟩ := by kernel_rfl
@[go_sem] theorem M162 : tab.E.M 162 = ⟨[0], false, false⟩ := by kernel_rfl
@[go_sem] theorem M173 : tab.E.M 173 = ⟨[0], false, false⟩ := by kernel_rfl
@[go_sem] theorem M174 : tab.E.M 174 = ⟨[0, 0, 0], false, false⟩ := by kernel_rfl
@[go_sem] theorem M175 : tab.E.M 175 = ⟨[2, 0], false, false⟩ := by kernel_rfl
@[go_sem] theorem M176 : tab.E.M 176 = ⟨[0], false, false⟩ := by kernel_rfl
@[go_sem] theorem M177 : tab.E.M 177 = ⟨[0], false, false⟩ := by kernel_rfl
@[go_sem] theorem M178 : tab.E.M 178 = ⟨[0, 0, 0], false, false⟩ := by kernel_rfl
@[go_sem] theorem M179 : tab.E.M 179 = ⟨[1], false, true⟩ := by kernel_rfl
@[go_sem] theorem M180 : tab.E.M 180 = ⟨[0, 0, 0], false, false⟩ := by kernel_rfl
@[go_sem] theorem M181 : tab.E.M 181 = ⟨[0, 0, 0], false, false⟩ := by kernel_rfl
@[go_sem] theorem M182 : tab.E.M 182 = ⟨[0, 0], false, false⟩ := by kernel_rfl
@[go_sem] theorem M183 : tab.E.M 183 = ⟨[0], false, false⟩ := by kernel_rfl
@[go_sem] theorem M184 : tab.E.M 184 = ⟨[0], false, false⟩ := by kernel_rfl
@[go_sem] theorem M185 : tab.E.M 185 = ⟨[0, 0, 0], false, false⟩ := by kernel_rfl
@[go_sem] theorem M186 : tab.E.M 186 = ⟨[0], false, false⟩ := by kernel_rfl
@[go_sem] theorem M187 : tab.E.M 187 = ⟨[0, 0], false, false⟩ := by kernel_rfl
@[go_sem] theorem M188 : tab.E.M 188 = ⟨[0, 0], false, false⟩ := by kernel_rfl
@[go_sem] theorem M189 : tab.E.M 189 = ⟨[0, 0], false, false⟩ := by kernel_rfl
@[go_sem] theorem M190 : tab.E.M 190 = ⟨[1], false, false⟩ := by kernel_rfl
@[go_sem] theorem M191 : tab.E.M 191 = ⟨[2], false, false⟩ := by kernel_rfl
@[go_sem] theorem M198 : tab.E.M 198 = ⟨[0, 0], false, false⟩ := by kernel_rfl
@[go_sem] theorem M199 : tab.E.M 199 = ⟨[0, 0], false, false⟩ := by kernel_rfl
@[go_sem] theorem M200 : tab.E.M 200 = ⟨[0, 0], false, false⟩ := by kernel_rfl
@[go_sem] theorem M201 : tab.E.M 201 = ⟨[0], false, false⟩ := by kernel_rfl
@[go_sem] theorem M207 : tab.E.M 207 = ⟨[0], false, false⟩ := by kernel_rfl
@[go_sem] theorem M208 : tab.E.M 208 = ⟨[0], false, false⟩ := by kernel_rfl
@[go_sem] theorem M209 : tab.E.M 209 = ⟨[0, 0], false, false⟩ := by kernel_rfl
@[go_sem] theorem M210 : tab.E.M 210 = ⟨[0, 0], false, false⟩ := by kernel_rfl
@[go_sem] theorem M211 : tab.E.M 211 = ⟨[0, 0], false, false⟩ := by kernel_rfl
@[go_sem] theorem M212 : tab.E.M 212 = ⟨[0], false, false⟩ := by kernel_rfl
@[go_sem] theorem M213 : tab.E.M 213 = ⟨[0, 0], false, false⟩ := by kernel_rfl
@[go_sem] theorem M222 : tab.E.M 222 = ⟨[0], false, false⟩ := by kernel_rfl
@[go_sem] theorem M223 : tab.E.M 223 = ⟨[0], false, false⟩ := by kernel_rfl
@[go_sem] theorem M225 : tab.E.M 225 = ⟨[0, 0], false, false⟩ := by kernel_rfl
@[go_sem] theorem M227 : tab.E.M 227 = ⟨[0, 0], false, false⟩ := by kernel_rfl
@[go_sem] theorem M243 : tab.E.M 243 = ⟨[0], false, false⟩ := by kernel_rfl
@[go_sem] theorem G0 : tab.E.G 0 = some ([.sl ([[97], [97, 110], [97, 110, 100], [111, 102], [116, 104, 101], [116, 111]].map PV.str)]) := rfl
@[go_sem] theorem G1 : tab.E.G 1 = some ([PV.ifc]) := rfl
@[go_sem] theorem G2 : tab.E.G 2 = some ([PV.ifc]) := rfl
@[go_sem] theorem G3 : tab.E.G 3 = some (Lib.pow10Tab.map (PV.int .u64)) := rfl
@[go_sem] theorem T3 : tab.E.T 3 = some ⟨.int .i64, 1, 8, [.int .i64 0]⟩ := by kernel_rfl
@[go_sem] theorem T4 : tab.E.T 4 = some ⟨.bool, 1, 1, [.bool false]⟩ := by kernel_rfl
@[go_sem] theorem T5 : tab.E.T 5 = some ⟨.int .u8, 1, 1, [.int .u8 0]⟩ := by kernel_rfl
@[go_sem] theorem T9 : tab.E.T 9 = some ⟨.str, 1, 16, [.str []]⟩ := by kernel_rfl
@[go_sem] theorem T21 : tab.E.T 21 = some ⟨.int .i32, 1, 4, [.int .i32 0]⟩ := by kernel_rfl
@[go_sem] theorem T22 : tab.E.T 22 = some ⟨.slice 5, 1, 24, [.slo 1 []]⟩ := by kernel_rfl
@[go_sem] theorem T23 : tab.E.T 23 = some ⟨.slice 111, 1, 24, [.slo 3 []]⟩ := by kernel_rfl
@[go_sem] theorem T24 : tab.E.T 24 = some ⟨.slice 36, 1, 24, [.slo 3 []]⟩ := by kernel_rfl
@[go_sem] theorem T25 : tab.E.T 25 = some ⟨.slice 76, 1, 24, [.slo 3 []]⟩ := by kernel_rfl
@[go_sem] theorem T27 : tab.E.T 27 = some ⟨.struct [(0, 23), (1, 24), (2, 25), (3, 3)], 4, 80, [.slo 3 [], .slo 3 [], .slo 3 [], .int .i64 0]⟩ := by kernel_rfl
@[go_sem] theorem T32 : tab.E.T 32 = some ⟨.slice 101, 1, 24, [.slo 2 []]⟩ := by kernel_rfl
@[go_sem] theorem T34 : tab.E.T 34 = some ⟨.struct [(0, 9), (1, 32)], 2, 40, [.str [], .slo 2 []]⟩ := by kernel_rfl
@[go_sem] theorem T36 : tab.E.T 36 = some ⟨.struct [(0, 3), (1, 34)], 3, 48, [.int .i64 0, .str [], .slo 2 []]⟩ := by kernel_rfl
@[go_sem] theorem T38 : tab.E.T 38 = some ⟨.slice 3, 1, 24, [.slo 1 []]⟩ := by kernel_rfl
@[go_sem] theorem T41 : tab.E.T 41 = some ⟨.slice 9, 1, 24, [.slo 1 []]⟩ := by kernel_rfl
@[go_sem] theorem T57 : tab.E.T 57 = some ⟨.slice 59, 1, 24, [.slo 6 []]⟩ := by kernel_rfl
@[go_sem] theorem T59 : tab.E.T 59 = some ⟨.struct [(0, 3), (1, 9), (2, 9), (3, 3), (4, 3), (5, 57)], 6, 80, [.int .i64 0, .str [], .str [], .int .i64 0, .int .i64 0, .slo 6 []]⟩ := by kernel_rfl
@[go_sem] theorem T67 : tab.E.T 67 = some ⟨.ptr 109, 1, 8, [.lit (.pointer none)]⟩ := by kernel_rfl
@[go_sem] theorem T74 : tab.E.T 74 = some ⟨.slice 87, 1, 24, [.slo 2 []]⟩ := by kernel_rfl
@[go_sem] theorem T76 : tab.E.T 76 = some ⟨.struct [(0, 9), (1, 9), (2, 74)], 3, 56, [.str [], .str [], .slo 2 []]⟩ := by kernel_rfl
@[go_sem] theorem T87 : tab.E.T 87 = some ⟨.struct [(0, 3), (1, 38)], 2, 32, [.int .i64 0, .slo 1 []]⟩ := by kernel_rfl
@[go_sem] theorem T101 : tab.E.T 101 = some ⟨.struct [(0, 9), (1, 9)], 2, 32, [.str [], .str []]⟩ := by kernel_rfl
@[go_sem] theorem T104 : tab.E.T 104 = some ⟨.other, 1, 8, [.lit .nilFunc]⟩ := by kernel_rfl
@[go_sem] theorem T109 : tab.E.T 109 = some ⟨.struct [(0, 22), (1, 3)], 2, 32, [.slo 1 [], .int .i64 0]⟩ := by kernel_rfl
@[go_sem] theorem T111 : tab.E.T 111 = some ⟨.struct [(0, 9), (1, 3), (2, 3)], 3, 32, [.str [], .int .i64 0, .int .i64 0]⟩ := by kernel_rfl
@[go_sem] theorem T120 : tab.E.T 120 = some ⟨.map 123 74, 1, 8, [.lit (.map none)]⟩ := by kernel_rfl
@[go_sem] theorem T123 : tab.E.T 123 = some ⟨.struct [(0, 9), (1, 9)], 2, 32, [.str [], .str []]⟩ := by kernel_rfl
@[go_sem] theorem T153 : tab.E.T 153 = some ⟨.slice 156, 1, 24, [.slo 3 []]⟩ := by kernel_rfl
@[go_sem] theorem T156 : tab.E.T 156 = some ⟨.struct [(0, 9), (1, 3), (2, 3)], 3, 32, [.str [], .int .i64 0, .int .i64 0]⟩ := by kernel_rfl
@[go_sem] theorem T240 : tab.E.T 240 = some ⟨.struct [(0, 5), (1, 5)], 2, 2, [.int .u8 0, .int .u8 0]⟩ := by kernel_rfl
@[go_sem] theorem ES101 : tab.E.S 101 = some [2, 2] := by kernel_rfl
@[go_sem] theorem ES123 : tab.E.S 123 = some [2, 2] := by kernel_rfl
variable {xs : List PV} {a : Ans}
theorem RT {f n : Nat} {fu : Func} {ts : List ResultVar} {cm : CM} {ns : List Nat} {L : List (Nat × List Nat)} (hf : tab.P.funcs[f]? = some fu) (hxs : xs.length = n) (h : Ends tab.S ⟨ts, ns, cm, lookL L⟩ (.run (fu.body.getD .skip) (ent xs) []) a) (hl : isNone (tab.lib.lookup f) = true := by kernel_rfl) (hb : fu.body = some (fu.body.getD .skip) := by kernel_rfl) (hc : fnChk fu (fu.body.getD .skip) = true := by kernel_rfl) (hcm : tab.M f = cm := by kernel_rfl) (hX : tab.X f = L := by kernel_rfl)
    (hm : cm.modes.length = n := by rfl) (hn : n ≤ fu.ntmps := by exact of_decide_eq_true (by kernel_rfl)) (hg : n ≤ gBase := by exact of_decide_eq_true (by kernel_rfl)) (hts : fu.results.toList = ts := by kernel_rfl) (hns : fu.resultTypes.toList.map (nilSz tab.E) = ns := by kernel_rfl) : R tab.S f xs = some a := R_tab hl hf hb hc hcm hX hm hn hg hts hns hxs h
theorem go10 (hn : xs.length = 1) (h : Ends S0 ⟨[.tmp 2], [0], ⟨[0], false, false⟩, lookL [(0, [3, 6, 7, 8]), (1, [3, 6, 7])]⟩ (.run (Tryz.f10.body.getD .skip) (ent xs) []) a) : R S0 10 xs = some a := RT Tryz.func10 hn h
theorem go11 (hn : xs.length = 1) (h : Ends S0 ⟨[.tmp 2], [0], ⟨[0], false, false⟩, lookL [(0, [3, 5, 6]), (1, [3, 5])]⟩ (.run (Tryz.f11.body.getD .skip) (ent xs) []) a) : R S0 11 xs = some a := RT Tryz.func11 hn h
theorem go12 (hn : xs.length = 1) (h : Ends S0 ⟨[.tmp 2], [0], ⟨[0], false, false⟩, lookL [(0, [3, 4, 5, 6, 7]), (1, [5, 6])]⟩ (.run (Tryz.f12.body.getD .skip) (ent xs) []) a) : R S0 12 xs = some a := RT Tryz.func12 hn h
theorem go13 (hn : xs.length = 1) (h : Ends S0 ⟨[.cell 2 27], [0], ⟨[0], true, true⟩, lookL []⟩ (.run (Tryz.f13.body.getD .skip) (ent xs) []) a) : R S0 13 xs = some a := RT Tryz.func13 hn h
theorem go14 (hn : xs.length = 1) (h : Ends S0 ⟨[.tmp 2], [0], ⟨[0], false, false⟩, lookL [(0, [1, 22, 23, 24]), (1, [1])]⟩ (.run (Tryz.f14.body.getD .skip) (ent xs) []) a) : R S0 14 xs = some a := RT Tryz.func14 hn h
theorem go15 (hn : xs.length = 1) (h : Ends S0 ⟨[.tmp 2], [0], ⟨[0], false, false⟩, lookL [(0, [1, 3]), (1, [1])]⟩ (.run (Tryz.f15.body.getD .skip) (ent xs) []) a) : R S0 15 xs = some a := RT Tryz.func15 hn h
theorem go18 (hn : xs.length = 2) (h : Ends S0 ⟨[.tmp 4], [1], ⟨[0, 0], false, false⟩, lookL [(0, [1, 5, 14, 15, 16]), (1, [5])]⟩ (.run (Tryz.f18.body.getD .skip) (ent xs) []) a) : R S0 18 xs = some a := RT Tryz.func18 hn h
theorem go24 (hn : xs.length = 2) (h : Ends S0 ⟨[.tmp 4], [0], ⟨[0, 0], false, false⟩, lookL [(0, [0, 1, 5]), (1, [])]⟩ (.run (Tryz.f24.body.getD .skip) (ent xs) []) a) : R S0 24 xs = some a := RT Tryz.func24 hn h
theorem go32 (hn : xs.length = 2) (h : Ends S0 ⟨[.cell 4 34, .tmp 5], [0, 0], ⟨[0, 0], false, false⟩, lookL []⟩ (.run (Tryz.f32.body.getD .skip) (ent xs) []) a) : R S0 32 xs = some a := RT Tryz.func32 hn h
theorem go33 (hn : xs.length = 2) (h : Ends S0 ⟨[.tmp 4], [0], ⟨[0, 0], false, false⟩, lookL [(0, [2, 3, 5]), (1, [])]⟩ (.run (Tryz.f33.body.getD .skip) (ent xs) []) a) : R S0 33 xs = some a := RT Tryz.func33 hn h
theorem go34 (hn : xs.length = 2) (h : Ends S0 ⟨[.tmp 4], [1], ⟨[0, 0], false, false⟩, lookL []⟩ (.run (Tryz.f34.body.getD .skip) (ent xs) []) a) : R S0 34 xs = some a := RT Tryz.func34 hn h
theorem go35 (hn : xs.length = 1) (h : Ends S0 ⟨[.tmp 2], [0], ⟨[0], false, false⟩, lookL [(0, [0, 5, 6, 7]), (1, [0])]⟩ (.run (Tryz.f35.body.getD .skip) (ent xs) []) a) : R S0 35 xs = some a := RT Tryz.func35 hn h
theorem go36 (hn : xs.length = 1) (h : Ends S0 ⟨[.cell 2 27, .cell 3 59], [0, 0], ⟨[0], true, true⟩, lookL []⟩ (.run (Tryz.f36.body.getD .skip) (ent xs) []) a) : R S0 36 xs = some a := RT Tryz.func36 hn h
theorem go37 (hn : xs.length = 2) (h : Ends S0 ⟨[.tmp 4], [1], ⟨[0, 0], false, false⟩, lookL []⟩ (.run (Tryz.f37.body.getD .skip) (ent xs) []) a) : R S0 37 xs = some a := RT Tryz.func37 hn h
theorem go38 (hn : xs.length = 2) (h : Ends S0 ⟨[.tmp 4], [0], ⟨[0, 0], false, false⟩, lookL []⟩ (.run (Tryz.f38.body.getD .skip) (ent xs) []) a) : R S0 38 xs = some a := RT Tryz.func38 hn h
theorem go39 (hn : xs.length = 3) (h : Ends S0 ⟨[.tmp 6], [0], ⟨[0, 0, 0], false, false⟩, lookL []⟩ (.run (Tryz.f39.body.getD .skip) (ent xs) []) a) : R S0 39 xs = some a := RT Tryz.func39 hn h
theorem go40 (hn : xs.length = 1) (h : Ends S0 ⟨[.cell 2 27], [0], ⟨[1], true, true⟩, lookL []⟩ (.run (Tryz.f40.body.getD .skip) (ent xs) []) a) : R S0 40 xs = some a := RT Tryz.func40 hn h
theorem go41 (hn : xs.length = 1) (h : Ends S0 ⟨[.tmp 2], [0], ⟨[0], false, true⟩, lookL []⟩ (.run (Tryz.f41.body.getD .skip) (ent xs) []) a) : R S0 41 xs = some a := RT Tryz.func41 hn h
theorem go42 (hn : xs.length = 1) (h : Ends S0 ⟨[.tmp 2], [0], ⟨[0], false, false⟩, lookL [(0, [0, 3, 8, 9, 10]), (1, [0])]⟩ (.run (Tryz.f42.body.getD .skip) (ent xs) []) a) : R S0 42 xs = some a := RT Tryz.func42 hn h
theorem go43 (hn : xs.length = 3) (h : Ends S0 ⟨[.tmp 6], [0], ⟨[0, 0, 0], false, false⟩, lookL []⟩ (.run (Tryz.f43.body.getD .skip) (ent xs) []) a) : R S0 43 xs = some a := RT Tryz.func43 hn h
theorem go44 (hn : xs.length = 2) (h : Ends S0 ⟨[.tmp 4], [0], ⟨[0, 0], false, false⟩, lookL [(0, [0, 18, 19, 20]), (1, [])]⟩ (.run (Tryz.f44.body.getD .skip) (ent xs) []) a) : R S0 44 xs = some a := RT Tryz.func44 hn h
theorem go45 (hn : xs.length = 2) (h : Ends S0 ⟨[.tmp 4], [0], ⟨[0, 0], false, false⟩, lookL []⟩ (.run (Tryz.f45.body.getD .skip) (ent xs) []) a) : R S0 45 xs = some a := RT Tryz.func45 hn h
theorem go46 (hn : xs.length = 3) (h : Ends S0 ⟨[.tmp 6], [0], ⟨[0, 0, 0], false, false⟩, lookL [(0, [1, 2, 15, 16, 17]), (1, [])]⟩ (.run (Tryz.f46.body.getD .skip) (ent xs) []) a) : R S0 46 xs = some a := RT Tryz.func46 hn h
theorem go47 (hn : xs.length = 2) (h : Ends S0 ⟨[.tmp 4], [3], ⟨[0, 0], false, false⟩, lookL [(0, [0, 5, 18, 19, 20]), (1, [5]), (4, [0, 5, 7, 18, 19, 20, 26, 27, 28]), (5, [0, 5, 18, 19, 20]), (8, [0, 5, 7, 9, 18, 19, 20, 26, 27, 28, 40, 41, 42]), (9, [0, 5, 7, 18, 19, 20, 26, 27, 28]), (12, [14, 101]), (13, [14])]⟩ (.run (Tryz.f47.body.getD .skip) (ent xs) []) a) : R S0 47 xs = some a := RT Tryz.func47 hn h
theorem go48 (hn : xs.length = 2) (h : Ends S0 ⟨[.tmp 4], [0], ⟨[0, 0], false, false⟩, lookL []⟩ (.run (Tryz.f48.body.getD .skip) (ent xs) []) a) : R S0 48 xs = some a := RT Tryz.func48 hn h
theorem go49 (hn : xs.length = 2) (h : Ends S0 ⟨[.tmp 4], [0], ⟨[0, 0], false, false⟩, lookL [(0, [0, 3, 5]), (1, [0, 3])]⟩ (.run (Tryz.f49.body.getD .skip) (ent xs) []) a) : R S0 49 xs = some a := RT Tryz.func49 hn h
theorem go50 (hn : xs.length = 2) (h : Ends S0 ⟨[.tmp 4], [0], ⟨[0, 0], false, false⟩, lookL [(0, [0, 1, 5]), (1, [])]⟩ (.run (Tryz.f50.body.getD .skip) (ent xs) []) a) : R S0 50 xs = some a := RT Tryz.func50 hn h
theorem go51 (hn : xs.length = 3) (h : Ends S0 ⟨[.tmp 6], [0], ⟨[0, 0, 0], false, false⟩, lookL []⟩ (.run (Tryz.f51.body.getD .skip) (ent xs) []) a) : R S0 51 xs = some a := RT Tryz.func51 hn h
theorem go52 (hn : xs.length = 1) (h : Ends S0 ⟨[.tmp 2], [0], ⟨[0], false, false⟩, lookL [(0, [0, 3]), (1, [0])]⟩ (.run (Tryz.f52.body.getD .skip) (ent xs) []) a) : R S0 52 xs = some a := RT Tryz.func52 hn h
theorem go53 (hn : xs.length = 2) (h : Ends S0 ⟨[.tmp 4], [0], ⟨[0, 0], false, false⟩, lookL [(0, [0, 1, 5]), (1, []), (4, [0, 1, 5, 6]), (5, [0, 1, 5])]⟩ (.run (Tryz.f53.body.getD .skip) (ent xs) []) a) : R S0 53 xs = some a := RT Tryz.func53 hn h
theorem go54 (hn : xs.length = 2) (h : Ends S0 ⟨[.tmp 4], [3], ⟨[0, 0], false, false⟩, lookL [(0, [0, 1, 5, 6]), (1, [5])]⟩ (.run (Tryz.f54.body.getD .skip) (ent xs) []) a) : R S0 54 xs = some a := RT Tryz.func54 hn h
theorem go59 (hn : xs.length = 2) (h : Ends S0 ⟨[.tmp 4], [0], ⟨[0, 0], false, false⟩, lookL []⟩ (.run (Tryz.f59.body.getD .skip) (ent xs) []) a) : R S0 59 xs = some a := RT Tryz.func59 hn h
theorem go66 (hn : xs.length = 2) (h : Ends S0 ⟨[.cell 4 34], [0], ⟨[1, 0], false, true⟩, lookL []⟩ (.run (Tryz.f66.body.getD .skip) (ent xs) []) a) : R S0 66 xs = some a := RT Tryz.func66 hn h
theorem go67 (hn : xs.length = 2) (h : Ends S0 ⟨[.tmp 4], [3], ⟨[0, 0], false, true⟩, lookL [(0, [0, 1, 5, 6]), (1, [5])]⟩ (.run (Tryz.f67.body.getD .skip) (ent xs) []) a) : R S0 67 xs = some a := RT Tryz.func67 hn h
theorem go69 (hn : xs.length = 3) (h : Ends S0 ⟨[.cell 6 27], [0], ⟨[0, 0, 0], false, false⟩, lookL [(0, [1, 6, 7, 8]), (1, [6, 7])]⟩ (.run (Tryz.f69.body.getD .skip) (ent xs) []) a) : R S0 69 xs = some a := RT Tryz.func69 hn h
theorem go73 (hn : xs.length = 1) (h : Ends S0 ⟨[.cell 2 34], [0], ⟨[0], false, false⟩, lookL []⟩ (.run (Tryz.f73.body.getD .skip) (ent xs) []) a) : R S0 73 xs = some a := RT Tryz.func73 hn h
theorem go74 (hn : xs.length = 2) (h : Ends S0 ⟨[.tmp 4], [0], ⟨[0, 0], false, false⟩, lookL []⟩ (.run (Tryz.f74.body.getD .skip) (ent xs) []) a) : R S0 74 xs = some a := RT Tryz.func74 hn h
theorem go75 (hn : xs.length = 2) (h : Ends S0 ⟨[.tmp 4], [1], ⟨[0, 0], false, false⟩, lookL [(0, [2, 3, 5, 10, 11, 12]), (1, [5])]⟩ (.run (Tryz.f75.body.getD .skip) (ent xs) []) a) : R S0 75 xs = some a := RT Tryz.func75 hn h
theorem go76 (hn : xs.length = 2) (h : Ends S0 ⟨[.cell 4 59], [0], ⟨[1, 0], false, true⟩, lookL [(2, [4, 5, 6, 1000000]), (3, [4, 5, 1000000])]⟩ (.run (Tryz.f76.body.getD .skip) (ent xs) []) a) : R S0 76 xs = some a := RT Tryz.func76 hn h
theorem go77 (hn : xs.length = 2) (h : Ends S0 ⟨[.tmp 4], [1], ⟨[0, 0], false, false⟩, lookL [(0, [2, 3, 5, 6]), (1, [5])]⟩ (.run (Tryz.f77.body.getD .skip) (ent xs) []) a) : R S0 77 xs = some a := RT Tryz.func77 hn h
theorem go78 (hn : xs.length = 1) (h : Ends S0 ⟨[.tmp 2], [0], ⟨[0], false, false⟩, lookL []⟩ (.run (Tryz.f78.body.getD .skip) (ent xs) []) a) : R S0 78 xs = some a := RT Tryz.func78 hn h
theorem go79 (hn : xs.length = 2) (h : Ends S0 ⟨[.tmp 4], [0], ⟨[0, 0], false, false⟩, lookL [(0, [0, 3, 5]), (1, [0, 3])]⟩ (.run (Tryz.f79.body.getD .skip) (ent xs) []) a) : R S0 79 xs = some a := RT Tryz.func79 hn h
theorem go80 (hn : xs.length = 2) (h : Ends S0 ⟨[.tmp 4], [0], ⟨[0, 0], false, false⟩, lookL []⟩ (.run (Tryz.f80.body.getD .skip) (ent xs) []) a) : R S0 80 xs = some a := RT Tryz.func80 hn h
theorem go81 (hn : xs.length = 3) (h : Ends S0 ⟨[.tmp 6], [0], ⟨[0, 0, 0], false, false⟩, lookL []⟩ (.run (Tryz.f81.body.getD .skip) (ent xs) []) a) : R S0 81 xs = some a := RT Tryz.func81 hn h
theorem go82 (hn : xs.length = 1) (h : Ends S0 ⟨[.cell 2 27], [0], ⟨[1], false, true⟩, lookL [(0, [0, 2, 3, 4, 5, 6, 1000000]), (1, [0, 2, 3, 4, 5, 1000000]), (4, [2, 3, 4, 5, 8, 1000000]), (5, [2, 3, 4, 5, 1000000])]⟩ (.run (Tryz.f82.body.getD .skip) (ent xs) []) a) : R S0 82 xs = some a := RT Tryz.func82 hn h
theorem go83 (hn : xs.length = 2) (h : Ends S0 ⟨[.tmp 4], [0], ⟨[1, 0], false, true⟩, lookL []⟩ (.run (Tryz.f83.body.getD .skip) (ent xs) []) a) : R S0 83 xs = some a := RT Tryz.func83 hn h
theorem go84 (hn : xs.length = 2) (h : Ends S0 ⟨[.tmp 4], [0], ⟨[1, 0], false, true⟩, lookL []⟩ (.run (Tryz.f84.body.getD .skip) (ent xs) []) a) : R S0 84 xs = some a := RT Tryz.func84 hn h
theorem go85 (hn : xs.length = 1) (h : Ends S0 ⟨[.tmp 2], [3], ⟨[1], true, true⟩, lookL []⟩ (.run (Tryz.f85.body.getD .skip) (ent xs) []) a) : R S0 85 xs = some a := RT Tryz.func85 hn h
theorem go86 (hn : xs.length = 1) (h : Ends S0 ⟨[.tmp 2], [0], ⟨[0], false, false⟩, lookL [(0, [0, 5, 6]), (1, [0])]⟩ (.run (Tryz.f86.body.getD .skip) (ent xs) []) a) : R S0 86 xs = some a := RT Tryz.func86 hn h
theorem go87 (hn : xs.length = 2) (h : Ends S0 ⟨[.tmp 4], [0], ⟨[0, 0], false, false⟩, lookL []⟩ (.run (Tryz.f87.body.getD .skip) (ent xs) []) a) : R S0 87 xs = some a := RT Tryz.func87 hn h
theorem go88 (hn : xs.length = 1) (h : Ends S0 ⟨[.tmp 2], [0], ⟨[0], false, false⟩, lookL [(0, [1, 6, 7, 8]), (1, [1])]⟩ (.run (Tryz.f88.body.getD .skip) (ent xs) []) a) : R S0 88 xs = some a := RT Tryz.func88 hn h
theorem go89 (hn : xs.length = 2) (h : Ends S0 ⟨[.cell 4 111], [0], ⟨[0, 0], false, false⟩, lookL [(0, [1, 4, 7, 8, 9]), (1, [4])]⟩ (.run (Tryz.f89.body.getD .skip) (ent xs) []) a) : R S0 89 xs = some a := RT Tryz.func89 hn h
theorem go91 (hn : xs.length = 1) (h : Ends S0 ⟨[.tmp 2], [0], ⟨[0], false, false⟩, lookL [(0, [3, 8, 9, 10]), (1, [3])]⟩ (.run (Tryz.f91.body.getD .skip) (ent xs) []) a) : R S0 91 xs = some a := RT Tryz.func91 hn h
theorem go92 (hn : xs.length = 2) (h : Ends S0 ⟨[.tmp 4], [0], ⟨[0, 0], false, false⟩, lookL [(0, [0, 1, 7, 8]), (1, [])]⟩ (.run (Tryz.f92.body.getD .skip) (ent xs) []) a) : R S0 92 xs = some a := RT Tryz.func92 hn h
theorem go93 (hn : xs.length = 2) (h : Ends S0 ⟨[.tmp 3], [0], ⟨[0, 0], false, false⟩, lookL []⟩ (.run (Tryz.f93.body.getD .skip) (ent xs) []) a) : R S0 93 xs = some a := RT Tryz.func93 hn h
theorem go94 (hn : xs.length = 1) (h : Ends S0 ⟨[.tmp 2], [1], ⟨[0], false, false⟩, lookL [(0, [3, 8, 9, 10]), (1, [3])]⟩ (.run (Tryz.f94.body.getD .skip) (ent xs) []) a) : R S0 94 xs = some a := RT Tryz.func94 hn h
theorem go96 (hn : xs.length = 2) (h : Ends S0 ⟨[.tmp 4], [0], ⟨[0, 0], false, false⟩, lookL []⟩ (.run (Tryz.f96.body.getD .skip) (ent xs) []) a) : R S0 96 xs = some a := RT Tryz.func96 hn h
theorem go97 (hn : xs.length = 1) (h : Ends S0 ⟨[.tmp 2], [0], ⟨[0], false, false⟩, lookL [(0, [3, 6, 7, 8]), (1, [3])]⟩ (.run (Tryz.f97.body.getD .skip) (ent xs) []) a) : R S0 97 xs = some a := RT Tryz.func97 hn h
theorem go98 (hn : xs.length = 2) (h : Ends S0 ⟨[.tmp 4], [0], ⟨[0, 0], false, false⟩, lookL []⟩ (.run (Tryz.f98.body.getD .skip) (ent xs) []) a) : R S0 98 xs = some a := RT Tryz.func98 hn h
theorem go99 (hn : xs.length = 3) (h : Ends S0 ⟨[.tmp 6], [0], ⟨[0, 0, 0], false, false⟩, lookL [(0, [1, 2, 15, 16, 17]), (1, [])]⟩ (.run (Tryz.f99.body.getD .skip) (ent xs) []) a) : R S0 99 xs = some a := RT Tryz.func99 hn h
theorem go100 (hn : xs.length = 2) (h : Ends S0 ⟨[.tmp 4], [0], ⟨[0, 0], false, false⟩, lookL []⟩ (.run (Tryz.f100.body.getD .skip) (ent xs) []) a) : R S0 100 xs = some a := RT Tryz.func100 hn h
theorem go101 (hn : xs.length = 2) (h : Ends S0 ⟨[.tmp 4], [0], ⟨[0, 0], false, false⟩, lookL [(0, [0, 1, 5]), (1, [])]⟩ (.run (Tryz.f101.body.getD .skip) (ent xs) []) a) : R S0 101 xs = some a := RT Tryz.func101 hn h
theorem go102 (hn : xs.length = 2) (h : Ends S0 ⟨[.tmp 4], [0], ⟨[0, 0], false, false⟩, lookL []⟩ (.run (Tryz.f102.body.getD .skip) (ent xs) []) a) : R S0 102 xs = some a := RT Tryz.func102 hn h
theorem go103 (hn : xs.length = 1) (h : Ends S0 ⟨[.tmp 2], [0], ⟨[0], false, false⟩, lookL [(0, [1, 3]), (1, [1])]⟩ (.run (Tryz.f103.body.getD .skip) (ent xs) []) a) : R S0 103 xs = some a := RT Tryz.func103 hn h
theorem go104 (hn : xs.length = 1) (h : Ends S0 ⟨[.tmp 2], [0], ⟨[0], false, false⟩, lookL [(0, [0, 3]), (1, [0])]⟩ (.run (Tryz.f104.body.getD .skip) (ent xs) []) a) : R S0 104 xs = some a := RT Tryz.func104 hn h
theorem go105 (hn : xs.length = 2) (h : Ends S0 ⟨[.tmp 4], [0], ⟨[0, 0], false, false⟩, lookL [(0, [0, 1, 5]), (1, [])]⟩ (.run (Tryz.f105.body.getD .skip) (ent xs) []) a) : R S0 105 xs = some a := RT Tryz.func105 hn h
theorem go106 (hn : xs.length = 3) (h : Ends S0 ⟨[.tmp 6], [3], ⟨[0, 2, 0], false, false⟩, lookL [(0, [0, 1, 5, 7]), (1, [1]), (4, [0, 1, 5, 7, 8, 9]), (5, [0, 1, 5, 7])]⟩ (.run (Tryz.f106.body.getD .skip) (ent xs) []) a) : R S0 106 xs = some a := RT Tryz.func106 hn h
theorem go107 (hn : xs.length = 2) (h : Ends S0 ⟨[.tmp 4], [0], ⟨[0, 0], false, false⟩, lookL [(0, [0, 1, 7, 8]), (1, [])]⟩ (.run (Tryz.f107.body.getD .skip) (ent xs) []) a) : R S0 107 xs = some a := RT Tryz.func107 hn h
theorem go110 (hn : xs.length = 2) (h : Ends S0 ⟨[.cell 4 34], [0], ⟨[1, 0], false, true⟩, lookL [(0, [0, 1, 4, 5, 6, 7, 1000000]), (1, [4, 5, 1000000])]⟩ (.run (Tryz.f110.body.getD .skip) (ent xs) []) a) : R S0 110 xs = some a := RT Tryz.func110 hn h
theorem go111 (hn : xs.length = 2) (h : Ends S0 ⟨[.tmp 4], [0], ⟨[1, 0], false, true⟩, lookL []⟩ (.run (Tryz.f111.body.getD .skip) (ent xs) []) a) : R S0 111 xs = some a := RT Tryz.func111 hn h
theorem go112 (hn : xs.length = 1) (h : Ends S0 ⟨[.tmp 2], [0], ⟨[1], false, true⟩, lookL []⟩ (.run (Tryz.f112.body.getD .skip) (ent xs) []) a) : R S0 112 xs = some a := RT Tryz.func112 hn h
theorem go113 (hn : xs.length = 3) (h : Ends S0 ⟨[.cell 6 59], [0], ⟨[1, 0, 0], false, true⟩, lookL [(0, [0, 1, 2, 6, 7, 8, 1000000]), (1, [6, 7, 1000000])]⟩ (.run (Tryz.f113.body.getD .skip) (ent xs) []) a) : R S0 113 xs = some a := RT Tryz.func113 hn h
theorem go114 (hn : xs.length = 3) (h : Ends S0 ⟨[.tmp 6], [0], ⟨[0, 0, 0], false, false⟩, lookL [(2, [0, 4, 5, 7]), (3, []), (6, [0, 4, 5, 8]), (7, [])]⟩ (.run (Tryz.f114.body.getD .skip) (ent xs) []) a) : R S0 114 xs = some a := RT Tryz.func114 hn h
theorem go115 (hn : xs.length = 2) (h : Ends S0 ⟨[.tmp 4], [0], ⟨[0, 0], false, false⟩, lookL [(0, [1, 2, 5, 6]), (1, [2, 5])]⟩ (.run (Tryz.f115.body.getD .skip) (ent xs) []) a) : R S0 115 xs = some a := RT Tryz.func115 hn h
theorem go116 (hn : xs.length = 3) (h : Ends S0 ⟨[.tmp 6], [0], ⟨[0, 0, 0], false, false⟩, lookL []⟩ (.run (Tryz.f116.body.getD .skip) (ent xs) []) a) : R S0 116 xs = some a := RT Tryz.func116 hn h
theorem go117 (hn : xs.length = 1) (h : Ends S0 ⟨[.tmp 2], [0], ⟨[0], false, false⟩, lookL []⟩ (.run (Tryz.f117.body.getD .skip) (ent xs) []) a) : R S0 117 xs = some a := RT Tryz.func117 hn h
theorem go118 (hn : xs.length = 2) (h : Ends S0 ⟨[.tmp 4], [0], ⟨[0, 0], false, false⟩, lookL [(2, [1, 35, 36, 37]), (3, [])]⟩ (.run (Tryz.f118.body.getD .skip) (ent xs) []) a) : R S0 118 xs = some a := RT Tryz.func118 hn h
theorem go119 (hn : xs.length = 3) (h : Ends S0 ⟨[.tmp 4], [0], ⟨[0, 0, 0], false, false⟩, lookL []⟩ (.run (Tryz.f119.body.getD .skip) (ent xs) []) a) : R S0 119 xs = some a := RT Tryz.func119 hn h
theorem go120 (hn : xs.length = 3) (h : Ends S0 ⟨[.tmp 6], [0], ⟨[0, 0, 0], false, false⟩, lookL [(0, [1, 3, 7, 12, 13, 14]), (1, [7])]⟩ (.run (Tryz.f120.body.getD .skip) (ent xs) []) a) : R S0 120 xs = some a := RT Tryz.func120 hn h
theorem go121 (hn : xs.length = 3) (h : Ends S0 ⟨[.tmp 6, .tmp 7], [0, 0], ⟨[0, 0, 0], false, false⟩, lookL []⟩ (.run (Tryz.f121.body.getD .skip) (ent xs) []) a) : R S0 121 xs = some a := RT Tryz.func121 hn h
theorem go122 (hn : xs.length = 3) (h : Ends S0 ⟨[.tmp 6], [1], ⟨[0, 0, 0], false, false⟩, lookL []⟩ (.run (Tryz.f122.body.getD .skip) (ent xs) []) a) : R S0 122 xs = some a := RT Tryz.func122 hn h
theorem go123 (hn : xs.length = 2) (h : Ends S0 ⟨[.tmp 4], [0], ⟨[0, 0], false, false⟩, lookL []⟩ (.run (Tryz.f123.body.getD .skip) (ent xs) []) a) : R S0 123 xs = some a := RT Tryz.func123 hn h
theorem go124 (hn : xs.length = 2) (h : Ends S0 ⟨[.tmp 3], [0], ⟨[0, 0], false, false⟩, lookL []⟩ (.run (Tryz.f124.body.getD .skip) (ent xs) []) a) : R S0 124 xs = some a := RT Tryz.func124 hn h
theorem go125 (hn : xs.length = 1) (h : Ends S0 ⟨[.tmp 2], [3], ⟨[1], true, true⟩, lookL []⟩ (.run (Tryz.f125.body.getD .skip) (ent xs) []) a) : R S0 125 xs = some a := RT Tryz.func125 hn h
theorem go126 (hn : xs.length = 1) (h : Ends S0 ⟨[.tmp 2], [0], ⟨[0], false, false⟩, lookL []⟩ (.run (Tryz.f126.body.getD .skip) (ent xs) []) a) : R S0 126 xs = some a := RT Tryz.func126 hn h
theorem go127 (hn : xs.length = 1) (h : Ends S0 ⟨[.tmp 2], [0], ⟨[0], false, false⟩, lookL []⟩ (.run (Tryz.f127.body.getD .skip) (ent xs) []) a) : R S0 127 xs = some a := RT Tryz.func127 hn h
theorem go128 (hn : xs.length = 1) (h : Ends S0 ⟨[.tmp 2], [0], ⟨[0], false, false⟩, lookL []⟩ (.run (Tryz.f128.body.getD .skip) (ent xs) []) a) : R S0 128 xs = some a := RT Tryz.func128 hn h
theorem go129 (hn : xs.length = 2) (h : Ends S0 ⟨[.tmp 4], [0], ⟨[0, 0], false, false⟩, lookL [(0, [0, 1, 7, 8]), (1, [])]⟩ (.run (Tryz.f129.body.getD .skip) (ent xs) []) a) : R S0 129 xs = some a := RT Tryz.func129 hn h
theorem go130 (hn : xs.length = 1) (h : Ends S0 ⟨[.tmp 2], [0], ⟨[0], false, false⟩, lookL []⟩ (.run (Tryz.f130.body.getD .skip) (ent xs) []) a) : R S0 130 xs = some a := RT Tryz.func130 hn h
theorem go133 (hn : xs.length = 2) (h : Ends S0 ⟨[.tmp 4], [1], ⟨[0, 0], true, true⟩, lookL []⟩ (.run (Tryz.f133.body.getD .skip) (ent xs) []) a) : R S0 133 xs = some a := RT Tryz.func133 hn h
theorem go134 (hn : xs.length = 1) (h : Ends S0 ⟨[.tmp 2], [3], ⟨[0], false, false⟩, lookL [(0, [0, 3, 4]), (1, [3]), (4, [0, 3, 4, 5]), (5, [0, 3, 4, 5])]⟩ (.run (Tryz.f134.body.getD .skip) (ent xs) []) a) : R S0 134 xs = some a := RT Tryz.func134 hn h
theorem go135 (hn : xs.length = 1) (h : Ends S0 ⟨[.tmp 2], [0], ⟨[0], false, false⟩, lookL []⟩ (.run (Tryz.f135.body.getD .skip) (ent xs) []) a) : R S0 135 xs = some a := RT Tryz.func135 hn h
theorem go138 (hn : xs.length = 1) (h : Ends S0 ⟨[.tmp 2], [0], ⟨[0], false, false⟩, lookL []⟩ (.run (Tryz.f138.body.getD .skip) (ent xs) []) a) : R S0 138 xs = some a := RT Tryz.func138 hn h
theorem go139 (hn : xs.length = 2) (h : Ends S0 ⟨[.tmp 4], [0], ⟨[0, 0], false, false⟩, lookL [(0, [0, 1, 12, 13]), (1, [])]⟩ (.run (Tryz.f139.body.getD .skip) (ent xs) []) a) : R S0 139 xs = some a := RT Tryz.func139 hn h
theorem go140 (hn : xs.length = 1) (h : Ends S0 ⟨[.tmp 2, .tmp 3], [0, 0], ⟨[0], false, false⟩, lookL []⟩ (.run (Tryz.f140.body.getD .skip) (ent xs) []) a) : R S0 140 xs = some a := RT Tryz.func140 hn h
theorem go141 (hn : xs.length = 1) (h : Ends S0 ⟨[.tmp 2, .tmp 3], [1, 0], ⟨[0], false, false⟩, lookL [(0, [4, 5, 6]), (1, [4, 5])]⟩ (.run (Tryz.f141.body.getD .skip) (ent xs) []) a) : R S0 141 xs = some a := RT Tryz.func141 hn h
theorem go142 (hn : xs.length = 1) (h : Ends S0 ⟨[.tmp 2], [0], ⟨[0], false, false⟩, lookL [(0, [0, 3]), (1, [0])]⟩ (.run (Tryz.f142.body.getD .skip) (ent xs) []) a) : R S0 142 xs = some a := RT Tryz.func142 hn h
theorem go143 (hn : xs.length = 1) (h : Ends S0 ⟨[.tmp 2], [1], ⟨[0], false, false⟩, lookL [(0, [3, 4, 5]), (1, [3])]⟩ (.run (Tryz.f143.body.getD .skip) (ent xs) []) a) : R S0 143 xs = some a := RT Tryz.func143 hn h
theorem go144 (hn : xs.length = 5) (h : Ends S0 ⟨[.tmp 10], [3], ⟨[2, 0, 0, 0, 0], false, false⟩, lookL []⟩ (.run (Tryz.f144.body.getD .skip) (ent xs) []) a) : R S0 144 xs = some a := RT Tryz.func144 hn h
theorem go145 (hn : xs.length = 1) (h : Ends S0 ⟨[.tmp 2], [0], ⟨[1], false, true⟩, lookL [(0, [0, 3, 4, 1000000]), (1, [3, 1000000])]⟩ (.run (Tryz.f145.body.getD .skip) (ent xs) []) a) : R S0 145 xs = some a := RT Tryz.func145 hn h
theorem go146 (hn : xs.length = 2) (h : Ends S0 ⟨[.tmp 4], [0], ⟨[0, 0], false, false⟩, lookL [(0, [0, 1, 5]), (1, [5])]⟩ (.run (Tryz.f146.body.getD .skip) (ent xs) []) a) : R S0 146 xs = some a := RT Tryz.func146 hn h
theorem go147 (hn : xs.length = 2) (h : Ends S0 ⟨[.cell 4 59], [0], ⟨[1, 0], false, true⟩, lookL []⟩ (.run (Tryz.f147.body.getD .skip) (ent xs) []) a) : R S0 147 xs = some a := RT Tryz.func147 hn h
theorem go148 (hn : xs.length = 3) (h : Ends S0 ⟨[.tmp 6], [0], ⟨[0, 0, 0], false, false⟩, lookL [(2, [5, 9, 10]), (3, []), (6, [0, 4, 5, 11]), (7, [])]⟩ (.run (Tryz.f148.body.getD .skip) (ent xs) []) a) : R S0 148 xs = some a := RT Tryz.func148 hn h
theorem go149 (hn : xs.length = 1) (h : Ends S0 ⟨[.tmp 2], [0], ⟨[0], false, false⟩, lookL []⟩ (.run (Tryz.f149.body.getD .skip) (ent xs) []) a) : R S0 149 xs = some a := RT Tryz.func149 hn h
theorem go150 (hn : xs.length = 2) (h : Ends S0 ⟨[.tmp 4], [0], ⟨[0, 0], false, false⟩, lookL [(2, [1, 183, 184, 185]), (3, [])]⟩ (.run (Tryz.f150.body.getD .skip) (ent xs) []) a) : R S0 150 xs = some a := RT Tryz.func150 hn h
theorem go151 (hn : xs.length = 2) (h : Ends S0 ⟨[.tmp 4], [0], ⟨[0, 0], false, false⟩, lookL [(0, [2, 6, 16, 17, 18]), (1, [6]), (4, [5, 6, 9, 10]), (5, [6])]⟩ (.run (Tryz.f151.body.getD .skip) (ent xs) []) a) : R S0 151 xs = some a := RT Tryz.func151 hn h
theorem go152 (hn : xs.length = 4) (h : Ends S0 ⟨[.tmp 8, .tmp 9], [0, 0], ⟨[0, 0, 0, 0], false, false⟩, lookL []⟩ (.run (Tryz.f152.body.getD .skip) (ent xs) []) a) : R S0 152 xs = some a := RT Tryz.func152 hn h
theorem go153 (hn : xs.length = 1) (h : Ends S0 ⟨[.tmp 2], [1], ⟨[0], false, false⟩, lookL []⟩ (.run (Tryz.f153.body.getD .skip) (ent xs) []) a) : R S0 153 xs = some a := RT Tryz.func153 hn h
theorem go154 (hn : xs.length = 2) (h : Ends S0 ⟨[.tmp 4], [0], ⟨[0, 0], false, false⟩, lookL [(0, [0, 1, 7, 8]), (1, [])]⟩ (.run (Tryz.f154.body.getD .skip) (ent xs) []) a) : R S0 154 xs = some a := RT Tryz.func154 hn h
theorem go155 (hn : xs.length = 0) (h : Ends S0 ⟨[.tmp 0], [3], ⟨[], false, false⟩, lookL []⟩ (.run (Tryz.f155.body.getD .skip) (ent xs) []) a) : R S0 155 xs = some a := RT Tryz.func155 hn h
theorem go156 (hn : xs.length = 2) (h : Ends S0 ⟨[.tmp 4], [0], ⟨[0, 0], false, false⟩, lookL [(0, [0, 1, 7, 8]), (1, [0, 1])]⟩ (.run (Tryz.f156.body.getD .skip) (ent xs) []) a) : R S0 156 xs = some a := RT Tryz.func156 hn h
theorem go160 (hn : xs.length = 4) (h : Ends S0 ⟨[.tmp 8], [1], ⟨[0, 0, 0, 0], true, true⟩, lookL [(0, [0, 1, 2, 3, 9, 10]), (1, [0, 9, 10])]⟩ (.run (Tryz.f160.body.getD .skip) (ent xs) []) a) : R S0 160 xs = some a := RT Tryz.func160 hn h
theorem go161 (hn : xs.length = 1) (h : Ends S0 ⟨[.tmp 2], [0], ⟨[0], false, false⟩, lookL []⟩ (.run (Tryz.f161.body.getD .skip) (ent xs) []) a) : R S0 161 xs = some a := RT Tryz.func161 hn h
theorem go162 (hn : xs.length = 1) (h : Ends S0 ⟨[.tmp 2], [0], ⟨[0], false, false⟩, lookL [(0, [3, 8, 9, 10]), (1, [3])]⟩ (.run (Tryz.f162.body.getD .skip) (ent xs) []) a) : R S0 162 xs = some a := RT Tryz.func162 hn h
theorem go173 (hn : xs.length = 1) (h : Ends S0 ⟨[.tmp 2], [0], ⟨[0], false, false⟩, lookL [(0, [0, 3, 4]), (1, [0, 3])]⟩ (.run (Tryz.f173.body.getD .skip) (ent xs) []) a) : R S0 173 xs = some a := RT Tryz.func173 hn h
theorem go174 (hn : xs.length = 3) (h : Ends S0 ⟨[.tmp 6], [1], ⟨[0, 0, 0], false, false⟩, lookL [(0, [0, 1, 2, 7, 8, 9]), (1, [0, 7, 8])]⟩ (.run (Tryz.f174.body.getD .skip) (ent xs) []) a) : R S0 174 xs = some a := RT Tryz.func174 hn h
theorem go175 (hn : xs.length = 2) (h : Ends S0 ⟨[.tmp 4], [1], ⟨[2, 0], false, false⟩, lookL [(0, [0, 1, 5]), (1, [0, 1, 5])]⟩ (.run (Tryz.f175.body.getD .skip) (ent xs) []) a) : R S0 175 xs = some a := RT Tryz.func175 hn h
theorem go176 (hn : xs.length = 1) (h : Ends S0 ⟨[.tmp 2], [3], ⟨[0], false, false⟩, lookL [(0, [0, 3, 4]), (1, [3]), (4, [0, 3, 4, 5]), (5, [0, 3, 4, 5])]⟩ (.run (Tryz.f176.body.getD .skip) (ent xs) []) a) : R S0 176 xs = some a := RT Tryz.func176 hn h
theorem go177 (hn : xs.length = 1) (h : Ends S0 ⟨[.tmp 2], [0], ⟨[0], false, false⟩, lookL []⟩ (.run (Tryz.f177.body.getD .skip) (ent xs) []) a) : R S0 177 xs = some a := RT Tryz.func177 hn h
theorem go178 (hn : xs.length = 3) (h : Ends S0 ⟨[.tmp 6, .tmp 7], [0, 0], ⟨[0, 0, 0], false, false⟩, lookL [(0, [0, 1, 2, 8]), (1, [0, 1, 2, 8])]⟩ (.run (Tryz.f178.body.getD .skip) (ent xs) []) a) : R S0 178 xs = some a := RT Tryz.func178 hn h
theorem go179 (hn : xs.length = 1) (h : Ends S0 ⟨[.tmp 2], [0], ⟨[1], false, true⟩, lookL []⟩ (.run (Tryz.f179.body.getD .skip) (ent xs) []) a) : R S0 179 xs = some a := RT Tryz.func179 hn h
theorem go180 (hn : xs.length = 3) (h : Ends S0 ⟨[.tmp 6, .tmp 7], [0, 0], ⟨[0, 0, 0], false, false⟩, lookL []⟩ (.run (Tryz.f180.body.getD .skip) (ent xs) []) a) : R S0 180 xs = some a := RT Tryz.func180 hn h
theorem go181 (hn : xs.length = 3) (h : Ends S0 ⟨[.tmp 6], [1], ⟨[0, 0, 0], false, false⟩, lookL []⟩ (.run (Tryz.f181.body.getD .skip) (ent xs) []) a) : R S0 181 xs = some a := RT Tryz.func181 hn h
theorem go182 (hn : xs.length = 2) (h : Ends S0 ⟨[.tmp 4], [0], ⟨[0, 0], false, false⟩, lookL []⟩ (.run (Tryz.f182.body.getD .skip) (ent xs) []) a) : R S0 182 xs = some a := RT Tryz.func182 hn h
theorem go183 (hn : xs.length = 1) (h : Ends S0 ⟨[.tmp 2], [0], ⟨[0], false, false⟩, lookL [(0, [0, 3, 4, 5]), (1, [0, 3, 4])]⟩ (.run (Tryz.f183.body.getD .skip) (ent xs) []) a) : R S0 183 xs = some a := RT Tryz.func183 hn h
theorem go184 (hn : xs.length = 1) (h : Ends S0 ⟨[.tmp 2], [0], ⟨[0], false, false⟩, lookL [(0, [0, 3, 4]), (1, [3])]⟩ (.run (Tryz.f184.body.getD .skip) (ent xs) []) a) : R S0 184 xs = some a := RT Tryz.func184 hn h
theorem go185 (hn : xs.length = 3) (h : Ends S0 ⟨[.tmp 6], [0], ⟨[0, 0, 0], false, false⟩, lookL [(0, [0, 1, 2, 7, 12, 13, 14]), (1, [0, 1, 2, 7])]⟩ (.run (Tryz.f185.body.getD .skip) (ent xs) []) a) : R S0 185 xs = some a := RT Tryz.func185 hn h
theorem go186 (hn : xs.length = 1) (h : Ends S0 ⟨[.tmp 2], [0], ⟨[0], false, false⟩, lookL [(0, [0, 5, 6]), (1, [0])]⟩ (.run (Tryz.f186.body.getD .skip) (ent xs) []) a) : R S0 186 xs = some a := RT Tryz.func186 hn h
theorem go187 (hn : xs.length = 2) (h : Ends S0 ⟨[.tmp 4], [0], ⟨[0, 0], false, false⟩, lookL []⟩ (.run (Tryz.f187.body.getD .skip) (ent xs) []) a) : R S0 187 xs = some a := RT Tryz.func187 hn h
theorem go188 (hn : xs.length = 2) (h : Ends S0 ⟨[.tmp 4], [0], ⟨[0, 0], false, false⟩, lookL [(0, [0, 1, 12, 13]), (1, [])]⟩ (.run (Tryz.f188.body.getD .skip) (ent xs) []) a) : R S0 188 xs = some a := RT Tryz.func188 hn h
theorem go189 (hn : xs.length = 2) (h : Ends S0 ⟨[.tmp 4, .tmp 5], [0, 0], ⟨[0, 0], false, false⟩, lookL [(0, [1, 9, 10, 11]), (1, [])]⟩ (.run (Tryz.f189.body.getD .skip) (ent xs) []) a) : R S0 189 xs = some a := RT Tryz.func189 hn h
theorem go198 (hn : xs.length = 2) (h : Ends S0 ⟨[.tmp 4], [1], ⟨[0, 0], false, false⟩, lookL [(0, [0, 1, 6, 7]), (1, [0, 1, 6])]⟩ (.run (Tryz.f198.body.getD .skip) (ent xs) []) a) : R S0 198 xs = some a := RT Tryz.func198 hn h
theorem go200 (hn : xs.length = 2) (h : Ends S0 ⟨[.tmp 4], [0], ⟨[0, 0], false, false⟩, lookL []⟩ (.run (Tryz.f200.body.getD .skip) (ent xs) []) a) : R S0 200 xs = some a := RT Tryz.func200 hn h
theorem go201 (hn : xs.length = 1) (h : Ends S0 ⟨[.tmp 2], [0], ⟨[0], false, false⟩, lookL []⟩ (.run (Tryz.f201.body.getD .skip) (ent xs) []) a) : R S0 201 xs = some a := RT Tryz.func201 hn h
theorem go207 (hn : xs.length = 1) (h : Ends S0 ⟨[.tmp 2], [0], ⟨[0], false, false⟩, lookL []⟩ (.run (Tryz.f207.body.getD .skip) (ent xs) []) a) : R S0 207 xs = some a := RT Tryz.func207 hn h
theorem go208 (hn : xs.length = 1) (h : Ends S0 ⟨[.tmp 2], [0], ⟨[0], false, false⟩, lookL [(0, [0, 3, 4]), (1, [])]⟩ (.run (Tryz.f208.body.getD .skip) (ent xs) []) a) : R S0 208 xs = some a := RT Tryz.func208 hn h
theorem go209 (hn : xs.length = 2) (h : Ends S0 ⟨[.tmp 4, .tmp 5], [0, 0], ⟨[0, 0], false, false⟩, lookL [(0, [1, 2, 6]), (1, [])]⟩ (.run (Tryz.f209.body.getD .skip) (ent xs) []) a) : R S0 209 xs = some a := RT Tryz.func209 hn h
theorem go210 (hn : xs.length = 2) (h : Ends S0 ⟨[.tmp 4], [0], ⟨[0, 0], false, false⟩, lookL [(0, [0, 1, 5]), (1, [])]⟩ (.run (Tryz.f210.body.getD .skip) (ent xs) []) a) : R S0 210 xs = some a := RT Tryz.func210 hn h
theorem go211 (hn : xs.length = 2) (h : Ends S0 ⟨[.tmp 4], [0], ⟨[0, 0], false, false⟩, lookL [(0, [0, 1, 5]), (1, []), (4, [0, 1, 5, 6, 7]), (5, [0, 1, 5, 6])]⟩ (.run (Tryz.f211.body.getD .skip) (ent xs) []) a) : R S0 211 xs = some a := RT Tryz.func211 hn h
theorem go212 (hn : xs.length = 1) (h : Ends S0 ⟨[.tmp 2], [0], ⟨[0], false, false⟩, lookL []⟩ (.run (Tryz.f212.body.getD .skip) (ent xs) []) a) : R S0 212 xs = some a := RT Tryz.func212 hn h
theorem go213 (hn : xs.length = 2) (h : Ends S0 ⟨[.tmp 4], [0], ⟨[0, 0], false, false⟩, lookL []⟩ (.run (Tryz.f213.body.getD .skip) (ent xs) []) a) : R S0 213 xs = some a := RT Tryz.func213 hn h
theorem go222 (hn : xs.length = 1) (h : Ends S0 ⟨[.tmp 2], [0], ⟨[0], false, false⟩, lookL [(0, [2, 4]), (1, [2])]⟩ (.run (Tryz.f222.body.getD .skip) (ent xs) []) a) : R S0 222 xs = some a := RT Tryz.func222 hn h
theorem go223 (hn : xs.length = 1) (h : Ends S0 ⟨[.tmp 2, .tmp 3], [0, 0], ⟨[0], false, false⟩, lookL []⟩ (.run (Tryz.f223.body.getD .skip) (ent xs) []) a) : R S0 223 xs = some a := RT Tryz.func223 hn h
theorem go227 (hn : xs.length = 2) (h : Ends S0 ⟨[.tmp 4], [0], ⟨[0, 0], false, false⟩, lookL []⟩ (.run (Tryz.f227.body.getD .skip) (ent xs) []) a) : R S0 227 xs = some a := RT Tryz.func227 hn h
theorem go243 (hn : xs.length = 1) (h : Ends S0 ⟨[.tmp 2, .tmp 3], [0, 0], ⟨[0], false, false⟩, lookL []⟩ (.run (Tryz.f243.body.getD .skip) (ent xs) []) a) : R S0 243 xs = some a := RT Tryz.func243 hn h
/- What the sorts' comparisons reach: run without the library. -/
noncomputable def tabC : Tab := ⟨Tryz.prog, fun _ => none,
  [(96, ⟨[0, 0], false, false⟩), (97, ⟨[0], false, false⟩), (98, ⟨[0, 0], false, false⟩), (138, ⟨[0], false, false⟩)],
  [(97, [(0, [3, 6, 7, 8]), (1, [3])])],
  []⟩
noncomputable abbrev SC : Sys := tabC.S
@[go_sem] theorem MC96 : tabC.E.M 96 = ⟨[0, 0], false, false⟩ := by kernel_rfl
@[go_sem] theorem MC97 : tabC.E.M 97 = ⟨[0], false, false⟩ := by kernel_rfl
@[go_sem] theorem MC98 : tabC.E.M 98 = ⟨[0, 0], false, false⟩ := by kernel_rfl
@[go_sem] theorem MC138 : tabC.E.M 138 = ⟨[0], false, false⟩ := by kernel_rfl
@[go_sem] theorem TC3 : tabC.E.T 3 = some ⟨.int .i64, 1, 8, [.int .i64 0]⟩ := T3
@[go_sem] theorem TC4 : tabC.E.T 4 = some ⟨.bool, 1, 1, [.bool false]⟩ := T4
@[go_sem] theorem TC9 : tabC.E.T 9 = some ⟨.str, 1, 16, [.str []]⟩ := T9
@[go_sem] theorem TC38 : tabC.E.T 38 = some ⟨.slice 3, 1, 24, [.slo 1 []]⟩ := T38
@[go_sem] theorem TC74 : tabC.E.T 74 = some ⟨.slice 87, 1, 24, [.slo 2 []]⟩ := T74
@[go_sem] theorem TC76 : tabC.E.T 76 = some ⟨.struct [(0, 9), (1, 9), (2, 74)], 3, 56, [.str [], .str [], .slo 2 []]⟩ := T76
@[go_sem] theorem TC87 : tabC.E.T 87 = some ⟨.struct [(0, 3), (1, 38)], 2, 32, [.int .i64 0, .slo 1 []]⟩ := T87
theorem goC96 {xs : List PV} {a : Ans} (hn : xs.length = 2) (h : Ends SC ⟨[.tmp 4], [0], ⟨[0, 0], false, false⟩, lookL []⟩ (.run (Tryz.f96.body.getD .skip) (ent xs) []) a) : R SC 96 xs = some a := R_tab (t := tabC) (n := 2) (by kernel_rfl) Tryz.func96 (by kernel_rfl) (by kernel_rfl) (by kernel_rfl) (by kernel_rfl) rfl (of_decide_eq_true (by kernel_rfl)) (of_decide_eq_true (by kernel_rfl)) (by kernel_rfl) (by kernel_rfl) hn h
theorem goC97 {xs : List PV} {a : Ans} (hn : xs.length = 1) (h : Ends SC ⟨[.tmp 2], [0], ⟨[0], false, false⟩, lookL [(0, [3, 6, 7, 8]), (1, [3])]⟩ (.run (Tryz.f97.body.getD .skip) (ent xs) []) a) : R SC 97 xs = some a := R_tab (t := tabC) (n := 1) (by kernel_rfl) Tryz.func97 (by kernel_rfl) (by kernel_rfl) (by kernel_rfl) (by kernel_rfl) rfl (of_decide_eq_true (by kernel_rfl)) (of_decide_eq_true (by kernel_rfl)) (by kernel_rfl) (by kernel_rfl) hn h
theorem goC98 {xs : List PV} {a : Ans} (hn : xs.length = 2) (h : Ends SC ⟨[.tmp 4], [0], ⟨[0, 0], false, false⟩, lookL []⟩ (.run (Tryz.f98.body.getD .skip) (ent xs) []) a) : R SC 98 xs = some a := R_tab (t := tabC) (n := 2) (by kernel_rfl) Tryz.func98 (by kernel_rfl) (by kernel_rfl) (by kernel_rfl) (by kernel_rfl) rfl (of_decide_eq_true (by kernel_rfl)) (of_decide_eq_true (by kernel_rfl)) (by kernel_rfl) (by kernel_rfl) hn h
theorem goC138 {xs : List PV} {a : Ans} (hn : xs.length = 1) (h : Ends SC ⟨[.tmp 2], [0], ⟨[0], false, false⟩, lookL []⟩ (.run (Tryz.f138.body.getD .skip) (ent xs) []) a) : R SC 138 xs = some a := R_tab (t := tabC) (n := 1) (by kernel_rfl) Tryz.func138 (by kernel_rfl) (by kernel_rfl) (by kernel_rfl) (by kernel_rfl) rfl (of_decide_eq_true (by kernel_rfl)) (of_decide_eq_true (by kernel_rfl)) (by kernel_rfl) (by kernel_rfl) hn h
end Go.Proofs.YtjagjfjhinlgiaaGreatDoor.PVE
