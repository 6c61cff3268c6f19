/- The tables of the seat, by program: types, how functions are called, what lives at loops. -/
import Derived.Test.YtjagjfjhinlgiaaGreatDoorL3
import Derived.Test.YtjagjfjhinlgiaaGreatDoorL4
import Derived.Test.YtjagjfjhinlgiaaGreatDoorChecked
set_option linter.unusedVariables false
set_option linter.unusedSimpArgs false
set_option maxRecDepth 100000
namespace Go.Proofs.YtjagjfjhinlgiaaGreatDoor.PVE
open PV
noncomputable def tab : Tab := ⟨Tryz.prog, fun g => if g = 0 then some ([.sl ([[97], [97, 110], [97, 110, 100], [111, 102], [116, 104, 101], [116, 111]].map PV.str)]) else if g = 1 then some ([PV.ifc]) else if g = 2 then some ([PV.ifc]) else if g = 3 then some (Lib.pow10Tab.map (PV.int .u64)) else none,
  [(3, ⟨[0], false, false⟩), (4, ⟨[0], false, false⟩), (5, ⟨[0], false, false⟩), (6, ⟨[0], false, false⟩), (7, ⟨[0], false, false⟩), (8, ⟨[0], false, false⟩), (9, ⟨[0], false, false⟩), (13, ⟨[0], true, true⟩), (14, ⟨[0], false, false⟩), (15, ⟨[0], false, false⟩), (16, ⟨[0, 0], true, true⟩), (17, ⟨[0], true, true⟩), (18, ⟨[0, 0], false, false⟩), (19, ⟨[0, 0], false, false⟩), (20, ⟨[0, 0], false, false⟩), (21, ⟨[0, 0], false, false⟩), (22, ⟨[0], true, true⟩), (23, ⟨[0, 0], false, false⟩), (24, ⟨[0, 0], false, false⟩), (25, ⟨[0, 0], false, false⟩), (26, ⟨[0], true, true⟩), (27, ⟨[0, 0], true, true⟩), (28, ⟨[0, 0], true, true⟩), (29, ⟨[0, 0], false, false⟩), (30, ⟨[0], true, true⟩), (31, ⟨[0, 0], true, true⟩), (32, ⟨[0, 0], false, false⟩), (33, ⟨[0, 0], false, false⟩), (40, ⟨[1], true, true⟩), (41, ⟨[0], false, true⟩), (42, ⟨[0], false, false⟩), (43, ⟨[0, 0, 0], false, false⟩), (44, ⟨[0, 0], false, false⟩), (45, ⟨[0, 0], false, false⟩), (46, ⟨[0, 0, 0], false, false⟩), (47, ⟨[0, 0], false, false⟩), (48, ⟨[0, 0], false, false⟩), (49, ⟨[0, 0], false, false⟩), (50, ⟨[0, 0], false, false⟩), (51, ⟨[0, 0, 0], false, false⟩), (52, ⟨[0], false, false⟩), (53, ⟨[0, 0], false, false⟩), (54, ⟨[0, 0], false, false⟩), (55, ⟨[0], false, false⟩), (56, ⟨[0, 0, 0], false, false⟩), (57, ⟨[0, 0], false, true⟩), (58, ⟨[1, 0], false, true⟩), (59, ⟨[0, 0], false, false⟩), (60, ⟨[0, 0], false, false⟩), (61, ⟨[0, 0], false, false⟩), (62, ⟨[0, 0], false, false⟩), (63, ⟨[0, 0], false, false⟩), (64, ⟨[0, 0], false, false⟩), (65, ⟨[0, 0, 0, 0], false, false⟩), (66, ⟨[1, 0], false, true⟩), (67, ⟨[0, 0], false, true⟩), (68, ⟨[0], false, false⟩), (69, ⟨[0, 0, 0], false, false⟩), (70, ⟨[0, 0], false, false⟩), (71, ⟨[0, 0], false, false⟩), (72, ⟨[1, 0], false, true⟩), (73, ⟨[0], false, false⟩), (82, ⟨[1], false, true⟩), (83, ⟨[1, 0], false, true⟩), (84, ⟨[1, 0], false, true⟩), (85, ⟨[1], true, true⟩), (86, ⟨[0], false, false⟩), (87, ⟨[0, 0], false, false⟩), (88, ⟨[0], false, false⟩), (89, ⟨[0, 0], false, false⟩), (90, ⟨[0], false, false⟩), (91, ⟨[0], false, false⟩), (92, ⟨[0, 0], false, false⟩), (93, ⟨[0, 0], false, false⟩), (94, ⟨[0], false, false⟩), (95, ⟨[1, 0], false, false⟩), (96, ⟨[0, 0], false, false⟩), (97, ⟨[0], false, false⟩), (98, ⟨[0, 0], false, false⟩), (99, ⟨[0, 0, 0], false, false⟩), (100, ⟨[0, 0], false, false⟩), (101, ⟨[0, 0], false, false⟩), (102, ⟨[0, 0], false, false⟩), (103, ⟨[0], false, false⟩), (104, ⟨[0], false, false⟩), (105, ⟨[0, 0], false, false⟩), (106, ⟨[0, 2, 0], false, false⟩), (107, ⟨[0, 0], false, false⟩), (108, ⟨[0, 0], false, false⟩), (109, ⟨[0, 0], false, false⟩), (110, ⟨[1, 0], false, true⟩), (111, ⟨[1, 0], false, true⟩), (112, ⟨[1], false, true⟩), (116, ⟨[0, 0, 0], false, false⟩), (125, ⟨[1], true, true⟩), (126, ⟨[0], false, false⟩), (127, ⟨[0], false, false⟩), (128, ⟨[0], false, false⟩), (129, ⟨[0, 0], false, false⟩), (130, ⟨[0], false, false⟩), (133, ⟨[0, 0], true, true⟩), (134, ⟨[0], false, false⟩), (135, ⟨[0], false, false⟩), (138, ⟨[0], false, false⟩), (139, ⟨[0, 0], false, false⟩), (140, ⟨[0], false, false⟩), (141, ⟨[0], false, false⟩), (142, ⟨[0], false, false⟩), (143, ⟨[0], false, false⟩), (144, ⟨[2, 0, 0, 0, 0], false, false⟩), (145, ⟨[1], false, true⟩), (146, ⟨[0, 0], false, false⟩), (155, ⟨[], false, false⟩), (156, ⟨[0, 0], false, false⟩), (160, ⟨[0, 0, 0, 0], true, true⟩), (161, ⟨[0], false, false⟩), (162, ⟨[0], false, false⟩), (173, ⟨[0], false, false⟩), (174, ⟨[0, 0, 0], false, false⟩), (175, ⟨[2, 0], false, false⟩), (176, ⟨[0], false, false⟩), (177, ⟨[0], false, false⟩), (178, ⟨[0, 0, 0], false, false⟩), (179, ⟨[1], false, true⟩), (184, ⟨[0], false, false⟩), (198, ⟨[0, 0], false, false⟩), (199, ⟨[0, 0], false, false⟩), (200, ⟨[0, 0], false, false⟩), (201, ⟨[0], false, false⟩), (207, ⟨[0], false, false⟩), (208, ⟨[0], false, false⟩), (212, ⟨[0], false, false⟩), (222, ⟨[0], false, false⟩), (223, ⟨[0], false, false⟩), (225, ⟨[0, 0], false, false⟩), (243, ⟨[0], false, false⟩)],
  [(3, [(0, [3, 5, 6]), (1, [3, 5])]), (4, [(0, [3, 4, 5, 6, 7]), (1, [5, 6])]), (5, [(0, [3, 4, 5, 6]), (1, []), (4, [3, 4, 5, 6, 7, 8]), (5, [3, 4, 5, 6])]), (7, [(0, [3, 4, 5, 6, 10, 12, 13, 14]), (1, [3, 5, 6, 10, 12, 13])]), (8, [(0, [3, 4, 5, 6, 11, 12, 13]), (1, [3, 4, 5, 6, 11, 12])]), (14, [(0, [1, 22, 23, 24]), (1, [1])]), (15, [(0, [1, 3]), (1, [1])]), (18, [(0, [1, 5, 14, 15, 16]), (1, [5])]), (19, [(0, [0, 1, 5]), (1, [])]), (20, [(0, [1, 2, 5, 6]), (1, [5])]), (21, [(0, [0, 1, 5]), (1, [])]), (23, [(0, [2, 5, 7, 30, 31, 32]), (1, [5])]), (24, [(0, [0, 1, 5]), (1, [])]), (25, [(0, [2, 5, 7, 8]), (1, [5]), (4, [2, 5, 7, 8, 9, 10]), (5, [2, 5, 7, 8, 9]), (8, [2, 5, 7, 8, 9, 10, 11, 12, 13]), (9, [2, 5, 7, 8, 9, 10, 11, 12])]), (29, [(0, [2, 3, 5]), (1, [2, 3]), (4, [2, 3, 6]), (5, [])]), (33, [(0, [2, 3, 5]), (1, [])]), (42, [(0, [0, 3, 8, 9, 10]), (1, [0])]), (44, [(0, [0, 18, 19, 20]), (1, [])]), (46, [(0, [1, 2, 15, 16, 17]), (1, [])]), (47, [(0, [0, 5, 18, 19, 20]), (1, [5]), (4, [0, 5, 7, 18, 19, 20, 26, 27, 28]), (5, [0, 5, 18, 19, 20]), (8, [0, 5, 7, 9, 18, 19, 20, 26, 27, 28, 40, 41, 42]), (9, [0, 5, 7, 18, 19, 20, 26, 27, 28]), (12, [14, 101]), (13, [14])]), (49, [(0, [0, 3, 5]), (1, [0, 3])]), (50, [(0, [0, 1, 5]), (1, [])]), (52, [(0, [0, 3]), (1, [0])]), (53, [(0, [0, 1, 5]), (1, []), (4, [0, 1, 5, 6]), (5, [0, 1, 5])]), (54, [(0, [0, 1, 5, 6]), (1, [5])]), (56, [(0, [6, 7, 21, 22, 23]), (1, [6, 7])]), (57, [(0, [1, 5, 10, 11, 12]), (1, [5])]), (58, [(0, [0, 3, 5, 6, 1000000]), (1, [0, 5, 1000000])]), (60, [(0, [0, 1, 5]), (1, [])]), (67, [(0, [0, 1, 5, 6]), (1, [5])]), (69, [(0, [1, 6, 7, 8]), (1, [6, 7])]), (70, [(0, [0, 1, 5]), (1, [])]), (71, [(0, [0, 1, 5]), (1, [])]), (82, [(0, [0, 2, 3, 4, 5, 6, 1000000]), (1, [0, 2, 3, 4, 5, 1000000]), (4, [2, 3, 4, 5, 8, 1000000]), (5, [2, 3, 4, 5, 1000000])]), (86, [(0, [0, 5, 6]), (1, [0])]), (88, [(0, [1, 6, 7, 8]), (1, [1])]), (89, [(0, [1, 4, 7, 8, 9]), (1, [4])]), (91, [(0, [3, 8, 9, 10]), (1, [3])]), (92, [(0, [0, 1, 7, 8]), (1, [])]), (94, [(0, [3, 8, 9, 10]), (1, [3])]), (97, [(0, [3, 6, 7, 8]), (1, [3])]), (99, [(0, [1, 2, 15, 16, 17]), (1, [])]), (101, [(0, [0, 1, 5]), (1, [])]), (103, [(0, [1, 3]), (1, [1])]), (104, [(0, [0, 3]), (1, [0])]), (105, [(0, [0, 1, 5]), (1, [])]), (106, [(0, [0, 1, 5, 7]), (1, [1]), (4, [0, 1, 5, 7, 8, 9]), (5, [0, 1, 5, 7])]), (107, [(0, [0, 1, 7, 8]), (1, [])]), (108, [(0, [0, 1, 7, 8]), (1, [])]), (109, [(0, [0, 1, 7, 8]), (1, [])]), (110, [(0, [0, 1, 4, 5, 6, 7, 1000000]), (1, [4, 5, 1000000])]), (129, [(0, [0, 1, 7, 8]), (1, [])]), (134, [(0, [0, 3, 4]), (1, [3]), (4, [0, 3, 4, 5]), (5, [0, 3, 4, 5])]), (139, [(0, [0, 1, 12, 13]), (1, [])]), (141, [(0, [4, 5, 6]), (1, [4, 5])]), (142, [(0, [0, 3]), (1, [0])]), (143, [(0, [3, 4, 5]), (1, [3])]), (145, [(0, [0, 3, 4, 1000000]), (1, [3, 1000000])]), (146, [(0, [0, 1, 5]), (1, [5])]), (156, [(0, [0, 1, 7, 8]), (1, [0, 1])]), (160, [(0, [0, 1, 2, 3, 9, 10]), (1, [0, 9, 10])]), (162, [(0, [3, 8, 9, 10]), (1, [3])]), (173, [(0, [0, 3, 4]), (1, [0, 3])]), (174, [(0, [0, 1, 2, 7, 8, 9]), (1, [0, 7, 8])]), (175, [(0, [0, 1, 5]), (1, [0, 1, 5])]), (176, [(0, [0, 3, 4]), (1, [3]), (4, [0, 3, 4, 5]), (5, [0, 3, 4, 5])]), (178, [(0, [0, 1, 2, 8]), (1, [0, 1, 2, 8])]), (184, [(0, [0, 3, 4]), (1, [3])]), (198, [(0, [0, 1, 6, 7]), (1, [0, 1, 6])]), (208, [(0, [0, 3, 4]), (1, [])]), (222, [(0, [2, 4]), (1, [2])])],
  [(90, libNumber), (95, libSortE), (199, libCount), (225, libIndex)]⟩
noncomputable abbrev S0 : Sys := tab.S
theorem prog_eq : tab.P = Tryz.prog := rfl
@[go_sem] theorem M3 : tab.E.M 3 = ⟨[0], false, false⟩ := by kernel_rfl
@[go_sem] theorem M4 : tab.E.M 4 = ⟨[0], false, false⟩ := by kernel_rfl
@[go_sem] theorem M5 : tab.E.M 5 = ⟨[0], false, false⟩ := by kernel_rfl
@[go_sem] theorem M6 : tab.E.M 6 = ⟨[0], false, false⟩ := by kernel_rfl
@[go_sem] theorem M7 : tab.E.M 7 = ⟨[0], false, false⟩ := by kernel_rfl
@[go_sem] theorem M8 : tab.E.M 8 = ⟨[0], false, false⟩ := by kernel_rfl
@[go_sem] theorem M9 : tab.E.M 9 = ⟨[0], false, false⟩ := by kernel_rfl
@[go_sem] theorem M13 : tab.E.M 13 = ⟨[0], true, true⟩ := by kernel_rfl
@[go_sem] theorem M14 : tab.E.M 14 = ⟨[0], false, false⟩ := by kernel_rfl
@[go_sem] theorem M15 : tab.E.M 15 = ⟨[0], false, false⟩ := by kernel_rfl
@[go_sem] theorem M16 : tab.E.M 16 = ⟨[0, 0], true, true⟩ := by kernel_rfl
@[go_sem] theorem M17 : tab.E.M 17 = ⟨[0], true, true⟩ := by kernel_rfl
@[go_sem] theorem M18 : tab.E.M 18 = ⟨[0, 0], false, false⟩ := by kernel_rfl
@[go_sem] theorem M19 : tab.E.M 19 = ⟨[0, 0], false, false⟩ := by kernel_rfl
@[go_sem] theorem M20 : tab.E.M 20 = ⟨[0, 0], false, false⟩ := by kernel_rfl
@[go_sem] theorem M21 : tab.E.M 21 = ⟨[0, 0], false, false⟩ := by kernel_rfl
@[go_sem] theorem M22 : tab.E.M 22 = ⟨[0], true, true⟩ := by kernel_rfl
@[go_sem] theorem M23 : tab.E.M 23 = ⟨[0, 0], false, false⟩ := by kernel_rfl
@[go_sem] theorem M24 : tab.E.M 24 = ⟨[0, 0], false, false⟩ := by kernel_rfl
@[go_sem] theorem M25 : tab.E.M 25 = ⟨[0, 0], false, false⟩ := by kernel_rfl
@[go_sem] theorem M26 : tab.E.M 26 = ⟨[0], true, true⟩ := by kernel_rfl
@[go_sem] theorem M27 : tab.E.M 27 = ⟨[0, 0], true, true⟩ := by kernel_rfl
@[go_sem] theorem M28 : tab.E.M 28 = ⟨[0, 0], true, true⟩ := by kernel_rfl
@[go_sem] theorem M29 : tab.E.M 29 = ⟨[0, 0], false, false⟩ := by kernel_rfl
@[go_sem] theorem M30 : tab.E.M 30 = ⟨[0], true, true⟩ := by kernel_rfl
@[go_sem] theorem M31 : tab.E.M 31 = ⟨[0, 0], true, true⟩ := by kernel_rfl
@[go_sem] theorem M32 : tab.E.M 32 = ⟨[0, 0], false, false⟩ := by kernel_rfl
@[go_sem] theorem M33 : tab.E.M 33 = ⟨[0, 0], false, false⟩ := by kernel_rfl
@[go_sem] theorem M40 : tab.E.M 40 = ⟨[1], true, true⟩ := by kernel_rfl
@[go_sem] theorem M41 : tab.E.M 41 = ⟨[0], false, true⟩ := by kernel_rfl
@[go_sem] theorem M42 : tab.E.M 42 = ⟨[0], false, false⟩ := by kernel_rfl
@[go_sem] theorem M43 : tab.E.M 43 = ⟨[0, 0, 0], false, false⟩ := by kernel_rfl
@[go_sem] theorem M44 : tab.E.M 44 = ⟨[0, 0], false, false⟩ := by kernel_rfl
@[go_sem] theorem M45 : tab.E.M 45 = ⟨[0, 0], false, false⟩ := by kernel_rfl
@[go_sem] theorem M46 : tab.E.M 46 = ⟨[0, 0, 0], false, false⟩ := by kernel_rfl
@[go_sem] theorem M47 : tab.E.M 47 = ⟨[0, 0], false, false⟩ := by kernel_rfl
@[go_sem] theorem M48 : tab.E.M 48 = ⟨[0, 0], false, false⟩ := by kernel_rfl
@[go_sem] theorem M49 : tab.E.M 49 = ⟨[0, 0], false, false⟩ := by kernel_rfl
@[go_sem] theorem M50 : tab.E.M 50 = ⟨[0, 0], false, false⟩ := by kernel_rfl
@[go_sem] theorem M51 : tab.E.M 51 = ⟨[0, 0, 0], false, false⟩ := by kernel_rfl
@[go_sem] theorem M52 : tab.E.M 52 = ⟨[0], false, false⟩ := by kernel_rfl
@[go_sem] theorem M53 : tab.E.M 53 = ⟨[0, 0], false, false⟩ := by kernel_rfl
@[go_sem] theorem M54 : tab.E.M 54 = ⟨[0, 0], false, false⟩ := by kernel_rfl
@[go_sem] theorem M55 : tab.E.M 55 = ⟨[0], false, false⟩ := by kernel_rfl
@[go_sem] theorem M56 : tab.E.M 56 = ⟨[0, 0, 0], false, false⟩ := by kernel_rfl
@[go_sem] theorem M57 : tab.E.M 57 = ⟨[0, 0], false, true⟩ := by kernel_rfl
@[go_sem] theorem M58 : tab.E.M 58 = ⟨[1, 0], false, true⟩ := by kernel_rfl
@[go_sem] theorem M59 : tab.E.M 59 = ⟨[0, 0], false, false⟩ := by kernel_rfl
@[go_sem] theorem M60 : tab.E.M 60 = ⟨[0, 0], false, false⟩ := by kernel_rfl
@[go_sem] theorem M61 : tab.E.M 61 = ⟨[0, 0], false, false⟩ := by kernel_rfl
@[go_sem] theorem M62 : tab.E.M 62 = ⟨[0, 0], false, false⟩ := by kernel_rfl
@[go_sem] theorem M63 : tab.E.M 63 = ⟨[0, 0], false, false⟩ := by kernel_rfl
@[go_sem] theorem M64 : tab.E.M 64 = ⟨[0, 0], false, false⟩ := by kernel_rfl
@[go_sem] theorem M65 : tab.E.M 65 = ⟨[0, 0, 0, 0], false, false⟩ := by kernel_rfl
@[go_sem] theorem M66 : tab.E.M 66 = ⟨[1, 0], false, true⟩ := by kernel_rfl
@[go_sem] theorem M67 : tab.E.M 67 = ⟨[0, 0], false, true⟩ := by kernel_rfl
@[go_sem] theorem M68 : tab.E.M 68 = ⟨[0], false, false⟩ := by kernel_rfl
@[go_sem] theorem M69 : tab.E.M 69 = ⟨[0, 0, 0], false, false⟩ := by kernel_rfl
@[go_sem] theorem M70 : tab.E.M 70 = ⟨[0, 0], false, false⟩ := by kernel_rfl
@[go_sem] theorem M71 : tab.E.M 71 = ⟨[0, 0], false, false⟩ := by kernel_rfl
@[go_sem] theorem M72 : tab.E.M 72 = ⟨[1, 0], false, true⟩ := by kernel_rfl
@[go_sem] theorem M73 : tab.E.M 73 = ⟨[0], false, false⟩ := by kernel_rfl
@[go_sem] theorem M82 : tab.E.M 82 = ⟨[1], false, true⟩ := by kernel_rfl
@[go_sem] theorem M83 : tab.E.M 83 = ⟨[1, 0], false, true⟩ := by kernel_rfl
@[go_sem] theorem M84 : tab.E.M 84 = ⟨[1, 0], false, true⟩ := by kernel_rfl
@[go_sem] theorem M85 : tab.E.M 85 = ⟨[1], true, true⟩ := by kernel_rfl
@[go_sem] theorem M86 : tab.E.M 86 = ⟨[0], false, false⟩ := by kernel_rfl
@[go_sem] theorem M87 : tab.E.M 87 = ⟨[0, 0], false, false⟩ := by kernel_rfl
@[go_sem] theorem M88 : tab.E.M 88 = ⟨[0], false, false⟩ := by kernel_rfl
@[go_sem] theorem M89 : tab.E.M 89 = ⟨[0, 0], false, false⟩ := by kernel_rfl
@[go_sem] theorem M90 : tab.E.M 90 = ⟨[0], false, false⟩ := by kernel_rfl
@[go_sem] theorem M91 : tab.E.M 91 = ⟨[0], false, false⟩ := by kernel_rfl
@[go_sem] theorem M92 : tab.E.M 92 = ⟨[0, 0], false, false⟩ := by kernel_rfl
@[go_sem] theorem M93 : tab.E.M 93 = ⟨[0, 0], false, false⟩ := by kernel_rfl
@[go_sem] theorem M94 : tab.E.M 94 = ⟨[0], false, false⟩ := by kernel_rfl
@[go_sem] theorem M95 : tab.E.M 95 = ⟨[1, 0], false, false⟩ := by kernel_rfl
@[go_sem] theorem M96 : tab.E.M 96 = ⟨[0, 0], false, false⟩ := by kernel_rfl
@[go_sem] theorem M97 : tab.E.M 97 = ⟨[0], false, false⟩ := by kernel_rfl
@[go_sem] theorem M98 : tab.E.M 98 = ⟨[0, 0], false, false⟩ := by kernel_rfl
@[go_sem] theorem M99 : tab.E.M 99 = ⟨[0, 0, 0], false, false⟩ := by kernel_rfl
@[go_sem] theorem M100 : tab.E.M 100 = ⟨[0, 0], false, false⟩ := by kernel_rfl
@[go_sem] theorem M101 : tab.E.M 101 = ⟨[0, 0], false, false⟩ := by kernel_rfl
@[go_sem] theorem M102 : tab.E.M 102 = ⟨[0, 0], false, false⟩ := by kernel_rfl
@[go_sem] theorem M103 : tab.E.M 103 = ⟨[0], false, false⟩ := by kernel_rfl
@[go_sem] theorem M104 : tab.E.M 104 = ⟨[0], false, false⟩ := by kernel_rfl
@[go_sem] theorem M105 : tab.E.M 105 = ⟨[0, 0], false, false⟩ := by kernel_rfl
@[go_sem] theorem M106 : tab.E.M 106 = ⟨[0, 2, 0], false, false⟩ := by kernel_rfl
@[go_sem] theorem M107 : tab.E.M 107 = ⟨[0, 0], false, false⟩ := by kernel_rfl
@[go_sem] theorem M108 : tab.E.M 108 = ⟨[0, 0], false, false⟩ := by kernel_rfl
@[go_sem] theorem M109 : tab.E.M 109 = ⟨[0, 0], false, false⟩ := by kernel_rfl
@[go_sem] theorem M110 : tab.E.M 110 = ⟨[1, 0], false, true⟩ := by kernel_rfl
@[go_sem] theorem M111 : tab.E.M 111 = ⟨[1, 0], false, true⟩ := by kernel_rfl
@[go_sem] theorem M112 : tab.E.M 112 = ⟨[1], false, true⟩ := by kernel_rfl
@[go_sem] theorem M116 : tab.E.M 116 = ⟨[0, 0, 0], false, false⟩ := by kernel_rfl
@[go_sem] theorem M125 : tab.E.M 125 = ⟨[1], true, true⟩ := by kernel_rfl
@[go_sem] theorem M126 : tab.E.M 126 = ⟨[0], false, false⟩ := by kernel_rfl
@[go_sem] theorem M127 : tab.E.M 127 = ⟨[0], false, false⟩ := by kernel_rfl
@[go_sem] theorem M128 : tab.E.M 128 = ⟨[0], false, false⟩ := by kernel_rfl
@[go_sem] theorem M129 : tab.E.M 129 = ⟨[0, 0], false, false⟩ := by kernel_rfl
@[go_sem] theorem M130 : tab.E.M 130 = ⟨[0], false, false⟩ := by kernel_rfl
@[go_sem] theorem M133 : tab.E.M 133 = ⟨[0, 0], true, true⟩ := by kernel_rfl
@[go_sem] theorem M134 : tab.E.M 134 = ⟨[0], false, false⟩ := by kernel_rfl
@[go_sem] theorem M135 : tab.E.M 135 = ⟨[0], false, false⟩ := by kernel_rfl
@[go_sem] theorem M138 : tab.E.M 138 = ⟨[0], false, false⟩ := by kernel_rfl
@[go_sem] theorem M139 : tab.E.M 139 = ⟨[0, 0], false, false⟩ := by kernel_rfl
@[go_sem] theorem M140 : tab.E.M 140 = ⟨[0], false, false⟩ := by kernel_rfl
@[go_sem] theorem M141 : tab.E.M 141 = ⟨[0], false, false⟩ := by kernel_rfl
@[go_sem] theorem M142 : tab.E.M 142 = ⟨[0], false, false⟩ := by kernel_rfl
@[go_sem] theorem M143 : tab.E.M 143 = ⟨[0], false, false⟩ := by kernel_rfl
@[go_sem] theorem M144 : tab.E.M 144 = ⟨[2, 0, 0, 0, 0], false, false⟩ := by kernel_rfl
@[go_sem] theorem M145 : tab.E.M 145 = ⟨[1], false, true⟩ := by kernel_rfl
@[go_sem] theorem M146 : tab.E.M 146 = ⟨[0, 0], false, false⟩ := by kernel_rfl
@[go_sem] theorem M155 : tab.E.M 155 = ⟨[], false, false⟩ := by kernel_rfl
@[go_sem] theorem M156 : tab.E.M 156 = ⟨[0, 0], false, false⟩ := by kernel_rfl
@[go_sem] theorem M160 : tab.E.M 160 = ⟨[0, 0, 0, 0], true, true⟩ := by kernel_rfl
@[go_sem] theorem M161 : tab.E.M 161 = ⟨[0], false, false⟩ := by kernel_rfl
@[go_sem] theorem M162 : tab.E.M 162 = ⟨[0], false, false⟩ := by kernel_rfl
@[go_sem] theorem M173 : tab.E.M 173 = ⟨[0], false, false⟩ := by kernel_rfl
@[go_sem] theorem M174 : tab.E.M 174 = ⟨[0, 0, 0], false, false⟩ := by kernel_rfl
@[go_sem] theorem M175 : tab.E.M 175 = ⟨[2, 0], false, false⟩ := by kernel_rfl
@[go_sem] theorem M176 : tab.E.M 176 = ⟨[0], false, false⟩ := by kernel_rfl
@[go_sem] theorem M177 : tab.E.M 177 = ⟨[0], false, false⟩ := by kernel_rfl
@[go_sem] theorem M178 : tab.E.M 178 = ⟨[0, 0, 0], false, false⟩ := by kernel_rfl
@[go_sem] theorem M179 : tab.E.M 179 = ⟨[1], false, true⟩ := by kernel_rfl
@[go_sem] theorem M184 : tab.E.M 184 = ⟨[0], false, false⟩ := by kernel_rfl
@[go_sem] theorem M198 : tab.E.M 198 = ⟨[0, 0], false, false⟩ := by kernel_rfl
@[go_sem] theorem M199 : tab.E.M 199 = ⟨[0, 0], false, false⟩ := by kernel_rfl
@[go_sem] theorem M200 : tab.E.M 200 = ⟨[0, 0], false, false⟩ := by kernel_rfl
@[go_sem] theorem M201 : tab.E.M 201 = ⟨[0], false, false⟩ := by kernel_rfl
@[go_sem] theorem M207 : tab.E.M 207 = ⟨[0], false, false⟩ := by kernel_rfl
@[go_sem] theorem M208 : tab.E.M 208 = ⟨[0], false, false⟩ := by kernel_rfl
@[go_sem] theorem M212 : tab.E.M 212 = ⟨[0], false, false⟩ := by kernel_rfl
@[go_sem] theorem M222 : tab.E.M 222 = ⟨[0], false, false⟩ := by kernel_rfl
@[go_sem] theorem M223 : tab.E.M 223 = ⟨[0], false, false⟩ := by kernel_rfl
@[go_sem] theorem M225 : tab.E.M 225 = ⟨[0, 0], false, false⟩ := by kernel_rfl
@[go_sem] theorem M243 : tab.E.M 243 = ⟨[0], false, false⟩ := by kernel_rfl
@[go_sem] theorem G0 : tab.E.G 0 = some ([.sl ([[97], [97, 110], [97, 110, 100], [111, 102], [116, 104, 101], [116, 111]].map PV.str)]) := rfl
@[go_sem] theorem G1 : tab.E.G 1 = some ([PV.ifc]) := rfl
@[go_sem] theorem G2 : tab.E.G 2 = some ([PV.ifc]) := rfl
@[go_sem] theorem G3 : tab.E.G 3 = some (Lib.pow10Tab.map (PV.int .u64)) := rfl
@[go_sem] theorem T3 : tab.E.T 3 = some ⟨.int .i64, 1, 8, [.int .i64 0]⟩ := by kernel_rfl
@[go_sem] theorem T4 : tab.E.T 4 = some ⟨.bool, 1, 1, [.bool false]⟩ := by kernel_rfl
@[go_sem] theorem T5 : tab.E.T 5 = some ⟨.int .u8, 1, 1, [.int .u8 0]⟩ := by kernel_rfl
@[go_sem] theorem T9 : tab.E.T 9 = some ⟨.str, 1, 16, [.str []]⟩ := by kernel_rfl
@[go_sem] theorem T21 : tab.E.T 21 = some ⟨.int .i32, 1, 4, [.int .i32 0]⟩ := by kernel_rfl
@[go_sem] theorem T22 : tab.E.T 22 = some ⟨.slice 5, 1, 24, [.slo 1 []]⟩ := by kernel_rfl
@[go_sem] theorem T23 : tab.E.T 23 = some ⟨.slice 111, 1, 24, [.slo 3 []]⟩ := by kernel_rfl
@[go_sem] theorem T24 : tab.E.T 24 = some ⟨.slice 36, 1, 24, [.slo 3 []]⟩ := by kernel_rfl
@[go_sem] theorem T25 : tab.E.T 25 = some ⟨.slice 76, 1, 24, [.slo 3 []]⟩ := by kernel_rfl
@[go_sem] theorem T27 : tab.E.T 27 = some ⟨.struct [(0, 23), (1, 24), (2, 25), (3, 3)], 4, 80, [.slo 3 [], .slo 3 [], .slo 3 [], .int .i64 0]⟩ := by kernel_rfl
@[go_sem] theorem T32 : tab.E.T 32 = some ⟨.slice 101, 1, 24, [.slo 2 []]⟩ := by kernel_rfl
@[go_sem] theorem T34 : tab.E.T 34 = some ⟨.struct [(0, 9), (1, 32)], 2, 40, [.str [], .slo 2 []]⟩ := by kernel_rfl
@[go_sem] theorem T36 : tab.E.T 36 = some ⟨.struct [(0, 3), (1, 34)], 3, 48, [.int .i64 0, .str [], .slo 2 []]⟩ := by kernel_rfl
@[go_sem] theorem T38 : tab.E.T 38 = some ⟨.slice 3, 1, 24, [.slo 1 []]⟩ := by kernel_rfl
@[go_sem] theorem T41 : tab.E.T 41 = some ⟨.slice 9, 1, 24, [.slo 1 []]⟩ := by kernel_rfl
@[go_sem] theorem T67 : tab.E.T 67 = some ⟨.ptr 109, 1, 8, [.lit (.pointer none)]⟩ := by kernel_rfl
@[go_sem] theorem T74 : tab.E.T 74 = some ⟨.slice 87, 1, 24, [.slo 2 []]⟩ := by kernel_rfl
@[go_sem] theorem T76 : tab.E.T 76 = some ⟨.struct [(0, 9), (1, 9), (2, 74)], 3, 56, [.str [], .str [], .slo 2 []]⟩ := by kernel_rfl
@[go_sem] theorem T87 : tab.E.T 87 = some ⟨.struct [(0, 3), (1, 38)], 2, 32, [.int .i64 0, .slo 1 []]⟩ := by kernel_rfl
@[go_sem] theorem T89 : tab.E.T 89 = some ⟨.other, 1, 8, [.lit .nilFunc]⟩ := by kernel_rfl
@[go_sem] theorem T101 : tab.E.T 101 = some ⟨.struct [(0, 9), (1, 9)], 2, 32, [.str [], .str []]⟩ := by kernel_rfl
@[go_sem] theorem T109 : tab.E.T 109 = some ⟨.struct [(0, 22), (1, 3)], 2, 32, [.slo 1 [], .int .i64 0]⟩ := by kernel_rfl
@[go_sem] theorem T111 : tab.E.T 111 = some ⟨.struct [(0, 9), (1, 3), (2, 3)], 3, 32, [.str [], .int .i64 0, .int .i64 0]⟩ := by kernel_rfl
@[go_sem] theorem T120 : tab.E.T 120 = some ⟨.map 123 74, 1, 8, [.lit (.map none)]⟩ := by kernel_rfl
@[go_sem] theorem T123 : tab.E.T 123 = some ⟨.struct [(0, 9), (1, 9)], 2, 32, [.str [], .str []]⟩ := by kernel_rfl
@[go_sem] theorem T153 : tab.E.T 153 = some ⟨.slice 156, 1, 24, [.slo 3 []]⟩ := by kernel_rfl
@[go_sem] theorem T156 : tab.E.T 156 = some ⟨.struct [(0, 9), (1, 3), (2, 3)], 3, 32, [.str [], .int .i64 0, .int .i64 0]⟩ := by kernel_rfl
@[go_sem] theorem T240 : tab.E.T 240 = some ⟨.struct [(0, 5), (1, 5)], 2, 2, [.int .u8 0, .int .u8 0]⟩ := by kernel_rfl
@[go_sem] theorem ES101 : tab.E.S 101 = some [2, 2] := by kernel_rfl
@[go_sem] theorem ES111 : tab.E.S 111 = some [2, 0, 0] := by kernel_rfl
@[go_sem] theorem ES123 : tab.E.S 123 = some [2, 2] := by kernel_rfl
variable {xs : List PV} {a : Ans}
theorem RT {f n : Nat} {fu : Func} {ts : List ResultVar} {cm : CM} {ns : List Nat} {L : List (Nat × List Nat)} (hf : tab.P.funcs[f]? = some fu) (hxs : xs.length = n) (h : Ends tab.S ⟨ts, ns, cm, lookL L⟩ (.run (fu.body.getD .skip) (ent xs) []) a) (hl : isNone (tab.lib.lookup f) = true := by kernel_rfl) (hb : fu.body = some (fu.body.getD .skip) := by kernel_rfl) (hc : fnChk fu (fu.body.getD .skip) = true := by kernel_rfl) (hcm : tab.M f = cm := by kernel_rfl) (hX : tab.X f = L := by kernel_rfl)
    (hm : cm.modes.length = n := by rfl) (hn : n ≤ fu.ntmps := by exact of_decide_eq_true (by kernel_rfl)) (hg : n ≤ gBase := by exact of_decide_eq_true (by kernel_rfl)) (hts : fu.results.toList = ts := by kernel_rfl) (hns : fu.resultTypes.toList.map (nilSz tab.E) = ns := by kernel_rfl) : R tab.S f xs = some a := R_tab hl hf hb hc hcm hX hm hn hg hts hns hxs h
theorem go3 (hn : xs.length = 1) (h : Ends S0 ⟨[.tmp 2], [0], ⟨[0], false, false⟩, lookL [(0, [3, 5, 6]), (1, [3, 5])]⟩ (.run (Tryz.f3.body.getD .skip) (ent xs) []) a) : R S0 3 xs = some a := RT Tryz.func3 hn h
theorem go4 (hn : xs.length = 1) (h : Ends S0 ⟨[.tmp 2], [0], ⟨[0], false, false⟩, lookL [(0, [3, 4, 5, 6, 7]), (1, [5, 6])]⟩ (.run (Tryz.f4.body.getD .skip) (ent xs) []) a) : R S0 4 xs = some a := RT Tryz.func4 hn h
theorem go5 (hn : xs.length = 1) (h : Ends S0 ⟨[.tmp 2], [0], ⟨[0], false, false⟩, lookL [(0, [3, 4, 5, 6]), (1, []), (4, [3, 4, 5, 6, 7, 8]), (5, [3, 4, 5, 6])]⟩ (.run (Tryz.f5.body.getD .skip) (ent xs) []) a) : R S0 5 xs = some a := RT Tryz.func5 hn h
theorem go6 (hn : xs.length = 1) (h : Ends S0 ⟨[.tmp 2], [0], ⟨[0], false, false⟩, lookL []⟩ (.run (Tryz.f6.body.getD .skip) (ent xs) []) a) : R S0 6 xs = some a := RT Tryz.func6 hn h
theorem go7 (hn : xs.length = 1) (h : Ends S0 ⟨[.tmp 2], [0], ⟨[0], false, false⟩, lookL [(0, [3, 4, 5, 6, 10, 12, 13, 14]), (1, [3, 5, 6, 10, 12, 13])]⟩ (.run (Tryz.f7.body.getD .skip) (ent xs) []) a) : R S0 7 xs = some a := RT Tryz.func7 hn h
theorem go8 (hn : xs.length = 1) (h : Ends S0 ⟨[.tmp 2], [0], ⟨[0], false, false⟩, lookL [(0, [3, 4, 5, 6, 11, 12, 13]), (1, [3, 4, 5, 6, 11, 12])]⟩ (.run (Tryz.f8.body.getD .skip) (ent xs) []) a) : R S0 8 xs = some a := RT Tryz.func8 hn h
theorem go9 (hn : xs.length = 1) (h : Ends S0 ⟨[.tmp 2], [0], ⟨[0], false, false⟩, lookL []⟩ (.run (Tryz.f9.body.getD .skip) (ent xs) []) a) : R S0 9 xs = some a := RT Tryz.func9 hn h
theorem go13 (hn : xs.length = 1) (h : Ends S0 ⟨[.cell 2 27], [0], ⟨[0], true, true⟩, lookL []⟩ (.run (Tryz.f13.body.getD .skip) (ent xs) []) a) : R S0 13 xs = some a := RT Tryz.func13 hn h
theorem go14 (hn : xs.length = 1) (h : Ends S0 ⟨[.tmp 2], [0], ⟨[0], false, false⟩, lookL [(0, [1, 22, 23, 24]), (1, [1])]⟩ (.run (Tryz.f14.body.getD .skip) (ent xs) []) a) : R S0 14 xs = some a := RT Tryz.func14 hn h
theorem go15 (hn : xs.length = 1) (h : Ends S0 ⟨[.tmp 2], [0], ⟨[0], false, false⟩, lookL [(0, [1, 3]), (1, [1])]⟩ (.run (Tryz.f15.body.getD .skip) (ent xs) []) a) : R S0 15 xs = some a := RT Tryz.func15 hn h
theorem go16 (hn : xs.length = 2) (h : Ends S0 ⟨[.cell 4 27, .tmp 5], [0, 0], ⟨[0, 0], true, true⟩, lookL []⟩ (.run (Tryz.f16.body.getD .skip) (ent xs) []) a) : R S0 16 xs = some a := RT Tryz.func16 hn h
theorem go17 (hn : xs.length = 1) (h : Ends S0 ⟨[.cell 2 27, .tmp 3], [0, 1], ⟨[0], true, true⟩, lookL []⟩ (.run (Tryz.f17.body.getD .skip) (ent xs) []) a) : R S0 17 xs = some a := RT Tryz.func17 hn h
theorem go18 (hn : xs.length = 2) (h : Ends S0 ⟨[.tmp 4], [1], ⟨[0, 0], false, false⟩, lookL [(0, [1, 5, 14, 15, 16]), (1, [5])]⟩ (.run (Tryz.f18.body.getD .skip) (ent xs) []) a) : R S0 18 xs = some a := RT Tryz.func18 hn h
theorem go19 (hn : xs.length = 2) (h : Ends S0 ⟨[.tmp 4], [0], ⟨[0, 0], false, false⟩, lookL [(0, [0, 1, 5]), (1, [])]⟩ (.run (Tryz.f19.body.getD .skip) (ent xs) []) a) : R S0 19 xs = some a := RT Tryz.func19 hn h
theorem go20 (hn : xs.length = 2) (h : Ends S0 ⟨[.tmp 4], [1], ⟨[0, 0], false, false⟩, lookL [(0, [1, 2, 5, 6]), (1, [5])]⟩ (.run (Tryz.f20.body.getD .skip) (ent xs) []) a) : R S0 20 xs = some a := RT Tryz.func20 hn h
theorem go21 (hn : xs.length = 2) (h : Ends S0 ⟨[.tmp 4], [0], ⟨[0, 0], false, false⟩, lookL [(0, [0, 1, 5]), (1, [])]⟩ (.run (Tryz.f21.body.getD .skip) (ent xs) []) a) : R S0 21 xs = some a := RT Tryz.func21 hn h
theorem go22 (hn : xs.length = 1) (h : Ends S0 ⟨[.cell 2 27, .tmp 3], [0, 0], ⟨[0], true, true⟩, lookL []⟩ (.run (Tryz.f22.body.getD .skip) (ent xs) []) a) : R S0 22 xs = some a := RT Tryz.func22 hn h
theorem go23 (hn : xs.length = 2) (h : Ends S0 ⟨[.tmp 4], [1], ⟨[0, 0], false, false⟩, lookL [(0, [2, 5, 7, 30, 31, 32]), (1, [5])]⟩ (.run (Tryz.f23.body.getD .skip) (ent xs) []) a) : R S0 23 xs = some a := RT Tryz.func23 hn h
theorem go24 (hn : xs.length = 2) (h : Ends S0 ⟨[.tmp 4], [0], ⟨[0, 0], false, false⟩, lookL [(0, [0, 1, 5]), (1, [])]⟩ (.run (Tryz.f24.body.getD .skip) (ent xs) []) a) : R S0 24 xs = some a := RT Tryz.func24 hn h
theorem go25 (hn : xs.length = 2) (h : Ends S0 ⟨[.tmp 4], [1], ⟨[0, 0], false, false⟩, lookL [(0, [2, 5, 7, 8]), (1, [5]), (4, [2, 5, 7, 8, 9, 10]), (5, [2, 5, 7, 8, 9]), (8, [2, 5, 7, 8, 9, 10, 11, 12, 13]), (9, [2, 5, 7, 8, 9, 10, 11, 12])]⟩ (.run (Tryz.f25.body.getD .skip) (ent xs) []) a) : R S0 25 xs = some a := RT Tryz.func25 hn h
theorem go26 (hn : xs.length = 1) (h : Ends S0 ⟨[.cell 2 27, .cell 3 34], [0, 0], ⟨[0], true, true⟩, lookL []⟩ (.run (Tryz.f26.body.getD .skip) (ent xs) []) a) : R S0 26 xs = some a := RT Tryz.func26 hn h
theorem go27 (hn : xs.length = 2) (h : Ends S0 ⟨[.cell 4 27, .tmp 5, .tmp 6], [0, 0, 0], ⟨[0, 0], true, true⟩, lookL []⟩ (.run (Tryz.f27.body.getD .skip) (ent xs) []) a) : R S0 27 xs = some a := RT Tryz.func27 hn h
theorem go28 (hn : xs.length = 2) (h : Ends S0 ⟨[.cell 4 27, .tmp 5, .tmp 6], [0, 0, 0], ⟨[0, 0], true, true⟩, lookL []⟩ (.run (Tryz.f28.body.getD .skip) (ent xs) []) a) : R S0 28 xs = some a := RT Tryz.func28 hn h
theorem go29 (hn : xs.length = 2) (h : Ends S0 ⟨[.tmp 4], [0], ⟨[0, 0], false, false⟩, lookL [(0, [2, 3, 5]), (1, [2, 3]), (4, [2, 3, 6]), (5, [])]⟩ (.run (Tryz.f29.body.getD .skip) (ent xs) []) a) : R S0 29 xs = some a := RT Tryz.func29 hn h
theorem go30 (hn : xs.length = 1) (h : Ends S0 ⟨[.cell 2 27, .tmp 3], [0, 0], ⟨[0], true, true⟩, lookL []⟩ (.run (Tryz.f30.body.getD .skip) (ent xs) []) a) : R S0 30 xs = some a := RT Tryz.func30 hn h
theorem go31 (hn : xs.length = 2) (h : Ends S0 ⟨[.cell 4 27, .tmp 5], [0, 0], ⟨[0, 0], true, true⟩, lookL []⟩ (.run (Tryz.f31.body.getD .skip) (ent xs) []) a) : R S0 31 xs = some a := RT Tryz.func31 hn h
theorem go32 (hn : xs.length = 2) (h : Ends S0 ⟨[.cell 4 34, .tmp 5], [0, 0], ⟨[0, 0], false, false⟩, lookL []⟩ (.run (Tryz.f32.body.getD .skip) (ent xs) []) a) : R S0 32 xs = some a := RT Tryz.func32 hn h
theorem go33 (hn : xs.length = 2) (h : Ends S0 ⟨[.tmp 4], [0], ⟨[0, 0], false, false⟩, lookL [(0, [2, 3, 5]), (1, [])]⟩ (.run (Tryz.f33.body.getD .skip) (ent xs) []) a) : R S0 33 xs = some a := RT Tryz.func33 hn h
theorem go40 (hn : xs.length = 1) (h : Ends S0 ⟨[.cell 2 27], [0], ⟨[1], true, true⟩, lookL []⟩ (.run (Tryz.f40.body.getD .skip) (ent xs) []) a) : R S0 40 xs = some a := RT Tryz.func40 hn h
theorem go41 (hn : xs.length = 1) (h : Ends S0 ⟨[.tmp 2], [0], ⟨[0], false, true⟩, lookL []⟩ (.run (Tryz.f41.body.getD .skip) (ent xs) []) a) : R S0 41 xs = some a := RT Tryz.func41 hn h
theorem go42 (hn : xs.length = 1) (h : Ends S0 ⟨[.tmp 2], [0], ⟨[0], false, false⟩, lookL [(0, [0, 3, 8, 9, 10]), (1, [0])]⟩ (.run (Tryz.f42.body.getD .skip) (ent xs) []) a) : R S0 42 xs = some a := RT Tryz.func42 hn h
theorem go43 (hn : xs.length = 3) (h : Ends S0 ⟨[.tmp 6], [0], ⟨[0, 0, 0], false, false⟩, lookL []⟩ (.run (Tryz.f43.body.getD .skip) (ent xs) []) a) : R S0 43 xs = some a := RT Tryz.func43 hn h
theorem go44 (hn : xs.length = 2) (h : Ends S0 ⟨[.tmp 4], [0], ⟨[0, 0], false, false⟩, lookL [(0, [0, 18, 19, 20]), (1, [])]⟩ (.run (Tryz.f44.body.getD .skip) (ent xs) []) a) : R S0 44 xs = some a := RT Tryz.func44 hn h
theorem go45 (hn : xs.length = 2) (h : Ends S0 ⟨[.tmp 4], [0], ⟨[0, 0], false, false⟩, lookL []⟩ (.run (Tryz.f45.body.getD .skip) (ent xs) []) a) : R S0 45 xs = some a := RT Tryz.func45 hn h
theorem go46 (hn : xs.length = 3) (h : Ends S0 ⟨[.tmp 6], [0], ⟨[0, 0, 0], false, false⟩, lookL [(0, [1, 2, 15, 16, 17]), (1, [])]⟩ (.run (Tryz.f46.body.getD .skip) (ent xs) []) a) : R S0 46 xs = some a := RT Tryz.func46 hn h
theorem go47 (hn : xs.length = 2) (h : Ends S0 ⟨[.tmp 4], [3], ⟨[0, 0], false, false⟩, lookL [(0, [0, 5, 18, 19, 20]), (1, [5]), (4, [0, 5, 7, 18, 19, 20, 26, 27, 28]), (5, [0, 5, 18, 19, 20]), (8, [0, 5, 7, 9, 18, 19, 20, 26, 27, 28, 40, 41, 42]), (9, [0, 5, 7, 18, 19, 20, 26, 27, 28]), (12, [14, 101]), (13, [14])]⟩ (.run (Tryz.f47.body.getD .skip) (ent xs) []) a) : R S0 47 xs = some a := RT Tryz.func47 hn h
theorem go48 (hn : xs.length = 2) (h : Ends S0 ⟨[.tmp 4], [0], ⟨[0, 0], false, false⟩, lookL []⟩ (.run (Tryz.f48.body.getD .skip) (ent xs) []) a) : R S0 48 xs = some a := RT Tryz.func48 hn h
theorem go49 (hn : xs.length = 2) (h : Ends S0 ⟨[.tmp 4], [0], ⟨[0, 0], false, false⟩, lookL [(0, [0, 3, 5]), (1, [0, 3])]⟩ (.run (Tryz.f49.body.getD .skip) (ent xs) []) a) : R S0 49 xs = some a := RT Tryz.func49 hn h
theorem go50 (hn : xs.length = 2) (h : Ends S0 ⟨[.tmp 4], [0], ⟨[0, 0], false, false⟩, lookL [(0, [0, 1, 5]), (1, [])]⟩ (.run (Tryz.f50.body.getD .skip) (ent xs) []) a) : R S0 50 xs = some a := RT Tryz.func50 hn h
theorem go51 (hn : xs.length = 3) (h : Ends S0 ⟨[.tmp 6], [0], ⟨[0, 0, 0], false, false⟩, lookL []⟩ (.run (Tryz.f51.body.getD .skip) (ent xs) []) a) : R S0 51 xs = some a := RT Tryz.func51 hn h
theorem go52 (hn : xs.length = 1) (h : Ends S0 ⟨[.tmp 2], [0], ⟨[0], false, false⟩, lookL [(0, [0, 3]), (1, [0])]⟩ (.run (Tryz.f52.body.getD .skip) (ent xs) []) a) : R S0 52 xs = some a := RT Tryz.func52 hn h
theorem go53 (hn : xs.length = 2) (h : Ends S0 ⟨[.tmp 4], [0], ⟨[0, 0], false, false⟩, lookL [(0, [0, 1, 5]), (1, []), (4, [0, 1, 5, 6]), (5, [0, 1, 5])]⟩ (.run (Tryz.f53.body.getD .skip) (ent xs) []) a) : R S0 53 xs = some a := RT Tryz.func53 hn h
theorem go54 (hn : xs.length = 2) (h : Ends S0 ⟨[.tmp 4], [3], ⟨[0, 0], false, false⟩, lookL [(0, [0, 1, 5, 6]), (1, [5])]⟩ (.run (Tryz.f54.body.getD .skip) (ent xs) []) a) : R S0 54 xs = some a := RT Tryz.func54 hn h
theorem go55 (hn : xs.length = 1) (h : Ends S0 ⟨[.cell 2 27], [0], ⟨[0], false, false⟩, lookL []⟩ (.run (Tryz.f55.body.getD .skip) (ent xs) []) a) : R S0 55 xs = some a := RT Tryz.func55 hn h
theorem go56 (hn : xs.length = 3) (h : Ends S0 ⟨[.cell 6 27], [0], ⟨[0, 0, 0], false, false⟩, lookL [(0, [6, 7, 21, 22, 23]), (1, [6, 7])]⟩ (.run (Tryz.f56.body.getD .skip) (ent xs) []) a) : R S0 56 xs = some a := RT Tryz.func56 hn h
theorem go57 (hn : xs.length = 2) (h : Ends S0 ⟨[.tmp 4], [3], ⟨[0, 0], false, true⟩, lookL [(0, [1, 5, 10, 11, 12]), (1, [5])]⟩ (.run (Tryz.f57.body.getD .skip) (ent xs) []) a) : R S0 57 xs = some a := RT Tryz.func57 hn h
theorem go58 (hn : xs.length = 2) (h : Ends S0 ⟨[.tmp 4], [1], ⟨[1, 0], false, true⟩, lookL [(0, [0, 3, 5, 6, 1000000]), (1, [0, 5, 1000000])]⟩ (.run (Tryz.f58.body.getD .skip) (ent xs) []) a) : R S0 58 xs = some a := RT Tryz.func58 hn h
theorem go59 (hn : xs.length = 2) (h : Ends S0 ⟨[.tmp 4], [0], ⟨[0, 0], false, false⟩, lookL []⟩ (.run (Tryz.f59.body.getD .skip) (ent xs) []) a) : R S0 59 xs = some a := RT Tryz.func59 hn h
theorem go60 (hn : xs.length = 2) (h : Ends S0 ⟨[.tmp 4], [0], ⟨[0, 0], false, false⟩, lookL [(0, [0, 1, 5]), (1, [])]⟩ (.run (Tryz.f60.body.getD .skip) (ent xs) []) a) : R S0 60 xs = some a := RT Tryz.func60 hn h
theorem go61 (hn : xs.length = 2) (h : Ends S0 ⟨[.tmp 4], [0], ⟨[0, 0], false, false⟩, lookL []⟩ (.run (Tryz.f61.body.getD .skip) (ent xs) []) a) : R S0 61 xs = some a := RT Tryz.func61 hn h
theorem go62 (hn : xs.length = 2) (h : Ends S0 ⟨[.tmp 4], [0], ⟨[0, 0], false, false⟩, lookL []⟩ (.run (Tryz.f62.body.getD .skip) (ent xs) []) a) : R S0 62 xs = some a := RT Tryz.func62 hn h
theorem go63 (hn : xs.length = 2) (h : Ends S0 ⟨[.tmp 3], [0], ⟨[0, 0], false, false⟩, lookL []⟩ (.run (Tryz.f63.body.getD .skip) (ent xs) []) a) : R S0 63 xs = some a := RT Tryz.func63 hn h
theorem go64 (hn : xs.length = 2) (h : Ends S0 ⟨[.tmp 4], [0], ⟨[0, 0], false, false⟩, lookL []⟩ (.run (Tryz.f64.body.getD .skip) (ent xs) []) a) : R S0 64 xs = some a := RT Tryz.func64 hn h
theorem go65 (hn : xs.length = 4) (h : Ends S0 ⟨[.tmp 5], [0], ⟨[0, 0, 0, 0], false, false⟩, lookL []⟩ (.run (Tryz.f65.body.getD .skip) (ent xs) []) a) : R S0 65 xs = some a := RT Tryz.func65 hn h
theorem go66 (hn : xs.length = 2) (h : Ends S0 ⟨[.cell 4 34], [0], ⟨[1, 0], false, true⟩, lookL []⟩ (.run (Tryz.f66.body.getD .skip) (ent xs) []) a) : R S0 66 xs = some a := RT Tryz.func66 hn h
theorem go67 (hn : xs.length = 2) (h : Ends S0 ⟨[.tmp 4], [3], ⟨[0, 0], false, true⟩, lookL [(0, [0, 1, 5, 6]), (1, [5])]⟩ (.run (Tryz.f67.body.getD .skip) (ent xs) []) a) : R S0 67 xs = some a := RT Tryz.func67 hn h
theorem go68 (hn : xs.length = 1) (h : Ends S0 ⟨[.cell 2 27], [0], ⟨[0], false, false⟩, lookL []⟩ (.run (Tryz.f68.body.getD .skip) (ent xs) []) a) : R S0 68 xs = some a := RT Tryz.func68 hn h
theorem go69 (hn : xs.length = 3) (h : Ends S0 ⟨[.cell 6 27], [0], ⟨[0, 0, 0], false, false⟩, lookL [(0, [1, 6, 7, 8]), (1, [6, 7])]⟩ (.run (Tryz.f69.body.getD .skip) (ent xs) []) a) : R S0 69 xs = some a := RT Tryz.func69 hn h
theorem go70 (hn : xs.length = 2) (h : Ends S0 ⟨[.tmp 4], [0], ⟨[0, 0], false, false⟩, lookL [(0, [0, 1, 5]), (1, [])]⟩ (.run (Tryz.f70.body.getD .skip) (ent xs) []) a) : R S0 70 xs = some a := RT Tryz.func70 hn h
theorem go71 (hn : xs.length = 2) (h : Ends S0 ⟨[.tmp 4], [0], ⟨[0, 0], false, false⟩, lookL [(0, [0, 1, 5]), (1, [])]⟩ (.run (Tryz.f71.body.getD .skip) (ent xs) []) a) : R S0 71 xs = some a := RT Tryz.func71 hn h
theorem go72 (hn : xs.length = 2) (h : Ends S0 ⟨[.tmp 4], [0], ⟨[1, 0], false, true⟩, lookL []⟩ (.run (Tryz.f72.body.getD .skip) (ent xs) []) a) : R S0 72 xs = some a := RT Tryz.func72 hn h
theorem go73 (hn : xs.length = 1) (h : Ends S0 ⟨[.cell 2 34], [0], ⟨[0], false, false⟩, lookL []⟩ (.run (Tryz.f73.body.getD .skip) (ent xs) []) a) : R S0 73 xs = some a := RT Tryz.func73 hn h
theorem go82 (hn : xs.length = 1) (h : Ends S0 ⟨[.cell 2 27], [0], ⟨[1], false, true⟩, lookL [(0, [0, 2, 3, 4, 5, 6, 1000000]), (1, [0, 2, 3, 4, 5, 1000000]), (4, [2, 3, 4, 5, 8, 1000000]), (5, [2, 3, 4, 5, 1000000])]⟩ (.run (Tryz.f82.body.getD .skip) (ent xs) []) a) : R S0 82 xs = some a := RT Tryz.func82 hn h
theorem go83 (hn : xs.length = 2) (h : Ends S0 ⟨[.tmp 4], [0], ⟨[1, 0], false, true⟩, lookL []⟩ (.run (Tryz.f83.body.getD .skip) (ent xs) []) a) : R S0 83 xs = some a := RT Tryz.func83 hn h
theorem go84 (hn : xs.length = 2) (h : Ends S0 ⟨[.tmp 4], [0], ⟨[1, 0], false, true⟩, lookL []⟩ (.run (Tryz.f84.body.getD .skip) (ent xs) []) a) : R S0 84 xs = some a := RT Tryz.func84 hn h
theorem go85 (hn : xs.length = 1) (h : Ends S0 ⟨[.tmp 2], [3], ⟨[1], true, true⟩, lookL []⟩ (.run (Tryz.f85.body.getD .skip) (ent xs) []) a) : R S0 85 xs = some a := RT Tryz.func85 hn h
theorem go86 (hn : xs.length = 1) (h : Ends S0 ⟨[.tmp 2], [0], ⟨[0], false, false⟩, lookL [(0, [0, 5, 6]), (1, [0])]⟩ (.run (Tryz.f86.body.getD .skip) (ent xs) []) a) : R S0 86 xs = some a := RT Tryz.func86 hn h
theorem go87 (hn : xs.length = 2) (h : Ends S0 ⟨[.tmp 4], [0], ⟨[0, 0], false, false⟩, lookL []⟩ (.run (Tryz.f87.body.getD .skip) (ent xs) []) a) : R S0 87 xs = some a := RT Tryz.func87 hn h
theorem go88 (hn : xs.length = 1) (h : Ends S0 ⟨[.tmp 2], [0], ⟨[0], false, false⟩, lookL [(0, [1, 6, 7, 8]), (1, [1])]⟩ (.run (Tryz.f88.body.getD .skip) (ent xs) []) a) : R S0 88 xs = some a := RT Tryz.func88 hn h
theorem go89 (hn : xs.length = 2) (h : Ends S0 ⟨[.cell 4 111], [0], ⟨[0, 0], false, false⟩, lookL [(0, [1, 4, 7, 8, 9]), (1, [4])]⟩ (.run (Tryz.f89.body.getD .skip) (ent xs) []) a) : R S0 89 xs = some a := RT Tryz.func89 hn h
theorem go91 (hn : xs.length = 1) (h : Ends S0 ⟨[.tmp 2], [0], ⟨[0], false, false⟩, lookL [(0, [3, 8, 9, 10]), (1, [3])]⟩ (.run (Tryz.f91.body.getD .skip) (ent xs) []) a) : R S0 91 xs = some a := RT Tryz.func91 hn h
theorem go92 (hn : xs.length = 2) (h : Ends S0 ⟨[.tmp 4], [0], ⟨[0, 0], false, false⟩, lookL [(0, [0, 1, 7, 8]), (1, [])]⟩ (.run (Tryz.f92.body.getD .skip) (ent xs) []) a) : R S0 92 xs = some a := RT Tryz.func92 hn h
theorem go93 (hn : xs.length = 2) (h : Ends S0 ⟨[.tmp 3], [0], ⟨[0, 0], false, false⟩, lookL []⟩ (.run (Tryz.f93.body.getD .skip) (ent xs) []) a) : R S0 93 xs = some a := RT Tryz.func93 hn h
theorem go94 (hn : xs.length = 1) (h : Ends S0 ⟨[.tmp 2], [1], ⟨[0], false, false⟩, lookL [(0, [3, 8, 9, 10]), (1, [3])]⟩ (.run (Tryz.f94.body.getD .skip) (ent xs) []) a) : R S0 94 xs = some a := RT Tryz.func94 hn h
theorem go96 (hn : xs.length = 2) (h : Ends S0 ⟨[.tmp 4], [0], ⟨[0, 0], false, false⟩, lookL []⟩ (.run (Tryz.f96.body.getD .skip) (ent xs) []) a) : R S0 96 xs = some a := RT Tryz.func96 hn h
theorem go97 (hn : xs.length = 1) (h : Ends S0 ⟨[.tmp 2], [0], ⟨[0], false, false⟩, lookL [(0, [3, 6, 7, 8]), (1, [3])]⟩ (.run (Tryz.f97.body.getD .skip) (ent xs) []) a) : R S0 97 xs = some a := RT Tryz.func97 hn h
theorem go98 (hn : xs.length = 2) (h : Ends S0 ⟨[.tmp 4], [0], ⟨[0, 0], false, false⟩, lookL []⟩ (.run (Tryz.f98.body.getD .skip) (ent xs) []) a) : R S0 98 xs = some a := RT Tryz.func98 hn h
theorem go99 (hn : xs.length = 3) (h : Ends S0 ⟨[.tmp 6], [0], ⟨[0, 0, 0], false, false⟩, lookL [(0, [1, 2, 15, 16, 17]), (1, [])]⟩ (.run (Tryz.f99.body.getD .skip) (ent xs) []) a) : R S0 99 xs = some a := RT Tryz.func99 hn h
theorem go100 (hn : xs.length = 2) (h : Ends S0 ⟨[.tmp 4], [0], ⟨[0, 0], false, false⟩, lookL []⟩ (.run (Tryz.f100.body.getD .skip) (ent xs) []) a) : R S0 100 xs = some a := RT Tryz.func100 hn h
theorem go101 (hn : xs.length = 2) (h : Ends S0 ⟨[.tmp 4], [0], ⟨[0, 0], false, false⟩, lookL [(0, [0, 1, 5]), (1, [])]⟩ (.run (Tryz.f101.body.getD .skip) (ent xs) []) a) : R S0 101 xs = some a := RT Tryz.func101 hn h
theorem go102 (hn : xs.length = 2) (h : Ends S0 ⟨[.tmp 4], [0], ⟨[0, 0], false, false⟩, lookL []⟩ (.run (Tryz.f102.body.getD .skip) (ent xs) []) a) : R S0 102 xs = some a := RT Tryz.func102 hn h
theorem go103 (hn : xs.length = 1) (h : Ends S0 ⟨[.tmp 2], [0], ⟨[0], false, false⟩, lookL [(0, [1, 3]), (1, [1])]⟩ (.run (Tryz.f103.body.getD .skip) (ent xs) []) a) : R S0 103 xs = some a := RT Tryz.func103 hn h
theorem go104 (hn : xs.length = 1) (h : Ends S0 ⟨[.tmp 2], [0], ⟨[0], false, false⟩, lookL [(0, [0, 3]), (1, [0])]⟩ (.run (Tryz.f104.body.getD .skip) (ent xs) []) a) : R S0 104 xs = some a := RT Tryz.func104 hn h
theorem go105 (hn : xs.length = 2) (h : Ends S0 ⟨[.tmp 4], [0], ⟨[0, 0], false, false⟩, lookL [(0, [0, 1, 5]), (1, [])]⟩ (.run (Tryz.f105.body.getD .skip) (ent xs) []) a) : R S0 105 xs = some a := RT Tryz.func105 hn h
theorem go106 (hn : xs.length = 3) (h : Ends S0 ⟨[.tmp 6], [3], ⟨[0, 2, 0], false, false⟩, lookL [(0, [0, 1, 5, 7]), (1, [1]), (4, [0, 1, 5, 7, 8, 9]), (5, [0, 1, 5, 7])]⟩ (.run (Tryz.f106.body.getD .skip) (ent xs) []) a) : R S0 106 xs = some a := RT Tryz.func106 hn h
theorem go107 (hn : xs.length = 2) (h : Ends S0 ⟨[.tmp 4], [0], ⟨[0, 0], false, false⟩, lookL [(0, [0, 1, 7, 8]), (1, [])]⟩ (.run (Tryz.f107.body.getD .skip) (ent xs) []) a) : R S0 107 xs = some a := RT Tryz.func107 hn h
theorem go108 (hn : xs.length = 2) (h : Ends S0 ⟨[.tmp 4], [0], ⟨[0, 0], false, false⟩, lookL [(0, [0, 1, 7, 8]), (1, [])]⟩ (.run (Tryz.f108.body.getD .skip) (ent xs) []) a) : R S0 108 xs = some a := RT Tryz.func108 hn h
theorem go109 (hn : xs.length = 2) (h : Ends S0 ⟨[.tmp 4], [0], ⟨[0, 0], false, false⟩, lookL [(0, [0, 1, 7, 8]), (1, [])]⟩ (.run (Tryz.f109.body.getD .skip) (ent xs) []) a) : R S0 109 xs = some a := RT Tryz.func109 hn h
theorem go110 (hn : xs.length = 2) (h : Ends S0 ⟨[.cell 4 34], [0], ⟨[1, 0], false, true⟩, lookL [(0, [0, 1, 4, 5, 6, 7, 1000000]), (1, [4, 5, 1000000])]⟩ (.run (Tryz.f110.body.getD .skip) (ent xs) []) a) : R S0 110 xs = some a := RT Tryz.func110 hn h
theorem go111 (hn : xs.length = 2) (h : Ends S0 ⟨[.tmp 4], [0], ⟨[1, 0], false, true⟩, lookL []⟩ (.run (Tryz.f111.body.getD .skip) (ent xs) []) a) : R S0 111 xs = some a := RT Tryz.func111 hn h
theorem go112 (hn : xs.length = 1) (h : Ends S0 ⟨[.tmp 2], [0], ⟨[1], false, true⟩, lookL []⟩ (.run (Tryz.f112.body.getD .skip) (ent xs) []) a) : R S0 112 xs = some a := RT Tryz.func112 hn h
theorem go116 (hn : xs.length = 3) (h : Ends S0 ⟨[.tmp 6], [0], ⟨[0, 0, 0], false, false⟩, lookL []⟩ (.run (Tryz.f116.body.getD .skip) (ent xs) []) a) : R S0 116 xs = some a := RT Tryz.func116 hn h
theorem go125 (hn : xs.length = 1) (h : Ends S0 ⟨[.tmp 2], [3], ⟨[1], true, true⟩, lookL []⟩ (.run (Tryz.f125.body.getD .skip) (ent xs) []) a) : R S0 125 xs = some a := RT Tryz.func125 hn h
theorem go126 (hn : xs.length = 1) (h : Ends S0 ⟨[.tmp 2], [0], ⟨[0], false, false⟩, lookL []⟩ (.run (Tryz.f126.body.getD .skip) (ent xs) []) a) : R S0 126 xs = some a := RT Tryz.func126 hn h
theorem go127 (hn : xs.length = 1) (h : Ends S0 ⟨[.tmp 2], [0], ⟨[0], false, false⟩, lookL []⟩ (.run (Tryz.f127.body.getD .skip) (ent xs) []) a) : R S0 127 xs = some a := RT Tryz.func127 hn h
theorem go128 (hn : xs.length = 1) (h : Ends S0 ⟨[.tmp 2], [0], ⟨[0], false, false⟩, lookL []⟩ (.run (Tryz.f128.body.getD .skip) (ent xs) []) a) : R S0 128 xs = some a := RT Tryz.func128 hn h
theorem go129 (hn : xs.length = 2) (h : Ends S0 ⟨[.tmp 4], [0], ⟨[0, 0], false, false⟩, lookL [(0, [0, 1, 7, 8]), (1, [])]⟩ (.run (Tryz.f129.body.getD .skip) (ent xs) []) a) : R S0 129 xs = some a := RT Tryz.func129 hn h
theorem go130 (hn : xs.length = 1) (h : Ends S0 ⟨[.tmp 2], [0], ⟨[0], false, false⟩, lookL []⟩ (.run (Tryz.f130.body.getD .skip) (ent xs) []) a) : R S0 130 xs = some a := RT Tryz.func130 hn h
theorem go133 (hn : xs.length = 2) (h : Ends S0 ⟨[.tmp 4], [1], ⟨[0, 0], true, true⟩, lookL []⟩ (.run (Tryz.f133.body.getD .skip) (ent xs) []) a) : R S0 133 xs = some a := RT Tryz.func133 hn h
theorem go134 (hn : xs.length = 1) (h : Ends S0 ⟨[.tmp 2], [3], ⟨[0], false, false⟩, lookL [(0, [0, 3, 4]), (1, [3]), (4, [0, 3, 4, 5]), (5, [0, 3, 4, 5])]⟩ (.run (Tryz.f134.body.getD .skip) (ent xs) []) a) : R S0 134 xs = some a := RT Tryz.func134 hn h
theorem go135 (hn : xs.length = 1) (h : Ends S0 ⟨[.tmp 2], [0], ⟨[0], false, false⟩, lookL []⟩ (.run (Tryz.f135.body.getD .skip) (ent xs) []) a) : R S0 135 xs = some a := RT Tryz.func135 hn h
theorem go138 (hn : xs.length = 1) (h : Ends S0 ⟨[.tmp 2], [0], ⟨[0], false, false⟩, lookL []⟩ (.run (Tryz.f138.body.getD .skip) (ent xs) []) a) : R S0 138 xs = some a := RT Tryz.func138 hn h
theorem go139 (hn : xs.length = 2) (h : Ends S0 ⟨[.tmp 4], [0], ⟨[0, 0], false, false⟩, lookL [(0, [0, 1, 12, 13]), (1, [])]⟩ (.run (Tryz.f139.body.getD .skip) (ent xs) []) a) : R S0 139 xs = some a := RT Tryz.func139 hn h
theorem go140 (hn : xs.length = 1) (h : Ends S0 ⟨[.tmp 2, .tmp 3], [0, 0], ⟨[0], false, false⟩, lookL []⟩ (.run (Tryz.f140.body.getD .skip) (ent xs) []) a) : R S0 140 xs = some a := RT Tryz.func140 hn h
theorem go141 (hn : xs.length = 1) (h : Ends S0 ⟨[.tmp 2, .tmp 3], [1, 0], ⟨[0], false, false⟩, lookL [(0, [4, 5, 6]), (1, [4, 5])]⟩ (.run (Tryz.f141.body.getD .skip) (ent xs) []) a) : R S0 141 xs = some a := RT Tryz.func141 hn h
theorem go142 (hn : xs.length = 1) (h : Ends S0 ⟨[.tmp 2], [0], ⟨[0], false, false⟩, lookL [(0, [0, 3]), (1, [0])]⟩ (.run (Tryz.f142.body.getD .skip) (ent xs) []) a) : R S0 142 xs = some a := RT Tryz.func142 hn h
theorem go143 (hn : xs.length = 1) (h : Ends S0 ⟨[.tmp 2], [1], ⟨[0], false, false⟩, lookL [(0, [3, 4, 5]), (1, [3])]⟩ (.run (Tryz.f143.body.getD .skip) (ent xs) []) a) : R S0 143 xs = some a := RT Tryz.func143 hn h
theorem go144 (hn : xs.length = 5) (h : Ends S0 ⟨[.tmp 10], [3], ⟨[2, 0, 0, 0, 0], false, false⟩, lookL []⟩ (.run (Tryz.f144.body.getD .skip) (ent xs) []) a) : R S0 144 xs = some a := RT Tryz.func144 hn h
theorem go145 (hn : xs.length = 1) (h : Ends S0 ⟨[.tmp 2], [0], ⟨[1], false, true⟩, lookL [(0, [0, 3, 4, 1000000]), (1, [3, 1000000])]⟩ (.run (Tryz.f145.body.getD .skip) (ent xs) []) a) : R S0 145 xs = some a := RT Tryz.func145 hn h
theorem go146 (hn : xs.length = 2) (h : Ends S0 ⟨[.tmp 4], [0], ⟨[0, 0], false, false⟩, lookL [(0, [0, 1, 5]), (1, [5])]⟩ (.run (Tryz.f146.body.getD .skip) (ent xs) []) a) : R S0 146 xs = some a := RT Tryz.func146 hn h
theorem go155 (hn : xs.length = 0) (h : Ends S0 ⟨[.tmp 0], [3], ⟨[], false, false⟩, lookL []⟩ (.run (Tryz.f155.body.getD .skip) (ent xs) []) a) : R S0 155 xs = some a := RT Tryz.func155 hn h
theorem go156 (hn : xs.length = 2) (h : Ends S0 ⟨[.tmp 4], [0], ⟨[0, 0], false, false⟩, lookL [(0, [0, 1, 7, 8]), (1, [0, 1])]⟩ (.run (Tryz.f156.body.getD .skip) (ent xs) []) a) : R S0 156 xs = some a := RT Tryz.func156 hn h
theorem go160 (hn : xs.length = 4) (h : Ends S0 ⟨[.tmp 8], [1], ⟨[0, 0, 0, 0], true, true⟩, lookL [(0, [0, 1, 2, 3, 9, 10]), (1, [0, 9, 10])]⟩ (.run (Tryz.f160.body.getD .skip) (ent xs) []) a) : R S0 160 xs = some a := RT Tryz.func160 hn h
theorem go161 (hn : xs.length = 1) (h : Ends S0 ⟨[.tmp 2], [0], ⟨[0], false, false⟩, lookL []⟩ (.run (Tryz.f161.body.getD .skip) (ent xs) []) a) : R S0 161 xs = some a := RT Tryz.func161 hn h
theorem go162 (hn : xs.length = 1) (h : Ends S0 ⟨[.tmp 2], [0], ⟨[0], false, false⟩, lookL [(0, [3, 8, 9, 10]), (1, [3])]⟩ (.run (Tryz.f162.body.getD .skip) (ent xs) []) a) : R S0 162 xs = some a := RT Tryz.func162 hn h
theorem go173 (hn : xs.length = 1) (h : Ends S0 ⟨[.tmp 2], [0], ⟨[0], false, false⟩, lookL [(0, [0, 3, 4]), (1, [0, 3])]⟩ (.run (Tryz.f173.body.getD .skip) (ent xs) []) a) : R S0 173 xs = some a := RT Tryz.func173 hn h
theorem go174 (hn : xs.length = 3) (h : Ends S0 ⟨[.tmp 6], [1], ⟨[0, 0, 0], false, false⟩, lookL [(0, [0, 1, 2, 7, 8, 9]), (1, [0, 7, 8])]⟩ (.run (Tryz.f174.body.getD .skip) (ent xs) []) a) : R S0 174 xs = some a := RT Tryz.func174 hn h
theorem go175 (hn : xs.length = 2) (h : Ends S0 ⟨[.tmp 4], [1], ⟨[2, 0], false, false⟩, lookL [(0, [0, 1, 5]), (1, [0, 1, 5])]⟩ (.run (Tryz.f175.body.getD .skip) (ent xs) []) a) : R S0 175 xs = some a := RT Tryz.func175 hn h
theorem go176 (hn : xs.length = 1) (h : Ends S0 ⟨[.tmp 2], [3], ⟨[0], false, false⟩, lookL [(0, [0, 3, 4]), (1, [3]), (4, [0, 3, 4, 5]), (5, [0, 3, 4, 5])]⟩ (.run (Tryz.f176.body.getD .skip) (ent xs) []) a) : R S0 176 xs = some a := RT Tryz.func176 hn h
theorem go177 (hn : xs.length = 1) (h : Ends S0 ⟨[.tmp 2], [0], ⟨[0], false, false⟩, lookL []⟩ (.run (Tryz.f177.body.getD .skip) (ent xs) []) a) : R S0 177 xs = some a := RT Tryz.func177 hn h
theorem go178 (hn : xs.length = 3) (h : Ends S0 ⟨[.tmp 6, .tmp 7], [0, 0], ⟨[0, 0, 0], false, false⟩, lookL [(0, [0, 1, 2, 8]), (1, [0, 1, 2, 8])]⟩ (.run (Tryz.f178.body.getD .skip) (ent xs) []) a) : R S0 178 xs = some a := RT Tryz.func178 hn h
theorem go179 (hn : xs.length = 1) (h : Ends S0 ⟨[.tmp 2], [0], ⟨[1], false, true⟩, lookL []⟩ (.run (Tryz.f179.body.getD .skip) (ent xs) []) a) : R S0 179 xs = some a := RT Tryz.func179 hn h
theorem go184 (hn : xs.length = 1) (h : Ends S0 ⟨[.tmp 2], [0], ⟨[0], false, false⟩, lookL [(0, [0, 3, 4]), (1, [3])]⟩ (.run (Tryz.f184.body.getD .skip) (ent xs) []) a) : R S0 184 xs = some a := RT Tryz.func184 hn h
theorem go198 (hn : xs.length = 2) (h : Ends S0 ⟨[.tmp 4], [1], ⟨[0, 0], false, false⟩, lookL [(0, [0, 1, 6, 7]), (1, [0, 1, 6])]⟩ (.run (Tryz.f198.body.getD .skip) (ent xs) []) a) : R S0 198 xs = some a := RT Tryz.func198 hn h
theorem go200 (hn : xs.length = 2) (h : Ends S0 ⟨[.tmp 4], [0], ⟨[0, 0], false, false⟩, lookL []⟩ (.run (Tryz.f200.body.getD .skip) (ent xs) []) a) : R S0 200 xs = some a := RT Tryz.func200 hn h
theorem go201 (hn : xs.length = 1) (h : Ends S0 ⟨[.tmp 2], [0], ⟨[0], false, false⟩, lookL []⟩ (.run (Tryz.f201.body.getD .skip) (ent xs) []) a) : R S0 201 xs = some a := RT Tryz.func201 hn h
theorem go207 (hn : xs.length = 1) (h : Ends S0 ⟨[.tmp 2], [0], ⟨[0], false, false⟩, lookL []⟩ (.run (Tryz.f207.body.getD .skip) (ent xs) []) a) : R S0 207 xs = some a := RT Tryz.func207 hn h
theorem go208 (hn : xs.length = 1) (h : Ends S0 ⟨[.tmp 2], [0], ⟨[0], false, false⟩, lookL [(0, [0, 3, 4]), (1, [])]⟩ (.run (Tryz.f208.body.getD .skip) (ent xs) []) a) : R S0 208 xs = some a := RT Tryz.func208 hn h
theorem go212 (hn : xs.length = 1) (h : Ends S0 ⟨[.tmp 2], [0], ⟨[0], false, false⟩, lookL []⟩ (.run (Tryz.f212.body.getD .skip) (ent xs) []) a) : R S0 212 xs = some a := RT Tryz.func212 hn h
theorem go222 (hn : xs.length = 1) (h : Ends S0 ⟨[.tmp 2], [0], ⟨[0], false, false⟩, lookL [(0, [2, 4]), (1, [2])]⟩ (.run (Tryz.f222.body.getD .skip) (ent xs) []) a) : R S0 222 xs = some a := RT Tryz.func222 hn h
theorem go223 (hn : xs.length = 1) (h : Ends S0 ⟨[.tmp 2, .tmp 3], [0, 0], ⟨[0], false, false⟩, lookL []⟩ (.run (Tryz.f223.body.getD .skip) (ent xs) []) a) : R S0 223 xs = some a := RT Tryz.func223 hn h
theorem go243 (hn : xs.length = 1) (h : Ends S0 ⟨[.tmp 2, .tmp 3], [0, 0], ⟨[0], false, false⟩, lookL []⟩ (.run (Tryz.f243.body.getD .skip) (ent xs) []) a) : R S0 243 xs = some a := RT Tryz.func243 hn h
/- What the sorts' comparisons reach: run without the library. -/
noncomputable def tabC : Tab := ⟨Tryz.prog, fun _ => none,
  [(96, ⟨[0, 0], false, false⟩), (97, ⟨[0], false, false⟩), (98, ⟨[0, 0], false, false⟩), (138, ⟨[0], false, false⟩)],
  [(97, [(0, [3, 6, 7, 8]), (1, [3])])],
  []⟩
noncomputable abbrev SC : Sys := tabC.S
@[go_sem] theorem MC96 : tabC.E.M 96 = ⟨[0, 0], false, false⟩ := by kernel_rfl
@[go_sem] theorem MC97 : tabC.E.M 97 = ⟨[0], false, false⟩ := by kernel_rfl
@[go_sem] theorem MC98 : tabC.E.M 98 = ⟨[0, 0], false, false⟩ := by kernel_rfl
@[go_sem] theorem MC138 : tabC.E.M 138 = ⟨[0], false, false⟩ := by kernel_rfl
@[go_sem] theorem TC3 : tabC.E.T 3 = some ⟨.int .i64, 1, 8, [.int .i64 0]⟩ := T3
@[go_sem] theorem TC4 : tabC.E.T 4 = some ⟨.bool, 1, 1, [.bool false]⟩ := T4
@[go_sem] theorem TC9 : tabC.E.T 9 = some ⟨.str, 1, 16, [.str []]⟩ := T9
@[go_sem] theorem TC38 : tabC.E.T 38 = some ⟨.slice 3, 1, 24, [.slo 1 []]⟩ := T38
@[go_sem] theorem TC74 : tabC.E.T 74 = some ⟨.slice 87, 1, 24, [.slo 2 []]⟩ := T74
@[go_sem] theorem TC76 : tabC.E.T 76 = some ⟨.struct [(0, 9), (1, 9), (2, 74)], 3, 56, [.str [], .str [], .slo 2 []]⟩ := T76
@[go_sem] theorem TC87 : tabC.E.T 87 = some ⟨.struct [(0, 3), (1, 38)], 2, 32, [.int .i64 0, .slo 1 []]⟩ := T87
theorem goC96 {xs : List PV} {a : Ans} (hn : xs.length = 2) (h : Ends SC ⟨[.tmp 4], [0], ⟨[0, 0], false, false⟩, lookL []⟩ (.run (Tryz.f96.body.getD .skip) (ent xs) []) a) : R SC 96 xs = some a := R_tab (t := tabC) (n := 2) (by kernel_rfl) Tryz.func96 (by kernel_rfl) (by kernel_rfl) (by kernel_rfl) (by kernel_rfl) rfl (of_decide_eq_true (by kernel_rfl)) (of_decide_eq_true (by kernel_rfl)) (by kernel_rfl) (by kernel_rfl) hn h
theorem goC97 {xs : List PV} {a : Ans} (hn : xs.length = 1) (h : Ends SC ⟨[.tmp 2], [0], ⟨[0], false, false⟩, lookL [(0, [3, 6, 7, 8]), (1, [3])]⟩ (.run (Tryz.f97.body.getD .skip) (ent xs) []) a) : R SC 97 xs = some a := R_tab (t := tabC) (n := 1) (by kernel_rfl) Tryz.func97 (by kernel_rfl) (by kernel_rfl) (by kernel_rfl) (by kernel_rfl) rfl (of_decide_eq_true (by kernel_rfl)) (of_decide_eq_true (by kernel_rfl)) (by kernel_rfl) (by kernel_rfl) hn h
theorem goC98 {xs : List PV} {a : Ans} (hn : xs.length = 2) (h : Ends SC ⟨[.tmp 4], [0], ⟨[0, 0], false, false⟩, lookL []⟩ (.run (Tryz.f98.body.getD .skip) (ent xs) []) a) : R SC 98 xs = some a := R_tab (t := tabC) (n := 2) (by kernel_rfl) Tryz.func98 (by kernel_rfl) (by kernel_rfl) (by kernel_rfl) (by kernel_rfl) rfl (of_decide_eq_true (by kernel_rfl)) (of_decide_eq_true (by kernel_rfl)) (by kernel_rfl) (by kernel_rfl) hn h
theorem goC138 {xs : List PV} {a : Ans} (hn : xs.length = 1) (h : Ends SC ⟨[.tmp 2], [0], ⟨[0], false, false⟩, lookL []⟩ (.run (Tryz.f138.body.getD .skip) (ent xs) []) a) : R SC 138 xs = some a := R_tab (t := tabC) (n := 1) (by kernel_rfl) Tryz.func138 (by kernel_rfl) (by kernel_rfl) (by kernel_rfl) (by kernel_rfl) rfl (of_decide_eq_true (by kernel_rfl)) (of_decide_eq_true (by kernel_rfl)) (by kernel_rfl) (by kernel_rfl) hn h
end Go.Proofs.YtjagjfjhinlgiaaGreatDoor.PVE
