/- The tables of the seat, by program: types, how functions are called, what lives at loops. -/
import Derived.Test.YtmanllfmgghadaaGreatDoorL3
import Derived.Test.YtmanllfmgghadaaGreatDoorL4
import Derived.Test.YtmanllfmgghadaaGreatDoorL5
import Derived.Test.YtmanllfmgghadaaGreatDoorL6
import Derived.Test.YtmanllfmgghadaaGreatDoorChecked
set_option linter.unusedVariables false
set_option linter.unusedSimpArgs false
set_option maxRecDepth 100000
namespace Go.Proofs.YtmanllfmgghadaaGreatDoor.PVE
open PV
noncomputable def tab : Tab := ⟨Tryz.prog, fun g => if g = 0 then some ([.sl ([[97], [97, 110], [97, 110, 100], [111, 102], [116, 104, 101], [116, 111]].map PV.str)]) else if g = 1 then some ([PV.ifc]) else if g = 2 then some ([PV.ifc]) else if g = 4 then some (Lib.pow10Tab.map (PV.int .u64)) else none,
  [(8, ⟨[0], false, false⟩), (9, ⟨[0, 0], false, false⟩), (29, ⟨[0, 0], false, false⟩), (30, ⟨[1, 0], false, false⟩), (40, ⟨[0], false, false⟩), (41, ⟨[0], false, false⟩), (42, ⟨[0, 0], false, false⟩), (43, ⟨[0], false, false⟩), (44, ⟨[0], false, false⟩), (45, ⟨[0], false, false⟩), (46, ⟨[0], false, false⟩), (47, ⟨[0], false, false⟩), (48, ⟨[0, 0], false, false⟩), (49, ⟨[0], false, false⟩), (66, ⟨[0], false, false⟩), (80, ⟨[0, 0], false, false⟩), (81, ⟨[1, 0], false, false⟩), (97, ⟨[1, 0], false, false⟩), (98, ⟨[0], false, false⟩), (99, ⟨[1, 0], false, false⟩), (100, ⟨[0], false, false⟩), (101, ⟨[0, 0], false, false⟩), (102, ⟨[1, 0], false, true⟩), (103, ⟨[0], false, true⟩), (104, ⟨[0], false, false⟩), (105, ⟨[0, 0], false, false⟩), (106, ⟨[0, 0], false, false⟩), (107, ⟨[1, 0], false, true⟩), (108, ⟨[1, 0], false, true⟩), (109, ⟨[1, 0], false, true⟩), (110, ⟨[1, 0, 0], false, true⟩), (114, ⟨[0, 0, 0], false, false⟩), (122, ⟨[0, 0, 0], false, false⟩), (149, ⟨[0], false, false⟩), (152, ⟨[1, 0], false, false⟩), (153, ⟨[1, 0], false, false⟩), (154, ⟨[1], false, false⟩), (155, ⟨[1], false, false⟩), (156, ⟨[1], false, false⟩), (157, ⟨[0], false, false⟩), (158, ⟨[0], false, false⟩), (159, ⟨[1, 0], false, false⟩), (160, ⟨[0, 0], false, false⟩), (161, ⟨[1, 0], false, false⟩), (162, ⟨[1], false, false⟩), (163, ⟨[1], false, false⟩), (164, ⟨[1, 0], false, true⟩), (165, ⟨[0], false, false⟩), (166, ⟨[0, 0], false, false⟩), (167, ⟨[0], false, false⟩), (168, ⟨[0, 0, 0], false, false⟩), (169, ⟨[0], false, false⟩), (170, ⟨[0], false, false⟩), (171, ⟨[0], false, false⟩), (172, ⟨[0], false, false⟩), (173, ⟨[1, 0], false, true⟩), (175, ⟨[0], false, false⟩), (179, ⟨[0, 0], false, false⟩), (197, ⟨[0], false, false⟩), (202, ⟨[0, 0], true, true⟩), (203, ⟨[0, 0], false, false⟩), (204, ⟨[1, 0], false, false⟩), (205, ⟨[1], false, false⟩), (206, ⟨[0], false, false⟩), (207, ⟨[0, 0], false, false⟩), (208, ⟨[0, 0], false, false⟩), (209, ⟨[0], false, false⟩), (214, ⟨[0], false, false⟩), (215, ⟨[0], false, false⟩), (216, ⟨[0], false, false⟩), (217, ⟨[0], false, false⟩), (218, ⟨[0], false, false⟩), (219, ⟨[0], false, false⟩), (224, ⟨[0, 0], false, false⟩), (238, ⟨[0], false, false⟩), (239, ⟨[0, 0, 0], false, false⟩), (244, ⟨[0, 0, 0, 0], true, true⟩), (245, ⟨[0], false, false⟩), (246, ⟨[0, 0], false, false⟩), (250, ⟨[0], false, false⟩), (251, ⟨[0], false, false⟩), (276, ⟨[0, 0], false, false⟩), (277, ⟨[0, 0], false, false⟩), (278, ⟨[0, 0], false, false⟩), (279, ⟨[0, 0], false, false⟩), (295, ⟨[0], false, false⟩), (296, ⟨[0], false, false⟩), (318, ⟨[0], false, false⟩)],
  [(48, [(0, [2, 3, 5]), (1, [])]), (66, [(0, [0, 3]), (1, [3])]), (80, [(0, [0, 1, 5]), (1, [])]), (81, [(0, [0, 1, 5, 1000000]), (1, [1, 1000000])]), (98, [(2, [1, 3, 4, 5]), (3, [4])]), (99, [(2, [0, 1, 4, 5, 6, 1000000]), (3, [0, 4, 5, 1000000])]), (100, [(0, [1, 2, 3, 8, 9, 10]), (1, [1, 2, 3])]), (101, [(0, [0, 1, 5]), (1, [1])]), (102, [(2, [4, 5, 6, 1000000]), (3, [4, 5, 1000000])]), (104, [(0, [1, 3, 4, 15, 16, 17]), (1, [1, 3, 4])]), (105, [(2, [1, 183, 184, 185]), (3, [])]), (106, [(0, [1, 2, 5, 6]), (1, [2, 5])]), (110, [(0, [0, 1, 2, 6, 7, 8, 1000000]), (1, [6, 7, 1000000])]), (153, [(0, [0, 1, 4, 5, 6, 1000000]), (1, [0, 4, 5, 1000000])]), (155, [(0, [0, 3, 1000000]), (1, [0, 3, 1000000])]), (163, [(0, [0, 3, 1000000]), (1, [0, 3, 1000000])]), (167, [(0, [0, 5, 6]), (1, [0])]), (168, [(0, [0, 1, 2, 7, 12, 13, 14]), (1, [0, 1, 2, 7])]), (170, [(0, [0, 5, 6]), (1, [0])]), (171, [(0, [3, 8, 9, 10]), (1, [3])]), (175, [(0, [0, 3]), (1, [0])]), (217, [(0, [0, 3, 4, 5]), (1, [0, 3, 4])]), (219, [(0, [0, 3, 4]), (1, [3])]), (224, [(0, [0, 1, 7, 8]), (1, [])]), (238, [(0, [0, 3, 4]), (1, [0, 3])]), (239, [(0, [0, 1, 2, 7, 8, 9]), (1, [0, 7, 8])]), (244, [(0, [0, 1, 2, 3, 9, 10]), (1, [0, 9, 10])]), (250, [(0, [0, 3, 4]), (1, [3]), (4, [0, 3, 4, 5]), (5, [0, 3, 4, 5])]), (251, [(0, [0, 3, 4]), (1, [])]), (276, [(0, [0, 1, 6, 7]), (1, [0, 1, 6])]), (295, [(0, [2, 4]), (1, [2])])],
  [(149, libNumber), (165, libItoa), (166, libJoin), (277, libCount), (279, libIndex)]⟩
noncomputable abbrev S0 : Sys := tab.S
@[go_sem] theorem M8 : tab.E.M 8 = ⟨[0], false, false⟩ := by kernel_rfl
@[go_sem] theorem M9 : tab.E.M 9 = ⟨[0, 0], false, false⟩ := by kernel_rfl
@[go_sem] theorem M29 : tab.E.M 29 = ⟨[0, 0], false, false⟩ := by kernel_rfl
@[go_sem] theorem M30 : tab.E.M 30 = ⟨[1, 0], false, false⟩ := by kernel_rfl
@[go_sem] theorem M40 : tab.E.M 40 = ⟨[0], false, false⟩ := by kernel_rfl
@[go_sem] theorem M41 : tab.E.M 41 = ⟨[0], false, false⟩ := by kernel_rfl
@[go_sem] theorem M42 : tab.E.M 42 = ⟨[0, 0], false, false⟩ := by kernel_rfl
@[go_sem] theorem M43 : tab.E.M 43 = ⟨[0], false, false⟩ := by kernel_rfl
@[go_sem] theorem M44 : tab.E.M 44 = ⟨[0], false, false⟩ := by kernel_rfl
@[go_sem] theorem M45 : tab.E.M 45 = ⟨[0], false, false⟩ := by kernel_rfl
@[go_sem] theorem M46 : tab.E.M 46 = ⟨[0], false, false⟩ := by kernel_rfl
@[go_sem] theorem M47 : tab.E.M 47 = ⟨[0], false, false⟩ := by kernel_rfl
@[go_sem] theorem M48 : tab.E.M 48 = ⟨[0, 0], false, false⟩ := by kernel_rfl
@[go_sem] theorem M49 : tab.E.M 49 = ⟨[0], false, false⟩ := by kernel_rfl
@[go_sem] theorem M66 : tab.E.M 66 = ⟨[0], false, false⟩ := by kernel_rfl
@[go_sem] theorem M80 : tab.E.M 80 = ⟨[0, 0], false, false⟩ := by kernel_rfl
@[go_sem] theorem M81 : tab.E.M 81 = ⟨[1, 0], false, false⟩ := by kernel_rfl
@[go_sem] theorem M97 : tab.E.M 97 = ⟨[1, 0], false, false⟩ := by kernel_rfl
@[go_sem] theorem M98 : tab.E.M 98 = ⟨[0], false, false⟩ := by kernel_rfl
@[go_sem] theorem M99 : tab.E.M 99 = ⟨[1, 0], false, false⟩ := by kernel_rfl
@[go_sem] theorem M100 : tab.E.M 100 = ⟨[0], false, false⟩ := by kernel_rfl
@[go_sem] theorem M101 : tab.E.M 101 = ⟨[0, 0], false, false⟩ := by kernel_rfl
@[go_sem] theorem M102 : tab.E.M 102 = ⟨[1, 0], false, true⟩ := by kernel_rfl
@[go_sem] theorem M103 : tab.E.M 103 = ⟨[0], false, true⟩ := by kernel_rfl
@[go_sem] theorem M104 : tab.E.M 104 = ⟨[0], false, false⟩ := by kernel_rfl
@[go_sem] theorem M105 : tab.E.M 105 = ⟨[0, 0], false, false⟩ := by kernel_rfl
@[go_sem] theorem M106 : tab.E.M 106 = ⟨[0, 0], false, false⟩ := by kernel_rfl
@[go_sem] theorem M107 : tab.E.M 107 = ⟨[1, 0], false, true⟩ := by kernel_rfl
@[go_sem] theorem M108 : tab.E.M 108 = ⟨[1, 0], false, true⟩ := by kernel_rfl
@[go_sem] theorem M109 : tab.E.M 109 = ⟨[1, 0], false, true⟩ := by kernel_rfl
@[go_sem] theorem M110 : tab.E.M 110 = ⟨[1, 0, 0], false, true⟩ := by kernel_rfl
@[go_sem] theorem M114 : tab.E.M 114 = ⟨[0, 0, 0], false, false⟩ := by kernel_rfl
@[go_sem] theorem M122 : tab.E.M 122 = ⟨[0, 0, 0], false, false⟩ := by kernel_rfl
@[go_sem] theorem M149 : tab.E.M 149 = ⟨[0], false, false⟩ := by kernel_rfl
@[go_sem] theorem M152 : tab.E.M 152 = ⟨[1, 0], false, false⟩ := by kernel_rfl
@[go_sem] theorem M153 : tab.E.M 153 = ⟨[1, 0], false, false⟩ := by kernel_rfl
@[go_sem] theorem M154 : tab.E.M 154 = ⟨[1], false, false⟩ := by kernel_rfl
@[go_sem] theorem M155 : tab.E.M 155 = ⟨[1], false, false⟩ := by kernel_rfl
@[go_sem] theorem M156 : tab.E.M 156 = ⟨[1], false, false⟩ := by kernel_rfl
@[go_sem] theorem M157 : tab.E.M 157 = ⟨[0], false, false⟩ := by kernel_rfl
@[go_sem] theorem M158 : tab.E.M 158 = ⟨[0], false, false⟩ := by kernel_rfl
@[go_sem] theorem M159 : tab.E.M 159 = ⟨[1, 0], false, false⟩ := by kernel_rfl
@[go_sem] theorem M160 : tab.E.M 160 = ⟨[0, 0], false, false⟩ := by kernel_rfl
@[go_sem] theorem M161 : tab.E.M 161 = ⟨[1, 0], false, false⟩ := by kernel_rfl
@[go_sem] theorem M162 : tab.E.M 162 = ⟨[1], false, false⟩ := by kernel_rfl
@[go_sem] theorem M163 : tab.E.M 163 = ⟨[1], false, false⟩ := by kernel_rfl
@[go_sem] theorem M164 : tab.E.M 164 = ⟨[1, 0], false, true⟩ := by kernel_rfl
@[go_sem] theorem M165 : tab.E.M 165 = ⟨[0], false, false⟩ := by kernel_rfl
@[go_sem] theorem M166 : tab.E.M 166 = ⟨[0, 0], false, false⟩ := by kernel_rfl
@[go_sem] theorem M167 : tab.E.M 167 = ⟨[0], false, false⟩ := by kernel_rfl
@[go_sem] theorem M168 : tab.E.M 168 = ⟨[0, 0, 0], false, false⟩ := by kernel_rfl
@[go_sem] theorem M169 : tab.E.M 169 = ⟨[0], false, false⟩ := by kernel_rfl
@[go_sem] theorem M170 : tab.E.M 170 = ⟨[0], false, false⟩ := by kernel_rfl
@[go_sem] theorem M171 : tab.E.M 171 = ⟨[0], false, false⟩ := by kernel_rfl
@[go_sem] theorem M172 : tab.E.M 172 = ⟨[0], false, false⟩ := by kernel_rfl
@[go_sem] theorem M173 : tab.E.M 173 = ⟨[1, 0], false, true⟩ := by kernel_rfl
@[go_sem] theorem M175 : tab.E.M 175 = ⟨[0], false, false⟩ := by kernel_rfl
@[go_sem] theorem M179 : tab.E.M 179 = ⟨[0, 0], false, false⟩ := by kernel_rfl
@[go_sem] theorem M197 : tab.E.M 197 = ⟨[0], false, false⟩ := by kernel_rfl
@[go_sem] theorem M202 : tab.E.M 202 = ⟨[0, 0], true, true⟩ := by kernel_rfl
@[go_sem] theorem M203 : tab.E.M 203 = ⟨[0, 0], false, false⟩ := by kernel_rfl
@[go_sem] theorem M204 : tab.E.M 204 = ⟨[1, 0], false, false⟩ := by kernel_rfl
@[go_sem] theorem M205 : tab.E.M 205 = ⟨[1], false, false⟩ := by kernel_rfl
@[go_sem] theorem M206 : tab.E.M 206 = ⟨[0], false, false⟩ := by kernel_rfl
@[go_sem] theorem M207 : tab.E.M 207 = ⟨[0, 0], false, false⟩ := by kernel_rfl
@[go_sem] theorem M208 : tab.E.M 208 = ⟨[0, 0], false, false⟩ := by kernel_rfl
@[go_sem] theorem M209 : tab.E.M 209 = ⟨[0], false, false⟩ := by kernel_rfl
@[go_sem] theorem M214 : tab.E.M 214 = ⟨[0], false, false⟩ := by kernel_rfl
@[go_sem] theorem M215 : tab.E.M 215 = ⟨[0], false, false⟩ := by kernel_rfl
@[go_sem] theorem M216 : tab.E.M 216 = ⟨[0], false, false⟩ := by kernel_rfl
@[go_sem] theorem M217 : tab.E.M 217 = ⟨[0], false, false⟩ := by kernel_rfl
@[go_sem] theorem M218 : tab.E.M 218 = ⟨[0], false, false⟩ := by kernel_rfl
@[go_sem] theorem M219 : tab.E.M 219 = ⟨[0], false, false⟩ := by kernel_rfl
@[go_sem] theorem M224 : tab.E.M 224 = ⟨[0, 0], false, false⟩ := by kernel_rfl
@[go_sem] theorem M238 : tab.E.M 238 = ⟨[0], false, false⟩ := by kernel_rfl
@[go_sem] theorem M239 : tab.E.M 239 = ⟨[0, 0, 0], false, false⟩ := by kernel_rfl
@[go_sem] theorem M244 : tab.E.M 244 = ⟨[0, 0, 0, 0], true, true⟩ := by kernel_rfl
@[go_sem] theorem M245 : tab.E.M 245 = ⟨[0], false, false⟩ := by kernel_rfl
@[go_sem] theorem M246 : tab.E.M 246 = ⟨[0, 0], false, false⟩ := by kernel_rfl
@[go_sem] theorem M250 : tab.E.M 250 = ⟨[0], false, false⟩ := by kernel_rfl
@[go_sem] theorem M251 : tab.E.M 251 = ⟨[0], false, false⟩ := by kernel_rfl
@[go_sem] theorem M276 : tab.E.M 276 = ⟨[0, 0], false, false⟩ := by kernel_rfl
@[go_sem] theorem M277 : tab.E.M 277 = ⟨[0, 0], false, false⟩ := by kernel_rfl
@[go_sem] theorem M278 : tab.E.M 278 = ⟨[0, 0], false, false⟩ := by kernel_rfl
@[go_sem] theorem M279 : tab.E.M 279 = ⟨[0, 0], false, false⟩ := by kernel_rfl
@[go_sem] theorem M295 : tab.E.M 295 = ⟨[0], false, false⟩ := by kernel_rfl
@[go_sem] theorem M296 : tab.E.M 296 = ⟨[0], false, false⟩ := by kernel_rfl
@[go_sem] theorem M318 : tab.E.M 318 = ⟨[0], false, false⟩ := by kernel_rfl
@[go_sem] theorem G0 : tab.E.G 0 = some ([.sl ([[97], [97, 110], [97, 110, 100], [111, 102], [116, 104, 101], [116, 111]].map PV.str)]) := rfl
@[go_sem] theorem G1 : tab.E.G 1 = some ([PV.ifc]) := rfl
@[go_sem] theorem G2 : tab.E.G 2 = some ([PV.ifc]) := rfl
@[go_sem] theorem G4 : tab.E.G 4 = some (Lib.pow10Tab.map (PV.int .u64)) := rfl
@[go_sem] theorem T3 : tab.E.T 3 = some ⟨.int .i64, 1, 8, [.int .i64 0]⟩ := by kernel_rfl
@[go_sem] theorem T4 : tab.E.T 4 = some ⟨.bool, 1, 1, [.bool false]⟩ := by kernel_rfl
@[go_sem] theorem T5 : tab.E.T 5 = some ⟨.int .u8, 1, 1, [.int .u8 0]⟩ := by kernel_rfl
@[go_sem] theorem T9 : tab.E.T 9 = some ⟨.str, 1, 16, [.str []]⟩ := by kernel_rfl
@[go_sem] theorem T21 : tab.E.T 21 = some ⟨.int .i32, 1, 4, [.int .i32 0]⟩ := by kernel_rfl
@[go_sem] theorem T27 : tab.E.T 27 = some ⟨.slice 3, 1, 24, [.slo 1 []]⟩ := by kernel_rfl
@[go_sem] theorem T29 : tab.E.T 29 = some ⟨.slice 9, 1, 24, [.slo 1 []]⟩ := by kernel_rfl
@[go_sem] theorem T52 : tab.E.T 52 = some ⟨.slice 54, 1, 24, [.slo 6 []]⟩ := by kernel_rfl
@[go_sem] theorem T54 : tab.E.T 54 = some ⟨.struct [(0, 3), (1, 9), (2, 9), (3, 3), (4, 3), (5, 52)], 6, 80, [.int .i64 0, .str [], .str [], .int .i64 0, .int .i64 0, .slo 6 []]⟩ := by kernel_rfl
@[go_sem] theorem T77 : tab.E.T 77 = some ⟨.slice 5, 1, 24, [.slo 1 []]⟩ := by kernel_rfl
@[go_sem] theorem T131 : tab.E.T 131 = some ⟨.struct [(0, 9), (1, 3), (2, 4)], 3, 32, [.str [], .int .i64 0, .bool false]⟩ := by kernel_rfl
@[go_sem] theorem T135 : tab.E.T 135 = some ⟨.struct [(0, 9), (1, 3)], 2, 24, [.str [], .int .i64 0]⟩ := by kernel_rfl
@[go_sem] theorem T138 : tab.E.T 138 = some ⟨.ptr 192, 1, 8, [.lit (.pointer none)]⟩ := by kernel_rfl
@[go_sem] theorem T192 : tab.E.T 192 = some ⟨.struct [(0, 77), (1, 3)], 2, 32, [.slo 1 [], .int .i64 0]⟩ := by kernel_rfl
@[go_sem] theorem T235 : tab.E.T 235 = some ⟨.slice 238, 1, 24, [.slo 3 []]⟩ := by kernel_rfl
@[go_sem] theorem T238 : tab.E.T 238 = some ⟨.struct [(0, 9), (1, 3), (2, 3)], 3, 32, [.str [], .int .i64 0, .int .i64 0]⟩ := by kernel_rfl
@[go_sem] theorem T318 : tab.E.T 318 = some ⟨.struct [(0, 5), (1, 5)], 2, 2, [.int .u8 0, .int .u8 0]⟩ := by kernel_rfl
variable {xs : List PV} {a : Ans}
theorem RT {f n : Nat} {fu : Func} {ts : List ResultVar} {cm : CM} {ns : List Nat} {L : List (Nat × List Nat)} (hf : tab.P.funcs[f]? = some fu) (hxs : xs.length = n) (h : Ends tab.S ⟨ts, ns, cm, lookL L⟩ (.run (fu.body.getD .skip) (ent xs) []) a) (hl : isNone (tab.lib.lookup f) = true := by kernel_rfl) (hb : fu.body = some (fu.body.getD .skip) := by kernel_rfl) (hc : fnChk fu (fu.body.getD .skip) = true := by kernel_rfl) (hcm : tab.M f = cm := by kernel_rfl) (hX : tab.X f = L := by kernel_rfl)
    (hm : cm.modes.length = n := by rfl) (hn : n ≤ fu.ntmps := by exact of_decide_eq_true (by kernel_rfl)) (hg : n ≤ gBase := by exact of_decide_eq_true (by kernel_rfl)) (hts : fu.results.toList = ts := by kernel_rfl) (hns : fu.resultTypes.toList.map (nilSz tab.E) = ns := by kernel_rfl) : R tab.S f xs = some a := R_tab hl hf hb hc hcm hX hm hn hg hts hns hxs h
theorem go8 (hn : xs.length = 1) (h : Ends S0 ⟨[.tmp 2], [0], ⟨[0], false, false⟩, lookL []⟩ (.run (Tryz.f8.body.getD .skip) (ent xs) []) a) : R S0 8 xs = some a := RT Tryz.func8 hn h
theorem go9 (hn : xs.length = 2) (h : Ends S0 ⟨[.tmp 4], [0], ⟨[0, 0], false, false⟩, lookL []⟩ (.run (Tryz.f9.body.getD .skip) (ent xs) []) a) : R S0 9 xs = some a := RT Tryz.func9 hn h
theorem go29 (hn : xs.length = 2) (h : Ends S0 ⟨[.tmp 4], [0], ⟨[0, 0], false, false⟩, lookL []⟩ (.run (Tryz.f29.body.getD .skip) (ent xs) []) a) : R S0 29 xs = some a := RT Tryz.func29 hn h
theorem go30 (hn : xs.length = 2) (h : Ends S0 ⟨[.tmp 4], [0], ⟨[1, 0], false, false⟩, lookL []⟩ (.run (Tryz.f30.body.getD .skip) (ent xs) []) a) : R S0 30 xs = some a := RT Tryz.func30 hn h
theorem go40 (hn : xs.length = 1) (h : Ends S0 ⟨[.cell 2 54, .tmp 3], [0, 0], ⟨[0], false, false⟩, lookL []⟩ (.run (Tryz.f40.body.getD .skip) (ent xs) []) a) : R S0 40 xs = some a := RT Tryz.func40 hn h
theorem go41 (hn : xs.length = 1) (h : Ends S0 ⟨[.cell 2 54, .tmp 3], [0, 0], ⟨[0], false, false⟩, lookL []⟩ (.run (Tryz.f41.body.getD .skip) (ent xs) []) a) : R S0 41 xs = some a := RT Tryz.func41 hn h
theorem go42 (hn : xs.length = 2) (h : Ends S0 ⟨[.tmp 4], [0], ⟨[0, 0], false, false⟩, lookL []⟩ (.run (Tryz.f42.body.getD .skip) (ent xs) []) a) : R S0 42 xs = some a := RT Tryz.func42 hn h
theorem go43 (hn : xs.length = 1) (h : Ends S0 ⟨[.cell 2 54], [0], ⟨[0], false, false⟩, lookL []⟩ (.run (Tryz.f43.body.getD .skip) (ent xs) []) a) : R S0 43 xs = some a := RT Tryz.func43 hn h
theorem go44 (hn : xs.length = 1) (h : Ends S0 ⟨[.tmp 2], [0], ⟨[0], false, false⟩, lookL []⟩ (.run (Tryz.f44.body.getD .skip) (ent xs) []) a) : R S0 44 xs = some a := RT Tryz.func44 hn h
theorem go45 (hn : xs.length = 1) (h : Ends S0 ⟨[.tmp 2], [0], ⟨[0], false, false⟩, lookL []⟩ (.run (Tryz.f45.body.getD .skip) (ent xs) []) a) : R S0 45 xs = some a := RT Tryz.func45 hn h
theorem go46 (hn : xs.length = 1) (h : Ends S0 ⟨[.tmp 2], [0], ⟨[0], false, false⟩, lookL []⟩ (.run (Tryz.f46.body.getD .skip) (ent xs) []) a) : R S0 46 xs = some a := RT Tryz.func46 hn h
theorem go47 (hn : xs.length = 1) (h : Ends S0 ⟨[.tmp 2], [0], ⟨[0], false, false⟩, lookL []⟩ (.run (Tryz.f47.body.getD .skip) (ent xs) []) a) : R S0 47 xs = some a := RT Tryz.func47 hn h
theorem go48 (hn : xs.length = 2) (h : Ends S0 ⟨[.tmp 4], [0], ⟨[0, 0], false, false⟩, lookL [(0, [2, 3, 5]), (1, [])]⟩ (.run (Tryz.f48.body.getD .skip) (ent xs) []) a) : R S0 48 xs = some a := RT Tryz.func48 hn h
theorem go49 (hn : xs.length = 1) (h : Ends S0 ⟨[.tmp 2], [0], ⟨[0], false, false⟩, lookL []⟩ (.run (Tryz.f49.body.getD .skip) (ent xs) []) a) : R S0 49 xs = some a := RT Tryz.func49 hn h
theorem go66 (hn : xs.length = 1) (h : Ends S0 ⟨[.tmp 2], [0], ⟨[0], false, false⟩, lookL [(0, [0, 3]), (1, [3])]⟩ (.run (Tryz.f66.body.getD .skip) (ent xs) []) a) : R S0 66 xs = some a := RT Tryz.func66 hn h
theorem go80 (hn : xs.length = 2) (h : Ends S0 ⟨[.tmp 4], [0], ⟨[0, 0], false, false⟩, lookL [(0, [0, 1, 5]), (1, [])]⟩ (.run (Tryz.f80.body.getD .skip) (ent xs) []) a) : R S0 80 xs = some a := RT Tryz.func80 hn h
theorem go81 (hn : xs.length = 2) (h : Ends S0 ⟨[.tmp 4], [0], ⟨[1, 0], false, false⟩, lookL [(0, [0, 1, 5, 1000000]), (1, [1, 1000000])]⟩ (.run (Tryz.f81.body.getD .skip) (ent xs) []) a) : R S0 81 xs = some a := RT Tryz.func81 hn h
theorem go97 (hn : xs.length = 2) (h : Ends S0 ⟨[.cell 4 54], [0], ⟨[1, 0], false, false⟩, lookL []⟩ (.run (Tryz.f97.body.getD .skip) (ent xs) []) a) : R S0 97 xs = some a := RT Tryz.func97 hn h
theorem go98 (hn : xs.length = 1) (h : Ends S0 ⟨[.tmp 2], [0], ⟨[0], false, false⟩, lookL [(2, [1, 3, 4, 5]), (3, [4])]⟩ (.run (Tryz.f98.body.getD .skip) (ent xs) []) a) : R S0 98 xs = some a := RT Tryz.func98 hn h
theorem go99 (hn : xs.length = 2) (h : Ends S0 ⟨[.cell 4 54], [0], ⟨[1, 0], false, false⟩, lookL [(2, [0, 1, 4, 5, 6, 1000000]), (3, [0, 4, 5, 1000000])]⟩ (.run (Tryz.f99.body.getD .skip) (ent xs) []) a) : R S0 99 xs = some a := RT Tryz.func99 hn h
theorem go100 (hn : xs.length = 1) (h : Ends S0 ⟨[.cell 2 54], [0], ⟨[0], false, false⟩, lookL [(0, [1, 2, 3, 8, 9, 10]), (1, [1, 2, 3])]⟩ (.run (Tryz.f100.body.getD .skip) (ent xs) []) a) : R S0 100 xs = some a := RT Tryz.func100 hn h
theorem go101 (hn : xs.length = 2) (h : Ends S0 ⟨[.tmp 4], [0], ⟨[0, 0], false, false⟩, lookL [(0, [0, 1, 5]), (1, [1])]⟩ (.run (Tryz.f101.body.getD .skip) (ent xs) []) a) : R S0 101 xs = some a := RT Tryz.func101 hn h
theorem go102 (hn : xs.length = 2) (h : Ends S0 ⟨[.cell 4 54], [0], ⟨[1, 0], false, true⟩, lookL [(2, [4, 5, 6, 1000000]), (3, [4, 5, 1000000])]⟩ (.run (Tryz.f102.body.getD .skip) (ent xs) []) a) : R S0 102 xs = some a := RT Tryz.func102 hn h
theorem go103 (hn : xs.length = 1) (h : Ends S0 ⟨[.tmp 2], [0], ⟨[0], false, true⟩, lookL []⟩ (.run (Tryz.f103.body.getD .skip) (ent xs) []) a) : R S0 103 xs = some a := RT Tryz.func103 hn h
theorem go104 (hn : xs.length = 1) (h : Ends S0 ⟨[.tmp 2], [0], ⟨[0], false, false⟩, lookL [(0, [1, 3, 4, 15, 16, 17]), (1, [1, 3, 4])]⟩ (.run (Tryz.f104.body.getD .skip) (ent xs) []) a) : R S0 104 xs = some a := RT Tryz.func104 hn h
theorem go105 (hn : xs.length = 2) (h : Ends S0 ⟨[.tmp 4], [0], ⟨[0, 0], false, false⟩, lookL [(2, [1, 183, 184, 185]), (3, [])]⟩ (.run (Tryz.f105.body.getD .skip) (ent xs) []) a) : R S0 105 xs = some a := RT Tryz.func105 hn h
theorem go106 (hn : xs.length = 2) (h : Ends S0 ⟨[.tmp 4], [0], ⟨[0, 0], false, false⟩, lookL [(0, [1, 2, 5, 6]), (1, [2, 5])]⟩ (.run (Tryz.f106.body.getD .skip) (ent xs) []) a) : R S0 106 xs = some a := RT Tryz.func106 hn h
theorem go107 (hn : xs.length = 2) (h : Ends S0 ⟨[.tmp 4], [0], ⟨[1, 0], false, true⟩, lookL []⟩ (.run (Tryz.f107.body.getD .skip) (ent xs) []) a) : R S0 107 xs = some a := RT Tryz.func107 hn h
theorem go108 (hn : xs.length = 2) (h : Ends S0 ⟨[.tmp 4], [0], ⟨[1, 0], false, true⟩, lookL []⟩ (.run (Tryz.f108.body.getD .skip) (ent xs) []) a) : R S0 108 xs = some a := RT Tryz.func108 hn h
theorem go109 (hn : xs.length = 2) (h : Ends S0 ⟨[.tmp 4], [0], ⟨[1, 0], false, true⟩, lookL []⟩ (.run (Tryz.f109.body.getD .skip) (ent xs) []) a) : R S0 109 xs = some a := RT Tryz.func109 hn h
theorem go110 (hn : xs.length = 3) (h : Ends S0 ⟨[.cell 6 54], [0], ⟨[1, 0, 0], false, true⟩, lookL [(0, [0, 1, 2, 6, 7, 8, 1000000]), (1, [6, 7, 1000000])]⟩ (.run (Tryz.f110.body.getD .skip) (ent xs) []) a) : R S0 110 xs = some a := RT Tryz.func110 hn h
theorem go114 (hn : xs.length = 3) (h : Ends S0 ⟨[.tmp 6], [0], ⟨[0, 0, 0], false, false⟩, lookL []⟩ (.run (Tryz.f114.body.getD .skip) (ent xs) []) a) : R S0 114 xs = some a := RT Tryz.func114 hn h
theorem go122 (hn : xs.length = 3) (h : Ends S0 ⟨[.tmp 6], [0], ⟨[0, 0, 0], false, false⟩, lookL []⟩ (.run (Tryz.f122.body.getD .skip) (ent xs) []) a) : R S0 122 xs = some a := RT Tryz.func122 hn h
theorem go152 (hn : xs.length = 2) (h : Ends S0 ⟨[.tmp 4], [0], ⟨[1, 0], false, false⟩, lookL []⟩ (.run (Tryz.f152.body.getD .skip) (ent xs) []) a) : R S0 152 xs = some a := RT Tryz.func152 hn h
theorem go153 (hn : xs.length = 2) (h : Ends S0 ⟨[.cell 4 54], [0], ⟨[1, 0], false, false⟩, lookL [(0, [0, 1, 4, 5, 6, 1000000]), (1, [0, 4, 5, 1000000])]⟩ (.run (Tryz.f153.body.getD .skip) (ent xs) []) a) : R S0 153 xs = some a := RT Tryz.func153 hn h
theorem go154 (hn : xs.length = 1) (h : Ends S0 ⟨[.cell 2 54], [0], ⟨[1], false, false⟩, lookL []⟩ (.run (Tryz.f154.body.getD .skip) (ent xs) []) a) : R S0 154 xs = some a := RT Tryz.func154 hn h
theorem go155 (hn : xs.length = 1) (h : Ends S0 ⟨[.tmp 2], [0], ⟨[1], false, false⟩, lookL [(0, [0, 3, 1000000]), (1, [0, 3, 1000000])]⟩ (.run (Tryz.f155.body.getD .skip) (ent xs) []) a) : R S0 155 xs = some a := RT Tryz.func155 hn h
theorem go156 (hn : xs.length = 1) (h : Ends S0 ⟨[.cell 2 54], [0], ⟨[1], false, false⟩, lookL []⟩ (.run (Tryz.f156.body.getD .skip) (ent xs) []) a) : R S0 156 xs = some a := RT Tryz.func156 hn h
theorem go157 (hn : xs.length = 1) (h : Ends S0 ⟨[.tmp 2], [0], ⟨[0], false, false⟩, lookL []⟩ (.run (Tryz.f157.body.getD .skip) (ent xs) []) a) : R S0 157 xs = some a := RT Tryz.func157 hn h
theorem go158 (hn : xs.length = 1) (h : Ends S0 ⟨[.tmp 2], [0], ⟨[0], false, false⟩, lookL []⟩ (.run (Tryz.f158.body.getD .skip) (ent xs) []) a) : R S0 158 xs = some a := RT Tryz.func158 hn h
theorem go159 (hn : xs.length = 2) (h : Ends S0 ⟨[.tmp 4], [0], ⟨[1, 0], false, false⟩, lookL []⟩ (.run (Tryz.f159.body.getD .skip) (ent xs) []) a) : R S0 159 xs = some a := RT Tryz.func159 hn h
theorem go160 (hn : xs.length = 2) (h : Ends S0 ⟨[.tmp 4], [0], ⟨[0, 0], false, false⟩, lookL []⟩ (.run (Tryz.f160.body.getD .skip) (ent xs) []) a) : R S0 160 xs = some a := RT Tryz.func160 hn h
theorem go161 (hn : xs.length = 2) (h : Ends S0 ⟨[.tmp 4], [0], ⟨[1, 0], false, false⟩, lookL []⟩ (.run (Tryz.f161.body.getD .skip) (ent xs) []) a) : R S0 161 xs = some a := RT Tryz.func161 hn h
theorem go162 (hn : xs.length = 1) (h : Ends S0 ⟨[.tmp 2], [0], ⟨[1], false, false⟩, lookL []⟩ (.run (Tryz.f162.body.getD .skip) (ent xs) []) a) : R S0 162 xs = some a := RT Tryz.func162 hn h
theorem go163 (hn : xs.length = 1) (h : Ends S0 ⟨[.tmp 2], [0], ⟨[1], false, false⟩, lookL [(0, [0, 3, 1000000]), (1, [0, 3, 1000000])]⟩ (.run (Tryz.f163.body.getD .skip) (ent xs) []) a) : R S0 163 xs = some a := RT Tryz.func163 hn h
theorem go164 (hn : xs.length = 2) (h : Ends S0 ⟨[.tmp 4], [0], ⟨[1, 0], false, true⟩, lookL []⟩ (.run (Tryz.f164.body.getD .skip) (ent xs) []) a) : R S0 164 xs = some a := RT Tryz.func164 hn h
theorem go167 (hn : xs.length = 1) (h : Ends S0 ⟨[.tmp 2], [0], ⟨[0], false, false⟩, lookL [(0, [0, 5, 6]), (1, [0])]⟩ (.run (Tryz.f167.body.getD .skip) (ent xs) []) a) : R S0 167 xs = some a := RT Tryz.func167 hn h
theorem go168 (hn : xs.length = 3) (h : Ends S0 ⟨[.tmp 6], [0], ⟨[0, 0, 0], false, false⟩, lookL [(0, [0, 1, 2, 7, 12, 13, 14]), (1, [0, 1, 2, 7])]⟩ (.run (Tryz.f168.body.getD .skip) (ent xs) []) a) : R S0 168 xs = some a := RT Tryz.func168 hn h
theorem go169 (hn : xs.length = 1) (h : Ends S0 ⟨[.tmp 2], [0], ⟨[0], false, false⟩, lookL []⟩ (.run (Tryz.f169.body.getD .skip) (ent xs) []) a) : R S0 169 xs = some a := RT Tryz.func169 hn h
theorem go170 (hn : xs.length = 1) (h : Ends S0 ⟨[.tmp 2], [0], ⟨[0], false, false⟩, lookL [(0, [0, 5, 6]), (1, [0])]⟩ (.run (Tryz.f170.body.getD .skip) (ent xs) []) a) : R S0 170 xs = some a := RT Tryz.func170 hn h
theorem go171 (hn : xs.length = 1) (h : Ends S0 ⟨[.tmp 2], [0], ⟨[0], false, false⟩, lookL [(0, [3, 8, 9, 10]), (1, [3])]⟩ (.run (Tryz.f171.body.getD .skip) (ent xs) []) a) : R S0 171 xs = some a := RT Tryz.func171 hn h
theorem go172 (hn : xs.length = 1) (h : Ends S0 ⟨[.tmp 2], [0], ⟨[0], false, false⟩, lookL []⟩ (.run (Tryz.f172.body.getD .skip) (ent xs) []) a) : R S0 172 xs = some a := RT Tryz.func172 hn h
theorem go173 (hn : xs.length = 2) (h : Ends S0 ⟨[.cell 4 54], [0], ⟨[1, 0], false, true⟩, lookL []⟩ (.run (Tryz.f173.body.getD .skip) (ent xs) []) a) : R S0 173 xs = some a := RT Tryz.func173 hn h
theorem go175 (hn : xs.length = 1) (h : Ends S0 ⟨[.tmp 2], [0], ⟨[0], false, false⟩, lookL [(0, [0, 3]), (1, [0])]⟩ (.run (Tryz.f175.body.getD .skip) (ent xs) []) a) : R S0 175 xs = some a := RT Tryz.func175 hn h
theorem go179 (hn : xs.length = 2) (h : Ends S0 ⟨[.tmp 4], [0], ⟨[0, 0], false, false⟩, lookL []⟩ (.run (Tryz.f179.body.getD .skip) (ent xs) []) a) : R S0 179 xs = some a := RT Tryz.func179 hn h
theorem go197 (hn : xs.length = 1) (h : Ends S0 ⟨[.tmp 2, .tmp 3], [0, 0], ⟨[0], false, false⟩, lookL []⟩ (.run (Tryz.f197.body.getD .skip) (ent xs) []) a) : R S0 197 xs = some a := RT Tryz.func197 hn h
theorem go202 (hn : xs.length = 2) (h : Ends S0 ⟨[.tmp 4], [1], ⟨[0, 0], true, true⟩, lookL []⟩ (.run (Tryz.f202.body.getD .skip) (ent xs) []) a) : R S0 202 xs = some a := RT Tryz.func202 hn h
theorem go203 (hn : xs.length = 2) (h : Ends S0 ⟨[.tmp 4], [0], ⟨[0, 0], false, false⟩, lookL []⟩ (.run (Tryz.f203.body.getD .skip) (ent xs) []) a) : R S0 203 xs = some a := RT Tryz.func203 hn h
theorem go204 (hn : xs.length = 2) (h : Ends S0 ⟨[.tmp 4], [0], ⟨[1, 0], false, false⟩, lookL []⟩ (.run (Tryz.f204.body.getD .skip) (ent xs) []) a) : R S0 204 xs = some a := RT Tryz.func204 hn h
theorem go205 (hn : xs.length = 1) (h : Ends S0 ⟨[.tmp 2], [0], ⟨[1], false, false⟩, lookL []⟩ (.run (Tryz.f205.body.getD .skip) (ent xs) []) a) : R S0 205 xs = some a := RT Tryz.func205 hn h
theorem go206 (hn : xs.length = 1) (h : Ends S0 ⟨[.tmp 2], [0], ⟨[0], false, false⟩, lookL []⟩ (.run (Tryz.f206.body.getD .skip) (ent xs) []) a) : R S0 206 xs = some a := RT Tryz.func206 hn h
theorem go207 (hn : xs.length = 2) (h : Ends S0 ⟨[.tmp 4], [0], ⟨[0, 0], false, false⟩, lookL []⟩ (.run (Tryz.f207.body.getD .skip) (ent xs) []) a) : R S0 207 xs = some a := RT Tryz.func207 hn h
theorem go208 (hn : xs.length = 2) (h : Ends S0 ⟨[.tmp 4, .tmp 5, .tmp 6], [0, 0, 0], ⟨[0, 0], false, false⟩, lookL []⟩ (.run (Tryz.f208.body.getD .skip) (ent xs) []) a) : R S0 208 xs = some a := RT Tryz.func208 hn h
theorem go209 (hn : xs.length = 1) (h : Ends S0 ⟨[.tmp 2], [0], ⟨[0], false, false⟩, lookL []⟩ (.run (Tryz.f209.body.getD .skip) (ent xs) []) a) : R S0 209 xs = some a := RT Tryz.func209 hn h
theorem go214 (hn : xs.length = 1) (h : Ends S0 ⟨[.tmp 2], [0], ⟨[0], false, false⟩, lookL []⟩ (.run (Tryz.f214.body.getD .skip) (ent xs) []) a) : R S0 214 xs = some a := RT Tryz.func214 hn h
theorem go215 (hn : xs.length = 1) (h : Ends S0 ⟨[.tmp 2], [0], ⟨[0], false, false⟩, lookL []⟩ (.run (Tryz.f215.body.getD .skip) (ent xs) []) a) : R S0 215 xs = some a := RT Tryz.func215 hn h
theorem go216 (hn : xs.length = 1) (h : Ends S0 ⟨[.tmp 2], [0], ⟨[0], false, false⟩, lookL []⟩ (.run (Tryz.f216.body.getD .skip) (ent xs) []) a) : R S0 216 xs = some a := RT Tryz.func216 hn h
theorem go217 (hn : xs.length = 1) (h : Ends S0 ⟨[.tmp 2], [0], ⟨[0], false, false⟩, lookL [(0, [0, 3, 4, 5]), (1, [0, 3, 4])]⟩ (.run (Tryz.f217.body.getD .skip) (ent xs) []) a) : R S0 217 xs = some a := RT Tryz.func217 hn h
theorem go218 (hn : xs.length = 1) (h : Ends S0 ⟨[.tmp 2], [0], ⟨[0], false, false⟩, lookL []⟩ (.run (Tryz.f218.body.getD .skip) (ent xs) []) a) : R S0 218 xs = some a := RT Tryz.func218 hn h
theorem go219 (hn : xs.length = 1) (h : Ends S0 ⟨[.tmp 2], [0], ⟨[0], false, false⟩, lookL [(0, [0, 3, 4]), (1, [3])]⟩ (.run (Tryz.f219.body.getD .skip) (ent xs) []) a) : R S0 219 xs = some a := RT Tryz.func219 hn h
theorem go224 (hn : xs.length = 2) (h : Ends S0 ⟨[.tmp 4], [0], ⟨[0, 0], false, false⟩, lookL [(0, [0, 1, 7, 8]), (1, [])]⟩ (.run (Tryz.f224.body.getD .skip) (ent xs) []) a) : R S0 224 xs = some a := RT Tryz.func224 hn h
theorem go238 (hn : xs.length = 1) (h : Ends S0 ⟨[.tmp 2], [0], ⟨[0], false, false⟩, lookL [(0, [0, 3, 4]), (1, [0, 3])]⟩ (.run (Tryz.f238.body.getD .skip) (ent xs) []) a) : R S0 238 xs = some a := RT Tryz.func238 hn h
theorem go239 (hn : xs.length = 3) (h : Ends S0 ⟨[.tmp 6], [1], ⟨[0, 0, 0], false, false⟩, lookL [(0, [0, 1, 2, 7, 8, 9]), (1, [0, 7, 8])]⟩ (.run (Tryz.f239.body.getD .skip) (ent xs) []) a) : R S0 239 xs = some a := RT Tryz.func239 hn h
theorem go244 (hn : xs.length = 4) (h : Ends S0 ⟨[.tmp 8], [1], ⟨[0, 0, 0, 0], true, true⟩, lookL [(0, [0, 1, 2, 3, 9, 10]), (1, [0, 9, 10])]⟩ (.run (Tryz.f244.body.getD .skip) (ent xs) []) a) : R S0 244 xs = some a := RT Tryz.func244 hn h
theorem go245 (hn : xs.length = 1) (h : Ends S0 ⟨[.tmp 2], [0], ⟨[0], false, false⟩, lookL []⟩ (.run (Tryz.f245.body.getD .skip) (ent xs) []) a) : R S0 245 xs = some a := RT Tryz.func245 hn h
theorem go246 (hn : xs.length = 2) (h : Ends S0 ⟨[.tmp 4, .tmp 5, .tmp 6], [0, 0, 0], ⟨[0, 0], false, false⟩, lookL []⟩ (.run (Tryz.f246.body.getD .skip) (ent xs) []) a) : R S0 246 xs = some a := RT Tryz.func246 hn h
theorem go250 (hn : xs.length = 1) (h : Ends S0 ⟨[.tmp 2], [3], ⟨[0], false, false⟩, lookL [(0, [0, 3, 4]), (1, [3]), (4, [0, 3, 4, 5]), (5, [0, 3, 4, 5])]⟩ (.run (Tryz.f250.body.getD .skip) (ent xs) []) a) : R S0 250 xs = some a := RT Tryz.func250 hn h
theorem go251 (hn : xs.length = 1) (h : Ends S0 ⟨[.tmp 2], [0], ⟨[0], false, false⟩, lookL [(0, [0, 3, 4]), (1, [])]⟩ (.run (Tryz.f251.body.getD .skip) (ent xs) []) a) : R S0 251 xs = some a := RT Tryz.func251 hn h
theorem go278 (hn : xs.length = 2) (h : Ends S0 ⟨[.tmp 4], [0], ⟨[0, 0], false, false⟩, lookL []⟩ (.run (Tryz.f278.body.getD .skip) (ent xs) []) a) : R S0 278 xs = some a := RT Tryz.func278 hn h
end Go.Proofs.YtmanllfmgghadaaGreatDoor.PVE
