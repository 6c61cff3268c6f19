/- The tables of the seat, by program: types, how functions are called, what lives at loops. -/
import Derived.Test.YtmanllfmgghadaaDoorL3
import Derived.Test.YtmanllfmgghadaaDoorL4
import Derived.Test.YtmanllfmgghadaaDoorL5
import Derived.Test.YtmanllfmgghadaaDoorL6
import Derived.Test.YtmanllfmgghadaaDoorChecked
set_option linter.unusedVariables false
set_option linter.unusedSimpArgs false
set_option maxRecDepth 100000
namespace Go.Proofs.YtmanllfmgghadaaDoor.PVE
open PV
noncomputable def tab : Tab := ⟨Tryd.prog, fun g => if g = 0 then some ([.sl ([[97], [97, 110], [97, 110, 100], [111, 102], [116, 104, 101], [116, 111]].map PV.str)]) else if g = 1 then some (Lib.pow10Tab.map (PV.int .u64)) else none,
  [(3, ⟨[0], false, false⟩), (4, ⟨[0, 0], false, false⟩), (5, ⟨[0], false, false⟩), (6, ⟨[0], false, false⟩), (7, ⟨[0], false, false⟩), (8, ⟨[0, 0], false, false⟩), (9, ⟨[0, 0], false, false⟩), (10, ⟨[0], false, false⟩), (11, ⟨[0], false, false⟩), (12, ⟨[0], false, false⟩), (13, ⟨[0], false, false⟩), (14, ⟨[0], false, false⟩), (15, ⟨[0, 0], false, false⟩), (16, ⟨[0, 0], false, false⟩), (17, ⟨[0], false, false⟩), (18, ⟨[0], false, false⟩), (19, ⟨[0, 0], false, false⟩), (20, ⟨[0], false, false⟩), (21, ⟨[0, 0], false, false⟩), (22, ⟨[0], false, false⟩), (23, ⟨[0, 0, 0], false, false⟩), (24, ⟨[0], false, false⟩), (25, ⟨[0, 0, 0], false, false⟩), (26, ⟨[0], false, false⟩), (27, ⟨[0], false, false⟩), (28, ⟨[0], false, false⟩), (29, ⟨[0, 0, 0], false, false⟩), (34, ⟨[0], false, false⟩), (35, ⟨[0], false, false⟩), (36, ⟨[0], false, false⟩), (37, ⟨[0], false, false⟩), (38, ⟨[0], false, false⟩), (39, ⟨[0], false, false⟩), (40, ⟨[0, 0], true, true⟩), (41, ⟨[0, 0], false, false⟩), (42, ⟨[0], false, false⟩), (43, ⟨[0], false, false⟩), (47, ⟨[0], false, false⟩), (48, ⟨[0], false, false⟩), (49, ⟨[0], false, false⟩), (50, ⟨[0, 0, 0, 0], true, true⟩), (51, ⟨[0, 0], false, false⟩), (58, ⟨[0], false, false⟩), (59, ⟨[0, 0], false, false⟩), (60, ⟨[0, 0], false, false⟩), (61, ⟨[0, 0], false, false⟩), (67, ⟨[0], false, false⟩), (68, ⟨[0], false, false⟩), (70, ⟨[0, 0], false, false⟩), (73, ⟨[0], false, false⟩)],
  [(9, [(0, [0, 1, 5]), (1, [1])]), (11, [(2, [1, 3, 4, 5]), (3, [4])]), (12, [(0, [0, 3, 4]), (1, [3])]), (14, [(0, [1, 3, 4, 15, 16, 17]), (1, [1, 3, 4])]), (15, [(0, [0, 1, 5]), (1, [])]), (16, [(0, [1, 2, 5, 6]), (1, [2, 5])]), (19, [(2, [1, 183, 184, 185]), (3, [])]), (24, [(0, [0, 5, 6]), (1, [0])]), (25, [(0, [0, 1, 2, 7, 12, 13, 14]), (1, [0, 1, 2, 7])]), (27, [(0, [0, 5, 6]), (1, [0])]), (28, [(0, [3, 8, 9, 10]), (1, [3])]), (34, [(0, [0, 3]), (1, [0])]), (35, [(0, [0, 3, 4, 5]), (1, [0, 3, 4])]), (37, [(0, [0, 3, 4]), (1, [3])]), (47, [(0, [0, 3, 4]), (1, [3]), (4, [0, 3, 4, 5]), (5, [0, 3, 4, 5])]), (48, [(0, [0, 3, 4]), (1, [])]), (50, [(0, [0, 1, 2, 3, 9, 10]), (1, [0, 9, 10])]), (51, [(0, [0, 1, 7, 8]), (1, [])]), (59, [(0, [0, 1, 6, 7]), (1, [0, 1, 6])]), (67, [(0, [2, 4]), (1, [2])])],
  [(20, libItoa), (21, libJoin), (60, libCount), (70, libIndex)]⟩
noncomputable abbrev S0 : Sys := tab.S
@[go_sem] theorem M3 : tab.E.M 3 = ⟨[0], false, false⟩ := by kernel_rfl
@[go_sem] theorem M4 : tab.E.M 4 = ⟨[0, 0], false, false⟩ := by kernel_rfl
@[go_sem] theorem M5 : tab.E.M 5 = ⟨[0], false, false⟩ := by kernel_rfl
@[go_sem] theorem M6 : tab.E.M 6 = ⟨[0], false, false⟩ := by kernel_rfl
@[go_sem] theorem M7 : tab.E.M 7 = ⟨[0], false, false⟩ := by kernel_rfl
@[go_sem] theorem M8 : tab.E.M 8 = ⟨[0, 0], false, false⟩ := by kernel_rfl
@[go_sem] theorem M9 : tab.E.M 9 = ⟨[0, 0], false, false⟩ := by kernel_rfl
@[go_sem] theorem M10 : tab.E.M 10 = ⟨[0], false, false⟩ := by kernel_rfl
@[go_sem] theorem M11 : tab.E.M 11 = ⟨[0], false, false⟩ := by kernel_rfl
@[go_sem] theorem M12 : tab.E.M 12 = ⟨[0], false, false⟩ := by kernel_rfl
@[go_sem] theorem M13 : tab.E.M 13 = ⟨[0], false, false⟩ := by kernel_rfl
@[go_sem] theorem M14 : tab.E.M 14 = ⟨[0], false, false⟩ := by kernel_rfl
@[go_sem] theorem M15 : tab.E.M 15 = ⟨[0, 0], false, false⟩ := by kernel_rfl
@[go_sem] theorem M16 : tab.E.M 16 = ⟨[0, 0], false, false⟩ := by kernel_rfl
@[go_sem] theorem M17 : tab.E.M 17 = ⟨[0], false, false⟩ := by kernel_rfl
@[go_sem] theorem M18 : tab.E.M 18 = ⟨[0], false, false⟩ := by kernel_rfl
@[go_sem] theorem M19 : tab.E.M 19 = ⟨[0, 0], false, false⟩ := by kernel_rfl
@[go_sem] theorem M20 : tab.E.M 20 = ⟨[0], false, false⟩ := by kernel_rfl
@[go_sem] theorem M21 : tab.E.M 21 = ⟨[0, 0], false, false⟩ := by kernel_rfl
@[go_sem] theorem M22 : tab.E.M 22 = ⟨[0], false, false⟩ := by kernel_rfl
@[go_sem] theorem M23 : tab.E.M 23 = ⟨[0, 0, 0], false, false⟩ := by kernel_rfl
@[go_sem] theorem M24 : tab.E.M 24 = ⟨[0], false, false⟩ := by kernel_rfl
@[go_sem] theorem M25 : tab.E.M 25 = ⟨[0, 0, 0], false, false⟩ := by kernel_rfl
@[go_sem] theorem M26 : tab.E.M 26 = ⟨[0], false, false⟩ := by kernel_rfl
@[go_sem] theorem M27 : tab.E.M 27 = ⟨[0], false, false⟩ := by kernel_rfl
@[go_sem] theorem M28 : tab.E.M 28 = ⟨[0], false, false⟩ := by kernel_rfl
@[go_sem] theorem M29 : tab.E.M 29 = ⟨[0, 0, 0], false, false⟩ := by kernel_rfl
@[go_sem] theorem M34 : tab.E.M 34 = ⟨[0], false, false⟩ := by kernel_rfl
@[go_sem] theorem M35 : tab.E.M 35 = ⟨[0], false, false⟩ := by kernel_rfl
@[go_sem] theorem M36 : tab.E.M 36 = ⟨[0], false, false⟩ := by kernel_rfl
@[go_sem] theorem M37 : tab.E.M 37 = ⟨[0], false, false⟩ := by kernel_rfl
@[go_sem] theorem M38 : tab.E.M 38 = ⟨[0], false, false⟩ := by kernel_rfl
@[go_sem] theorem M39 : tab.E.M 39 = ⟨[0], false, false⟩ := by kernel_rfl
@[go_sem] theorem M40 : tab.E.M 40 = ⟨[0, 0], true, true⟩ := by kernel_rfl
@[go_sem] theorem M41 : tab.E.M 41 = ⟨[0, 0], false, false⟩ := by kernel_rfl
@[go_sem] theorem M42 : tab.E.M 42 = ⟨[0], false, false⟩ := by kernel_rfl
@[go_sem] theorem M43 : tab.E.M 43 = ⟨[0], false, false⟩ := by kernel_rfl
@[go_sem] theorem M47 : tab.E.M 47 = ⟨[0], false, false⟩ := by kernel_rfl
@[go_sem] theorem M48 : tab.E.M 48 = ⟨[0], false, false⟩ := by kernel_rfl
@[go_sem] theorem M49 : tab.E.M 49 = ⟨[0], false, false⟩ := by kernel_rfl
@[go_sem] theorem M50 : tab.E.M 50 = ⟨[0, 0, 0, 0], true, true⟩ := by kernel_rfl
@[go_sem] theorem M51 : tab.E.M 51 = ⟨[0, 0], false, false⟩ := by kernel_rfl
@[go_sem] theorem M58 : tab.E.M 58 = ⟨[0], false, false⟩ := by kernel_rfl
@[go_sem] theorem M59 : tab.E.M 59 = ⟨[0, 0], false, false⟩ := by kernel_rfl
@[go_sem] theorem M60 : tab.E.M 60 = ⟨[0, 0], false, false⟩ := by kernel_rfl
@[go_sem] theorem M61 : tab.E.M 61 = ⟨[0, 0], false, false⟩ := by kernel_rfl
@[go_sem] theorem M67 : tab.E.M 67 = ⟨[0], false, false⟩ := by kernel_rfl
@[go_sem] theorem M68 : tab.E.M 68 = ⟨[0], false, false⟩ := by kernel_rfl
@[go_sem] theorem M70 : tab.E.M 70 = ⟨[0, 0], false, false⟩ := by kernel_rfl
@[go_sem] theorem M73 : tab.E.M 73 = ⟨[0], false, false⟩ := by kernel_rfl
@[go_sem] theorem G0 : tab.E.G 0 = some ([.sl ([[97], [97, 110], [97, 110, 100], [111, 102], [116, 104, 101], [116, 111]].map PV.str)]) := rfl
@[go_sem] theorem G1 : tab.E.G 1 = some (Lib.pow10Tab.map (PV.int .u64)) := rfl
@[go_sem] theorem T3 : tab.E.T 3 = some ⟨.int .i64, 1, 8, [.int .i64 0]⟩ := by kernel_rfl
@[go_sem] theorem T4 : tab.E.T 4 = some ⟨.bool, 1, 1, [.bool false]⟩ := by kernel_rfl
@[go_sem] theorem T5 : tab.E.T 5 = some ⟨.int .u8, 1, 1, [.int .u8 0]⟩ := by kernel_rfl
@[go_sem] theorem T9 : tab.E.T 9 = some ⟨.str, 1, 16, [.str []]⟩ := by kernel_rfl
@[go_sem] theorem T21 : tab.E.T 21 = some ⟨.int .i32, 1, 4, [.int .i32 0]⟩ := by kernel_rfl
@[go_sem] theorem T22 : tab.E.T 22 = some ⟨.slice 24, 1, 24, [.slo 6 []]⟩ := by kernel_rfl
@[go_sem] theorem T24 : tab.E.T 24 = some ⟨.struct [(0, 3), (1, 9), (2, 9), (3, 3), (4, 3), (5, 22)], 6, 80, [.int .i64 0, .str [], .str [], .int .i64 0, .int .i64 0, .slo 6 []]⟩ := by kernel_rfl
@[go_sem] theorem T27 : tab.E.T 27 = some ⟨.slice 29, 1, 24, [.slo 6 []]⟩ := by kernel_rfl
@[go_sem] theorem T29 : tab.E.T 29 = some ⟨.struct [(0, 3), (1, 9), (2, 9), (3, 3), (4, 3), (5, 27)], 6, 80, [.int .i64 0, .str [], .str [], .int .i64 0, .int .i64 0, .slo 6 []]⟩ := by kernel_rfl
@[go_sem] theorem T42 : tab.E.T 42 = some ⟨.slice 9, 1, 24, [.slo 1 []]⟩ := by kernel_rfl
@[go_sem] theorem T45 : tab.E.T 45 = some ⟨.slice 5, 1, 24, [.slo 1 []]⟩ := by kernel_rfl
@[go_sem] theorem T62 : tab.E.T 62 = some ⟨.slice 65, 1, 24, [.slo 3 []]⟩ := by kernel_rfl
@[go_sem] theorem T65 : tab.E.T 65 = some ⟨.struct [(0, 9), (1, 3), (2, 3)], 3, 32, [.str [], .int .i64 0, .int .i64 0]⟩ := by kernel_rfl
@[go_sem] theorem T95 : tab.E.T 95 = some ⟨.struct [(0, 5), (1, 5)], 2, 2, [.int .u8 0, .int .u8 0]⟩ := by kernel_rfl
variable {xs : List PV} {a : Ans}
theorem RT {f n : Nat} {fu : Func} {ts : List ResultVar} {cm : CM} {ns : List Nat} {L : List (Nat × List Nat)} (hf : tab.P.funcs[f]? = some fu) (hxs : xs.length = n) (h : Ends tab.S ⟨ts, ns, cm, lookL L⟩ (.run (fu.body.getD .skip) (ent xs) []) a) (hl : isNone (tab.lib.lookup f) = true := by kernel_rfl) (hb : fu.body = some (fu.body.getD .skip) := by kernel_rfl) (hc : fnChk fu (fu.body.getD .skip) = true := by kernel_rfl) (hcm : tab.M f = cm := by kernel_rfl) (hX : tab.X f = L := by kernel_rfl)
    (hm : cm.modes.length = n := by rfl) (hn : n ≤ fu.ntmps := by exact of_decide_eq_true (by kernel_rfl)) (hg : n ≤ gBase := by exact of_decide_eq_true (by kernel_rfl)) (hts : fu.results.toList = ts := by kernel_rfl) (hns : fu.resultTypes.toList.map (nilSz tab.E) = ns := by kernel_rfl) : R tab.S f xs = some a := R_tab hl hf hb hc hcm hX hm hn hg hts hns hxs h
theorem go3 (hn : xs.length = 1) (h : Ends S0 ⟨[.tmp 2], [0], ⟨[0], false, false⟩, lookL []⟩ (.run (Tryd.f3.body.getD .skip) (ent xs) []) a) : R S0 3 xs = some a := RT Tryd.func3 hn h
theorem go4 (hn : xs.length = 2) (h : Ends S0 ⟨[.tmp 4], [0], ⟨[0, 0], false, false⟩, lookL []⟩ (.run (Tryd.f4.body.getD .skip) (ent xs) []) a) : R S0 4 xs = some a := RT Tryd.func4 hn h
theorem go5 (hn : xs.length = 1) (h : Ends S0 ⟨[.tmp 2], [0], ⟨[0], false, false⟩, lookL []⟩ (.run (Tryd.f5.body.getD .skip) (ent xs) []) a) : R S0 5 xs = some a := RT Tryd.func5 hn h
theorem go6 (hn : xs.length = 1) (h : Ends S0 ⟨[.cell 2 29], [0], ⟨[0], false, false⟩, lookL []⟩ (.run (Tryd.f6.body.getD .skip) (ent xs) []) a) : R S0 6 xs = some a := RT Tryd.func6 hn h
theorem go7 (hn : xs.length = 1) (h : Ends S0 ⟨[.tmp 2], [0], ⟨[0], false, false⟩, lookL []⟩ (.run (Tryd.f7.body.getD .skip) (ent xs) []) a) : R S0 7 xs = some a := RT Tryd.func7 hn h
theorem go8 (hn : xs.length = 2) (h : Ends S0 ⟨[.tmp 4], [0], ⟨[0, 0], false, false⟩, lookL []⟩ (.run (Tryd.f8.body.getD .skip) (ent xs) []) a) : R S0 8 xs = some a := RT Tryd.func8 hn h
theorem go9 (hn : xs.length = 2) (h : Ends S0 ⟨[.tmp 4], [0], ⟨[0, 0], false, false⟩, lookL [(0, [0, 1, 5]), (1, [1])]⟩ (.run (Tryd.f9.body.getD .skip) (ent xs) []) a) : R S0 9 xs = some a := RT Tryd.func9 hn h
theorem go10 (hn : xs.length = 1) (h : Ends S0 ⟨[.tmp 2], [0], ⟨[0], false, false⟩, lookL []⟩ (.run (Tryd.f10.body.getD .skip) (ent xs) []) a) : R S0 10 xs = some a := RT Tryd.func10 hn h
theorem go11 (hn : xs.length = 1) (h : Ends S0 ⟨[.tmp 2], [0], ⟨[0], false, false⟩, lookL [(2, [1, 3, 4, 5]), (3, [4])]⟩ (.run (Tryd.f11.body.getD .skip) (ent xs) []) a) : R S0 11 xs = some a := RT Tryd.func11 hn h
theorem go12 (hn : xs.length = 1) (h : Ends S0 ⟨[.tmp 2], [6], ⟨[0], false, false⟩, lookL [(0, [0, 3, 4]), (1, [3])]⟩ (.run (Tryd.f12.body.getD .skip) (ent xs) []) a) : R S0 12 xs = some a := RT Tryd.func12 hn h
theorem go13 (hn : xs.length = 1) (h : Ends S0 ⟨[.tmp 2], [0], ⟨[0], false, false⟩, lookL []⟩ (.run (Tryd.f13.body.getD .skip) (ent xs) []) a) : R S0 13 xs = some a := RT Tryd.func13 hn h
theorem go14 (hn : xs.length = 1) (h : Ends S0 ⟨[.tmp 2], [0], ⟨[0], false, false⟩, lookL [(0, [1, 3, 4, 15, 16, 17]), (1, [1, 3, 4])]⟩ (.run (Tryd.f14.body.getD .skip) (ent xs) []) a) : R S0 14 xs = some a := RT Tryd.func14 hn h
theorem go15 (hn : xs.length = 2) (h : Ends S0 ⟨[.tmp 4], [0], ⟨[0, 0], false, false⟩, lookL [(0, [0, 1, 5]), (1, [])]⟩ (.run (Tryd.f15.body.getD .skip) (ent xs) []) a) : R S0 15 xs = some a := RT Tryd.func15 hn h
theorem go16 (hn : xs.length = 2) (h : Ends S0 ⟨[.tmp 4], [0], ⟨[0, 0], false, false⟩, lookL [(0, [1, 2, 5, 6]), (1, [2, 5])]⟩ (.run (Tryd.f16.body.getD .skip) (ent xs) []) a) : R S0 16 xs = some a := RT Tryd.func16 hn h
theorem go17 (hn : xs.length = 1) (h : Ends S0 ⟨[.tmp 2], [0], ⟨[0], false, false⟩, lookL []⟩ (.run (Tryd.f17.body.getD .skip) (ent xs) []) a) : R S0 17 xs = some a := RT Tryd.func17 hn h
theorem go18 (hn : xs.length = 1) (h : Ends S0 ⟨[.tmp 2], [0], ⟨[0], false, false⟩, lookL []⟩ (.run (Tryd.f18.body.getD .skip) (ent xs) []) a) : R S0 18 xs = some a := RT Tryd.func18 hn h
theorem go19 (hn : xs.length = 2) (h : Ends S0 ⟨[.tmp 4], [0], ⟨[0, 0], false, false⟩, lookL [(2, [1, 183, 184, 185]), (3, [])]⟩ (.run (Tryd.f19.body.getD .skip) (ent xs) []) a) : R S0 19 xs = some a := RT Tryd.func19 hn h
theorem go22 (hn : xs.length = 1) (h : Ends S0 ⟨[.tmp 2], [0], ⟨[0], false, false⟩, lookL []⟩ (.run (Tryd.f22.body.getD .skip) (ent xs) []) a) : R S0 22 xs = some a := RT Tryd.func22 hn h
theorem go23 (hn : xs.length = 3) (h : Ends S0 ⟨[.tmp 6], [0], ⟨[0, 0, 0], false, false⟩, lookL []⟩ (.run (Tryd.f23.body.getD .skip) (ent xs) []) a) : R S0 23 xs = some a := RT Tryd.func23 hn h
theorem go24 (hn : xs.length = 1) (h : Ends S0 ⟨[.tmp 2], [0], ⟨[0], false, false⟩, lookL [(0, [0, 5, 6]), (1, [0])]⟩ (.run (Tryd.f24.body.getD .skip) (ent xs) []) a) : R S0 24 xs = some a := RT Tryd.func24 hn h
theorem go25 (hn : xs.length = 3) (h : Ends S0 ⟨[.tmp 6], [0], ⟨[0, 0, 0], false, false⟩, lookL [(0, [0, 1, 2, 7, 12, 13, 14]), (1, [0, 1, 2, 7])]⟩ (.run (Tryd.f25.body.getD .skip) (ent xs) []) a) : R S0 25 xs = some a := RT Tryd.func25 hn h
theorem go26 (hn : xs.length = 1) (h : Ends S0 ⟨[.tmp 2], [0], ⟨[0], false, false⟩, lookL []⟩ (.run (Tryd.f26.body.getD .skip) (ent xs) []) a) : R S0 26 xs = some a := RT Tryd.func26 hn h
theorem go27 (hn : xs.length = 1) (h : Ends S0 ⟨[.tmp 2], [0], ⟨[0], false, false⟩, lookL [(0, [0, 5, 6]), (1, [0])]⟩ (.run (Tryd.f27.body.getD .skip) (ent xs) []) a) : R S0 27 xs = some a := RT Tryd.func27 hn h
theorem go28 (hn : xs.length = 1) (h : Ends S0 ⟨[.tmp 2], [0], ⟨[0], false, false⟩, lookL [(0, [3, 8, 9, 10]), (1, [3])]⟩ (.run (Tryd.f28.body.getD .skip) (ent xs) []) a) : R S0 28 xs = some a := RT Tryd.func28 hn h
theorem go29 (hn : xs.length = 3) (h : Ends S0 ⟨[.tmp 6], [0], ⟨[0, 0, 0], false, false⟩, lookL []⟩ (.run (Tryd.f29.body.getD .skip) (ent xs) []) a) : R S0 29 xs = some a := RT Tryd.func29 hn h
theorem go34 (hn : xs.length = 1) (h : Ends S0 ⟨[.tmp 2], [0], ⟨[0], false, false⟩, lookL [(0, [0, 3]), (1, [0])]⟩ (.run (Tryd.f34.body.getD .skip) (ent xs) []) a) : R S0 34 xs = some a := RT Tryd.func34 hn h
theorem go35 (hn : xs.length = 1) (h : Ends S0 ⟨[.tmp 2], [0], ⟨[0], false, false⟩, lookL [(0, [0, 3, 4, 5]), (1, [0, 3, 4])]⟩ (.run (Tryd.f35.body.getD .skip) (ent xs) []) a) : R S0 35 xs = some a := RT Tryd.func35 hn h
theorem go36 (hn : xs.length = 1) (h : Ends S0 ⟨[.tmp 2], [0], ⟨[0], false, false⟩, lookL []⟩ (.run (Tryd.f36.body.getD .skip) (ent xs) []) a) : R S0 36 xs = some a := RT Tryd.func36 hn h
theorem go37 (hn : xs.length = 1) (h : Ends S0 ⟨[.tmp 2], [0], ⟨[0], false, false⟩, lookL [(0, [0, 3, 4]), (1, [3])]⟩ (.run (Tryd.f37.body.getD .skip) (ent xs) []) a) : R S0 37 xs = some a := RT Tryd.func37 hn h
theorem go38 (hn : xs.length = 1) (h : Ends S0 ⟨[.tmp 2], [0], ⟨[0], false, false⟩, lookL []⟩ (.run (Tryd.f38.body.getD .skip) (ent xs) []) a) : R S0 38 xs = some a := RT Tryd.func38 hn h
theorem go39 (hn : xs.length = 1) (h : Ends S0 ⟨[.tmp 2], [0], ⟨[0], false, false⟩, lookL []⟩ (.run (Tryd.f39.body.getD .skip) (ent xs) []) a) : R S0 39 xs = some a := RT Tryd.func39 hn h
theorem go40 (hn : xs.length = 2) (h : Ends S0 ⟨[.tmp 4], [1], ⟨[0, 0], true, true⟩, lookL []⟩ (.run (Tryd.f40.body.getD .skip) (ent xs) []) a) : R S0 40 xs = some a := RT Tryd.func40 hn h
theorem go41 (hn : xs.length = 2) (h : Ends S0 ⟨[.tmp 4], [0], ⟨[0, 0], false, false⟩, lookL []⟩ (.run (Tryd.f41.body.getD .skip) (ent xs) []) a) : R S0 41 xs = some a := RT Tryd.func41 hn h
theorem go42 (hn : xs.length = 1) (h : Ends S0 ⟨[.tmp 2], [0], ⟨[0], false, false⟩, lookL []⟩ (.run (Tryd.f42.body.getD .skip) (ent xs) []) a) : R S0 42 xs = some a := RT Tryd.func42 hn h
theorem go43 (hn : xs.length = 1) (h : Ends S0 ⟨[.tmp 2], [0], ⟨[0], false, false⟩, lookL []⟩ (.run (Tryd.f43.body.getD .skip) (ent xs) []) a) : R S0 43 xs = some a := RT Tryd.func43 hn h
theorem go47 (hn : xs.length = 1) (h : Ends S0 ⟨[.tmp 2], [3], ⟨[0], false, false⟩, lookL [(0, [0, 3, 4]), (1, [3]), (4, [0, 3, 4, 5]), (5, [0, 3, 4, 5])]⟩ (.run (Tryd.f47.body.getD .skip) (ent xs) []) a) : R S0 47 xs = some a := RT Tryd.func47 hn h
theorem go48 (hn : xs.length = 1) (h : Ends S0 ⟨[.tmp 2], [0], ⟨[0], false, false⟩, lookL [(0, [0, 3, 4]), (1, [])]⟩ (.run (Tryd.f48.body.getD .skip) (ent xs) []) a) : R S0 48 xs = some a := RT Tryd.func48 hn h
theorem go49 (hn : xs.length = 1) (h : Ends S0 ⟨[.tmp 2], [0], ⟨[0], false, false⟩, lookL []⟩ (.run (Tryd.f49.body.getD .skip) (ent xs) []) a) : R S0 49 xs = some a := RT Tryd.func49 hn h
theorem go50 (hn : xs.length = 4) (h : Ends S0 ⟨[.tmp 8], [1], ⟨[0, 0, 0, 0], true, true⟩, lookL [(0, [0, 1, 2, 3, 9, 10]), (1, [0, 9, 10])]⟩ (.run (Tryd.f50.body.getD .skip) (ent xs) []) a) : R S0 50 xs = some a := RT Tryd.func50 hn h
theorem go51 (hn : xs.length = 2) (h : Ends S0 ⟨[.tmp 4], [0], ⟨[0, 0], false, false⟩, lookL [(0, [0, 1, 7, 8]), (1, [])]⟩ (.run (Tryd.f51.body.getD .skip) (ent xs) []) a) : R S0 51 xs = some a := RT Tryd.func51 hn h
theorem go58 (hn : xs.length = 1) (h : Ends S0 ⟨[.tmp 2], [0], ⟨[0], false, false⟩, lookL []⟩ (.run (Tryd.f58.body.getD .skip) (ent xs) []) a) : R S0 58 xs = some a := RT Tryd.func58 hn h
theorem go61 (hn : xs.length = 2) (h : Ends S0 ⟨[.tmp 4], [0], ⟨[0, 0], false, false⟩, lookL []⟩ (.run (Tryd.f61.body.getD .skip) (ent xs) []) a) : R S0 61 xs = some a := RT Tryd.func61 hn h
end Go.Proofs.YtmanllfmgghadaaDoor.PVE
