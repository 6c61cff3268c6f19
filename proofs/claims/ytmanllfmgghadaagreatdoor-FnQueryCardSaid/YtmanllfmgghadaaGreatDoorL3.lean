/- impl.number: a number is read as what its figures are. -/
import Derived.Test.YtmanllfmgghadaaGreatDoorL2
import Derived.Test.YtmanllfmgghadaaGreatDoorN1
import Derived.Lib.AtoiBound
import Derived.WalkKit
import Derived.BigCall
set_option linter.unusedVariables false
set_option linter.unusedSimpArgs false
set_option linter.unusedSectionVars false
namespace Go.Proofs.YtmanllfmgghadaaGreatDoor.PVE
open PV
open Go.RowKit Go.Lib
theorem bytesW_below (w : World) (t : ByteArray) : Below w.heap.size w (Lib.bytesWorld w 5 t) := Lib.bytesWorld_below _ _ _
theorem atoi_ok (s : ByteArray) (hs : s.size ≤ 1099511627776) (v : Int) (h : Lib.atoiAll s.data.toList = .ok v) (w : World) :
    Calls Tryz.prog 201 #[.string s] w fun e w' => e = .returned (.tuple #[.int .i64 v, .nilIface]) ∧ Below w.heap.size w w' := by
  refine (Tryz.strconv_Atoi_ok s (by omega) v h w).mono ?_
  rintro e w' ⟨rfl, hw⟩
  refine ⟨rfl, ?_⟩
  rcases hw with rfl | ⟨t, rfl⟩
  · exact Below.refl _ _
  · exact bytesW_below _ _
theorem atoi_no (s : ByteArray) (hs : s.size ≤ 1099511627776) (h : ∀ v, Lib.atoiAll s.data.toList ≠ .ok v) (w : World) {t1 t2 : TypeId} {v1 v2 : Value} (h1 : w.cell? ⟨1, 0, none⟩ = some (.iface t1 v1)) (h2 : w.cell? ⟨2, 0, none⟩ = some (.iface t2 v2)) :
    Calls Tryz.prog 201 #[.string s] w fun e w' => (∃ n t p, e = .returned (.tuple #[.int .i64 n, .iface t p])) ∧ Below w.heap.size w w' := by
  cases he : Lib.atoiAll s.data.toList
  · rename_i v
    exact absurd he (h v)
  · refine (Tryz.strconv_Atoi_syntax s (by omega) h (fun e => by rw [he] at e; cases e) _ w h1 (.inr ⟨_, _, rfl⟩)).mono ?_
    rintro e w' ⟨N, rfl, _, _, hb⟩
    exact ⟨⟨_, _, _, rfl⟩, hb⟩
  · refine (Tryz.strconv_Atoi_range s (by omega) he _ w h2 (.inr ⟨_, _, rfl⟩)).mono ?_
    rintro e w' ⟨N, rfl, _, _, hb⟩
    exact ⟨⟨_, _, _, rfl⟩, hb⟩
set_option maxRecDepth 100000 in
set_option maxHeartbeats 1000000 in
theorem within_C (n lo hi : Int) (w : World) : Calls Tryz.prog 122 #[.int .i64 n, .int .i64 lo, .int .i64 hi] w fun e w' => e = .returned (.bool (decide (lo ≤ n) && decide (n ≤ hi))) ∧ w' = w := by
  by_cases h1 : lo ≤ n
  · by_cases h2 : n ≤ hi
    · go_enter Tryz.func122, Tryz.ntmps122
      go_wp2
      go_ret
      simp [h1, h2]
    · go_enter Tryz.func122, Tryz.ntmps122
      go_wp2
      go_ret
      simp [h1, h2]
  · go_enter Tryz.func122, Tryz.ntmps122
    go_wp2
    go_ret
    refine ⟨?_, rfl⟩
    rw [decide_eq_false (show ¬ lo ≤ n by omega)]
    rfl
theorem itoa_B (n : Int) (h0 : -9223372036854775808 ≤ n) (h1 : n ≤ 9223372036854775807) (w : World) (htab : Lib.TabIs Tryz.prog w "internal/strconv.uint64pow10" .u64 Lib.pow10Tab) :
    Calls Tryz.prog 165 #[.int .i64 n] w fun e w' => e = .returned (.string ⟨(Lib.itoa n).toArray⟩) ∧ Below w.heap.size w w' := by
  refine (Tryz.strconv_Itoa n h0 h1 w htab).mono ?_
  rintro e w' ⟨rfl, k, os, rfl⟩
  exact ⟨rfl, grow_below w k os⟩
theorem tab_below' {P : Program} {w w' : World} {name : String} {k : IntKind} {zs : List Int} (h : Lib.TabIs P w name k zs) (hb : Below w.heap.size w w') : Lib.TabIs P w' name k zs := by
  unfold Lib.TabIs World.var? at *
  cases hg : P.globalNamed name with
  | none => rw [hg] at h; cases h
  | some g =>
    rw [hg] at h
    simp only [Option.bind_some] at h ⊢
    by_cases hlt : g < w.heap.size
    · rw [hb.block g hlt]; exact h
    · rw [Array.getElem?_eq_none (by omega)] at h; cases h
set_option maxRecDepth 100000 in
set_option maxHeartbeats 1000000 in
theorem number_C (s : ByteArray) (hs : s.size ≤ 1099511627776) (w : World) (htab : Lib.TabIs Tryz.prog w "internal/strconv.uint64pow10" .u64 Lib.pow10Tab) {t1 t2 : TypeId} {v1 v2 : Value} (h1 : w.cell? ⟨1, 0, none⟩ = some (.iface t1 v1)) (h2 : w.cell? ⟨2, 0, none⟩ = some (.iface t2 v2)) :
    Calls Tryz.prog 149 #[.string s] w fun e w' => e = .returned (.tuple #[.int .i64 (numI s.data.toList).1, .bool (numI s.data.toList).2]) ∧ Below w.heap.size w w' := by
  by_cases hok : ∃ v, Lib.atoiAll s.data.toList = .ok v
  · obtain ⟨v, hv⟩ := hok
    have hnum : numI s.data.toList = if -999999999 ≤ v ∧ v ≤ 999999999 ∧ Lib.itoa v = s.data.toList then (v, true) else (0, false) := by
      unfold numI; rw [hv]
    rw [hnum]
    by_cases hin : -999999999 ≤ v ∧ v ≤ 999999999
    · have hwi : ∀ w, Calls Tryz.prog 122 #[.int .i64 v, .int .i64 (-999999999), .int .i64 999999999] w fun e w' => e = .returned (.bool true) ∧ w' = w := fun w => by
        refine (within_C v _ _ w).mono ?_
        rintro e w' ⟨rfl, rfl⟩
        simp [hin]
      by_cases hit : Lib.itoa v = s.data.toList
      · rw [if_pos ⟨hin.1, hin.2, hit⟩]
        have hse : (⟨(Lib.itoa v).toArray⟩ : ByteArray) = s := by rw [hit]
        go_enter Tryz.func149, Tryz.ntmps149
        go_wp2_with (first | (go_at_call 201; refine (atoi_ok s hs v hv _).mono ?_; rintro e W1 ⟨rfl, hb1⟩) | (go_at_call 122; refine (hwi _).mono ?_; rintro e w' ⟨rfl, rfl⟩) | (go_at_call 165; refine (itoa_B v (by omega) (by omega) _ (tab_below' htab hb1)).mono ?_; rintro e W2 ⟨rfl, hb2⟩; (try rw [hse])))
        go_ret2
        exact ⟨rfl, hb1.trans (hb2.mono hb1.size)⟩
      · rw [if_neg (fun h => hit h.2.2)]
        have hse : (Lib.itoa v == s.toList) = false := by rw [Lib.toList_data]; simpa using hit
        go_enter Tryz.func149, Tryz.ntmps149
        go_wp2_with (first | (go_at_call 201; refine (atoi_ok s hs v hv _).mono ?_; rintro e W1 ⟨rfl, hb1⟩) | (go_at_call 122; refine (hwi _).mono ?_; rintro e w' ⟨rfl, rfl⟩) | (go_at_call 165; refine (itoa_B v (by omega) (by omega) _ (tab_below' htab hb1)).mono ?_; rintro e W2 ⟨rfl, hb2⟩))
        all_goals first | (go_ret2; exact ⟨rfl, hb1.trans (hb2.mono hb1.size)⟩) | (exfalso; simp_all)
    · rw [if_neg (fun h => hin ⟨h.1, h.2.1⟩)]
      have hwi : ∀ w, Calls Tryz.prog 122 #[.int .i64 v, .int .i64 (-999999999), .int .i64 999999999] w fun e w' => e = .returned (.bool false) ∧ w' = w := fun w => by
        refine (within_C v _ _ w).mono ?_
        rintro e w' ⟨rfl, rfl⟩
        refine ⟨?_, rfl⟩
        have : (decide (-999999999 ≤ v) && decide (v ≤ 999999999)) = false := by simpa using fun h => by omega
        rw [this]
      go_enter Tryz.func149, Tryz.ntmps149
      go_wp2_with (first | (go_at_call 201; refine (atoi_ok s hs v hv _).mono ?_; rintro e W1 ⟨rfl, hb1⟩) | (go_at_call 122; refine (hwi _).mono ?_; rintro e w' ⟨rfl, rfl⟩))
      go_ret2
      exact ⟨rfl, hb1⟩
  · have hno : ∀ v, Lib.atoiAll s.data.toList ≠ .ok v := fun v h => hok ⟨v, h⟩
    have hnum : numI s.data.toList = (0, false) := by
      unfold numI
      split
      · rename_i v hv; exact absurd hv (hno v)
      · rfl
    rw [hnum]
    go_enter Tryz.func149, Tryz.ntmps149
    go_wp2_with (go_at_call 201; refine (atoi_no s hs hno w h1 h2).mono ?_; rintro e W1 ⟨⟨n, t, p, rfl⟩, hb1⟩)
    go_ret2
    exact ⟨rfl, hb1⟩
def libNumber : List PV → Option Ans
  | [.str s] => if s.length ≤ 1099511627776 then some ⟨[none], .tup [.int .i64 (numI s).1, .bool (numI s).2]⟩ else none
  | _ => none
theorem ifc_of_glob {G : Nat → Option (List PV)} {w : World} {R : Nat → Prop} {g : Nat} (hG : GlobOk G w R) (h : G g = some [.ifc]) : ∃ t v, w.cell? ⟨g, 0, none⟩ = some (.iface t v) := by
  obtain ⟨hv, _⟩ := hG g _ h
  simp only [V, Cs] at hv
  obtain ⟨_, a, us, ha, _, hc, u, us', f1, f2, rfl, _, ⟨⟨t, v, rfl⟩, _⟩, _⟩ := hv
  simp only [Value.pointer.injEq, Option.some.injEq] at ha
  subst ha
  have := hc 0 _ rfl
  rw [add_lit'] at this
  exact ⟨t, v, this⟩
theorem libNumber_ok {G : Nat → Option (List PV)} {g : Nat} (hg : Tryz.prog.globalNamed "internal/strconv.uint64pow10" = some g) (hG0 : G g = some (Lib.pow10Tab.map (PV.int .u64))) (hG1 : G 1 = some [.ifc]) (hG2 : G 2 = some [.ifc]) {xs : List PV} {a : Ans} (h : libNumber xs = some a) : PCalls Tryz.prog G 149 xs a.bks a.res false := by
  unfold libNumber at h
  split at h
  case h_2 => cases h
  rename_i s
  split at h
  case isFalse => cases h
  rename_i hn
  obtain rfl := Option.some.inj h
  refine pcalls_below ⟨_, Tryz.func149, by kernel_rfl, by kernel_rfl⟩ (fun w R us fp hts => ?_) (fun w R us hl => ?_) ?_
  · simp only [Ts, V] at hts
    obtain ⟨u, us', f1, f2, rfl, ⟨_, rfl⟩, ⟨rfl, rfl⟩, rfl⟩ := hts
    rfl
  · match us, hl with
    | [a], _ => simp [Bs]
  · intro w R us hG hts hRb
    simp only [Ts, V] at hts
    obtain ⟨u, us', f1, f2, rfl, ⟨rfl, rfl⟩, ⟨rfl, rfl⟩, _⟩ := hts
    obtain ⟨t1, v1, h1⟩ := ifc_of_glob hG hG1
    obtain ⟨t2, v2, h2⟩ := ifc_of_glob hG hG2
    refine (number_C ⟨s.toArray⟩ (by simpa [ByteArray.size] using hn) w (tab_of_glob hG hg hG0) h1 h2).mono ?_
    rintro e w' ⟨rfl, bel⟩
    exact ⟨_, rfl, fun w R => by simp [V, Ts], bel⟩
end Go.Proofs.YtmanllfmgghadaaGreatDoor.PVE
