/- Go's library at one-byte separators: strings.Count, strings.Index (the shelf's walks, turned to this seat), as pure contracts. -/
import Derived.Test.YtmanllfmgghadaaGreatDoorEG
import Derived.Test.YtmanllfmgghadaaGreatDoorChecked
import Derived.Lib.Strings
import Derived.Lib.Slices
import Derived.Lib.Walk
import Derived.Lib.Bytealg
set_option linter.unusedVariables false
set_option linter.unusedSimpArgs false
set_option linter.unusedSectionVars false
namespace Go.Proofs.YtmanllfmgghadaaGreatDoor.PVE
open PV
theorem pcalls_pure {P : Program} {G : Nat → Option (List PV)} {f : Nat} {args : List PV} {res : PV} {vs : List Value} {v : Value} {bks : List (Option PV)} (al : Bool) (hfn : FnOk P f) (hargs : ∀ w R us fp, Ts w R (fun _ => none) args us fp → us = vs ∧ fp = []) (hres : ∀ w R, V w R (fun _ => none) res v [])
    (hb : ∀ w R, Bs w R vs bks []) (h : ∀ w, Calls P f vs.toArray w fun e w' => e = .returned v ∧ w' = w) : PCalls P G f args bks res al := by
  refine ⟨hfn, ?_⟩
  intro w R us fp hG hts hnd hfp hRb
  obtain ⟨rfl, rfl⟩ := hargs w R us fp hts
  refine (h w).mono ?_
  rintro e w' ⟨rfl, rfl⟩
  exact ⟨v, R, [], [], rfl, hres _ _, hb _ _, List.nodup_nil, by simp, fun b hb => hb, fun b hb => ⟨hRb b hb, .inl hb⟩, fun _ _ _ => rfl, Nat.le_refl _, ⟨rfl, fun _ => Nat.le_refl _⟩, rfl, rfl⟩
theorem args2 {w : World} {R : Nat → Prop} {a b : PV} {u v : Value} (ha : ∀ x fp, V w R (fun _ => none) a x fp → x = u ∧ fp = []) (hb : ∀ x fp, V w R (fun _ => none) b x fp → x = v ∧ fp = []) : ∀ us fp, Ts w R (fun _ => none) [a, b] us fp → us = [u, v] ∧ fp = [] := by
  intro us fp h
  simp only [Ts] at h
  obtain ⟨x, us', f1, f2, rfl, h1, ⟨y, us'', f3, f4, rfl, h2, ⟨rfl, rfl⟩, rfl⟩, rfl⟩ := h
  obtain ⟨rfl, rfl⟩ := ha _ _ h1
  obtain ⟨rfl, rfl⟩ := hb _ _ h2
  exact ⟨rfl, rfl⟩
theorem argStr {w : World} {R : Nat → Prop} {s : List UInt8} : ∀ x fp, V w R (fun _ => none) (.str s) x fp → x = .string ⟨s.toArray⟩ ∧ fp = [] := fun x fp h => by simpa only [V] using h
set_option maxHeartbeats 1000000 in
set_option maxRecDepth 100000 in
theorem strings_Count_one (s : ByteArray) (c : UInt8) (w : World) :
    Calls Tryz.prog 277 #[.string s, .string ⟨#[c]⟩] w fun e w' => e = .returned (.int .i64 (Lib.countByte s.data.toList c)) ∧ w' = w := by
  go_enter Tryz.func277, Tryz.ntmps277
  go_wp2
  rw [run_callFunc_extern Tryz.func297 (by kernel_rfl) (by kernel_rfl) (by kernel_rfl) (e := Extern.BytealgCount.count) (by kernel_rfl), Lib.run_countString]
  simp only [Result.andThen]
  rw [Oper.upon_value]
  go_wp2
  go_ret
  exact ⟨rfl, rfl⟩
set_option maxHeartbeats 1000000 in
set_option maxRecDepth 100000 in
theorem stringslite_IndexByte (s : ByteArray) (c : Int) (w : World) :
    Calls Tryz.prog 298 #[.string s, .int .u8 c] w fun e w' => e = .returned (.int .i64 (Lib.indexByte s.data.toList c.toNat.toUInt8)) ∧ w' = w := by
  go_enter Tryz.func298, Tryz.ntmps298
  go_wp2
  rw [run_callFunc_extern Tryz.func319 (by kernel_rfl) (by kernel_rfl) (by kernel_rfl) (e := Extern.BytealgIndexByte.indexByte) (by kernel_rfl), Lib.run_indexByteString]
  simp only [Result.andThen]
  rw [Oper.upon_value]
  go_wp2
  go_ret
  exact ⟨rfl, rfl⟩
set_option maxHeartbeats 2000000 in
set_option maxRecDepth 100000 in
theorem stringslite_Index_one (s : ByteArray) (c : UInt8) (w : World) :
    Calls Tryz.prog 279 #[.string s, .string ⟨#[c]⟩] w fun e w' => e = .returned (.int .i64 (Lib.indexByte s.data.toList c)) ∧ w' = w := by
  go_enter Tryz.func279, Tryz.ntmps279
  go_wp2_with (go_at_call 298; refine (stringslite_IndexByte _ _ _).mono ?_; rintro e w' ⟨rfl, rfl⟩)
  · have h : ([c] == s.toList) = true := by assumption
    go_ret
    refine ⟨?_, rfl⟩
    have e : s.data.toList = [c] := by rw [← Lib.toList_data]; exact (beq_iff_eq.1 h).symm
    rw [e]
    simp [Lib.indexByte]
  · go_ret
    exact ⟨rfl, rfl⟩
def libIndex : List PV → Option Ans
  | [.str s, .str [c]] => some ⟨[none, none], .int .i64 (Lib.indexByte s c)⟩
  | _ => none
def libCount : List PV → Option Ans
  | [.str s, .str [c]] => some ⟨[none, none], .int .i64 (Lib.countByte s c)⟩
  | _ => none
theorem libCount_ok {G : Nat → Option (List PV)} {xs : List PV} {a : Ans} (h : libCount xs = some a) : PCalls Tryz.prog G 277 xs a.bks a.res false := by
  unfold libCount at h
  split at h
  case h_2 => cases h
  rename_i s c
  obtain rfl := Option.some.inj h
  exact pcalls_pure false ⟨_, Tryz.func277, by kernel_rfl, by kernel_rfl⟩ (fun w R => args2 argStr argStr) (v := .int .i64 (Lib.countByte s c)) (fun w R => by simp [V]) (fun w R => by simp [Bs]) (fun w => strings_Count_one ⟨s.toArray⟩ c w)
theorem libIndex_ok {G : Nat → Option (List PV)} {xs : List PV} {a : Ans} (h : libIndex xs = some a) : PCalls Tryz.prog G 279 xs a.bks a.res false := by
  unfold libIndex at h
  split at h
  case h_2 => cases h
  rename_i s c
  obtain rfl := Option.some.inj h
  exact pcalls_pure false ⟨_, Tryz.func279, by kernel_rfl, by kernel_rfl⟩ (fun w R => args2 argStr argStr) (v := .int .i64 (Lib.indexByte s c)) (fun w R => by simp [V]) (fun w R => by simp [Bs]) (fun w => stringslite_Index_one ⟨s.toArray⟩ c w)
end Go.Proofs.YtmanllfmgghadaaGreatDoor.PVE
