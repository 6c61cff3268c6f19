/- The PV engine, part 27: the run of the machine, by 'simp only [go_sem]'. -/
import Derived.Test.YtanbccpabgcmaaaGreatDoorE26
set_option linter.unusedVariables false
set_option linter.unusedSimpArgs false
set_option linter.unusedSectionVars false
namespace Go.Proofs.YtanbccpabgcmaaaGreatDoor.PVE
open PV

/-! ### Encodings of data as pure values -/
/-- A function that writes data as values of k cells, without handles. -/
class Enc {α : Type} (f : α → PV) (k : outParam Nat) : Prop where
  free : ∀ a, (f a).free
  okr : ∀ a, (f a).okr
  len : ∀ a, (f a).cells.length = k
/-- It shows no memory that is only read. -/
class EncN {α : Type} (f : α → PV) : Prop where
  noR : ∀ a, (f a).noR
/-- As it is when only read from then on. -/
class EncS {α : Type} (f : α → PV) (g : outParam (α → PV)) : Prop where
  strip : ∀ a, (f a).strip = g a
/-- A cell's value. -/
class EncC {α : Type} (f : α → PV) : Prop where
  cell : ∀ a, (f a).cells = [f a]
/-- It owns nothing. -/
class EncF {α : Type} (f : α → PV) : Prop where
  flat : ∀ a, (f a).flat = true
def bytePV (b : UInt8) : PV := .int .u8 b.toNat
instance : Enc PV.str 1 := ⟨fun _ => trivial, fun _ => trivial, fun _ => rfl⟩
instance {k : IntKind} : Enc (PV.int k) 1 := ⟨fun _ => trivial, fun _ => trivial, fun _ => rfl⟩
instance : Enc PV.bool 1 := ⟨fun _ => trivial, fun _ => trivial, fun _ => rfl⟩
instance : Enc bytePV 1 := ⟨fun _ => trivial, fun _ => trivial, fun _ => rfl⟩
instance : EncN PV.str := ⟨fun _ => trivial⟩
instance {k : IntKind} : EncN (PV.int k) := ⟨fun _ => trivial⟩
instance : EncN PV.bool := ⟨fun _ => trivial⟩
instance : EncN bytePV := ⟨fun _ => trivial⟩
instance : EncF PV.str := ⟨fun _ => rfl⟩
instance {k : IntKind} : EncF (PV.int k) := ⟨fun _ => rfl⟩
instance : EncF PV.bool := ⟨fun _ => rfl⟩
instance : EncF bytePV := ⟨fun _ => rfl⟩
instance : EncS PV.str PV.str := ⟨fun _ => rfl⟩
instance {k : IntKind} : EncS (PV.int k) (PV.int k) := ⟨fun _ => rfl⟩
instance : EncS PV.bool PV.bool := ⟨fun _ => rfl⟩
instance : EncS bytePV bytePV := ⟨fun _ => rfl⟩
section enc
variable {α : Type} {f g : α → PV} {k : Nat}
@[go_sem] theorem enc_freeL [Enc f k] : ∀ (l : List α), PV.freeL (l.map f) = True
  | [] => by simp [PV.freeL]
  | x :: l => by simp [PV.freeL, enc_freeL l, Enc.free x]
@[go_sem] theorem enc_noRL [EncN f] : ∀ (l : List α), PV.noRL (l.map f) = True
  | [] => by simp [PV.noRL]
  | x :: l => by simp [PV.noRL, enc_noRL l, EncN.noR x]
@[go_sem] theorem enc_stripL [EncS f g] : ∀ (l : List α), PV.stripL (l.map f) = l.map g
  | [] => rfl
  | x :: l => by simp only [List.map_cons, PV.stripL, enc_stripL l, EncS.strip x]
@[go_sem] theorem enc_allLen [Enc f k] (l : List α) : allLen k (l.map f) = True := by
  refine eq_true fun e he => ?_
  obtain ⟨x, _, rfl⟩ := List.mem_map.1 he
  exact Enc.len x
@[go_sem] theorem enc_flatL [EncF f] (l : List α) : flatL (l.map f) = True := by
  refine eq_true fun e he => ?_
  obtain ⟨x, _, rfl⟩ := List.mem_map.1 he
  exact EncF.flat x
@[go_sem] theorem drop_map (l : List α) (n : Nat) : (l.map f).drop n = (l.drop n).map f := by simp
@[go_sem] theorem take_map (l : List α) (n : Nat) : (l.map f).take n = (l.take n).map f := by simp
@[go_sem] theorem enc_free [Enc f k] (a : α) : (f a).free = True := eq_true (Enc.free a)
@[go_sem] theorem enc_okr [Enc f k] (a : α) : (f a).okr = True := eq_true (Enc.okr a)
@[go_sem] theorem enc_noR [EncN f] (a : α) : (f a).noR = True := eq_true (EncN.noR a)
@[go_sem] theorem enc_strip [EncS f g] (a : α) : (f a).strip = g a := EncS.strip a
@[go_sem] theorem enc_len [Enc f k] (a : α) : (f a).cells.length = k := Enc.len a
@[go_sem] theorem cut_map (l : List α) (a b : Int) : cut (l.map f) a b = (cut l a b).map f := by simp [cut, List.map_take, List.map_drop]
theorem enc_hands [Enc f k] : ∀ l : List α, handsL (l.map f) = handsL (l.map f) := fun _ => rfl
end enc
@[go_sem] theorem flatL_nil : flatL [] = True := by simp [flatL]
@[go_sem] theorem flatL_cons (e : PV) (es : List PV) : flatL (e :: es) = (e.flat = true ∧ flatL es) := by simp [flatL]
attribute [go_sem] PV.flat PV.flatC
@[go_sem] theorem bytes_back (l : List UInt8) : (l.map bytePV).map PV.toByte = l := by
  induction l with
  | nil => rfl
  | cons b l ih => simp only [List.map_cons, ih, bytePV, PV.toByte, Int.toNat_natCast, UInt8.ofNat_toNat]
@[go_sem] theorem bytes_are (l : List UInt8) : (∀ e ∈ l.map bytePV, e.isByte = true) = True := by
  refine eq_true fun e he => ?_
  obtain ⟨x, _, rfl⟩ := List.mem_map.1 he
  rfl
@[go_sem] theorem bytePV_cells (b : UInt8) : (bytePV b).cells = [.int .u8 b.toNat] := rfl

/-! ### States -/
def noT : Nat → PV := fun _ => .undef
def voidT : Nat → PV := fun t => if t < gBase then .void else .undef
def noS : Nat → Option Root := fun _ => none
@[go_sem] theorem noT_at {t : Nat} : noT t = .undef := rfl
@[go_sem] theorem voidT_at {t : Nat} : voidT t = if t < gBase then .void else .undef := rfl
@[go_sem] theorem gBase_eq : gBase = 1000000 := rfl
@[go_sem] theorem noS_at {t : Nat} : noS t = none := rfl
@[go_sem] theorem upd_at {α : Type} {f : Nat → α} {i : Nat} {x : α} {j : Nat} : upd f i x j = if j = i then x else f j := rfl
def tempsOf : List (Nat × PV) → (Nat → PV)
  | [] => noT
  | (t, v) :: ts => upd (tempsOf ts) t v
def storeFrom : Nat → List PV → (Nat → Option Root)
  | _, [] => noS
  | k, pv :: rs => upd (storeFrom (k + 1) rs) k (some ⟨pv, []⟩)
def argsFrom : Nat → List PV → (Nat → PV)
  | _, [] => voidT
  | k, pv :: vs => upd (argsFrom (k + 1) vs) k pv
attribute [go_sem] tempsOf storeFrom argsFrom
theorem tempsOf_at : ∀ (ts : List (Nat × PV)) (t : Nat), tempsOf ts t = (ts.lookup t).getD .undef
  | [], t => rfl
  | (k, v) :: ts, t => by
    simp only [tempsOf, upd_at, List.lookup_cons, tempsOf_at ts t]
    by_cases h : t = k
    · simp [h]
    · have : (t == k) = false := by simpa using h
      simp [h, this]
theorem storeFrom_at : ∀ (rs : List PV) (k r : Nat), storeFrom k rs r = if k ≤ r then (rs[r - k]?).map (fun pv => (⟨pv, []⟩ : Root)) else none
  | [], k, r => by simp [storeFrom, noS]
  | pv :: rs, k, r => by
    simp only [storeFrom, upd_at, storeFrom_at rs (k + 1) r]
    by_cases h : r = k
    · subst h; simp
    · by_cases h2 : k ≤ r
      · have h3 : k + 1 ≤ r := by omega
        simp only [h, if_false, h2, h3, if_true]
        have : r - k = (r - (k + 1)) + 1 := by omega
        rw [this, List.getElem?_cons_succ]
      · have h3 : ¬ k + 1 ≤ r := by omega
        simp [h, h2, h3]
/-- The arguments that are given back. -/
def ghostFrom (T : Nat → PV) : Nat → List PV → List PV → (Nat → PV)
  | k, a :: args, v :: vs => if isOwn a = true then upd (ghostFrom T (k + 1) args vs) (gBase + k) v else ghostFrom T (k + 1) args vs
  | _, _, _ => T
attribute [go_sem] ghostFrom isOwn PV.isSlo
theorem argsFrom_at : ∀ (vs : List PV) (k t : Nat), argsFrom k vs t = if k ≤ t ∧ t - k < vs.length then (vs[t - k]?).getD .void else voidT t
  | [], k, r => by simp [argsFrom]
  | pv :: rs, k, r => by
    simp only [argsFrom, upd_at, argsFrom_at rs (k + 1) r]
    by_cases h : r = k
    · subst h; simp
    · by_cases h2 : k ≤ r
      · have h3 : k + 1 ≤ r := by omega
        have : r - k = (r - (k + 1)) + 1 := by omega
        simp only [h, if_false, h2, h3, true_and, this, List.getElem?_cons_succ, List.length_cons, Nat.add_lt_add_iff_right]
      · have h3 : ¬ k + 1 ≤ r := by omega
        simp [h, h2, h3]
theorem ghostFrom_at (T : Nat → PV) : ∀ (args vs : List PV) (k t : Nat), args.length = vs.length → ghostFrom T k args vs t = if gBase + k ≤ t ∧ ((args[t - (gBase + k)]?).any isOwn) = true then (vs[t - (gBase + k)]?).getD .undef else T t
  | [], vs, k, t, hl => by
    cases vs with
    | nil => simp [ghostFrom]
    | cons v vs => simp at hl
  | a :: args, [], k, t, hl => by simp at hl
  | a :: args, v :: vs, k, t, hl => by
    have ih := ghostFrom_at T args vs (k + 1) t (by simpa using hl)
    by_cases h : t = gBase + k
    · subst h
      have h2 : ¬ gBase + (k + 1) ≤ gBase + k := by omega
      simp only [h2, false_and, if_false] at ih
      simp only [ghostFrom]
      by_cases ha : isOwn a = true
      · simp [ha, upd_at]
      · simp [ha, ih]
    · have h5 : ghostFrom T k (a :: args) (v :: vs) t = ghostFrom T (k + 1) args vs t := by
        simp only [ghostFrom]
        split
        · simp [upd_at, h]
        · rfl
      rw [h5, ih]
      by_cases h2 : gBase + k ≤ t
      · have h3 : gBase + (k + 1) ≤ t := by omega
        have : t - (gBase + k) = (t - (gBase + (k + 1))) + 1 := by omega
        simp only [h2, h3, true_and, this, List.getElem?_cons_succ]
      · have h3 : ¬ gBase + (k + 1) ≤ t := by omega
        simp [h2, h3]
theorem mkSt_eq {ts : List (Nat × PV)} {rs : List PV} : mkSt ts rs = ⟨tempsOf ts, storeFrom 0 rs, rs.length⟩ := by
  unfold mkSt
  congr 1
  · funext t; rw [tempsOf_at]
  · funext r; rw [storeFrom_at]; simp
theorem entry_eq {args : List PV} (hlen : args.length ≤ gBase) : entry args = ⟨ghostFrom (argsFrom 0 (impL args 0).1) 0 args (impL args 0).1, storeFrom 0 ((impL args 0).2.map (·.2)), (impL args 0).2.length⟩ := by
  unfold entry
  congr 1
  · funext t
    rw [ghostFrom_at _ _ _ _ _ (impL_len args 0).symm, argsFrom_at]
    simp only [Nat.add_zero, Nat.sub_zero, Nat.zero_le, true_and]
    by_cases h : t < gBase
    · have h2 : ¬ gBase ≤ t := by omega
      simp only [h, if_true, h2, false_and, if_false]
      split
      · rfl
      · rename_i h3
        rw [List.getElem?_eq_none (by omega)]
        simp [voidT, h]
    · have h2 : gBase ≤ t := by omega
      simp only [h, if_false, h2, true_and]
      split
      · rfl
      · rename_i h4
        split
        · rename_i h3
          rw [impL_len] at h3
          omega
        · simp [voidT, h]
  · funext r; rw [storeFrom_at]; simp [List.getElem?_map]; rfl

@[go_sem] theorem applyS_nil {S : Nat → Option Root} : applyStore S [] [] = S := rfl
@[go_sem] theorem applyS_rem {S : Nat → Option Root} {r : Nat} {rem : List Nat} {add : List (Nat × Root)} : applyStore S (r :: rem) add = applyStore (upd S r none) rem add := rfl
@[go_sem] theorem applyS_add {S : Nat → Option Root} {r : Nat} {x : Root} {add : List (Nat × Root)} : applyStore S [] ((r, x) :: add) = applyStore (upd S r (some x)) [] add := rfl
section
variable {E : Env} {st : St}
@[go_sem] theorem ev_tmp {T : Nat → PV} {S : Nat → Option Root} {N t : Nat} : ev E ⟨T, S, N⟩ (.tmp t) = if t < gBase then T t else .undef := rfl
@[go_sem] theorem ev_const {v : Value} : ev E st (.const v) = constPV v := rfl
@[go_sem] theorem ev_func {f : Nat} : ev E st (.func f) = .fn f [] := rfl
@[go_sem] theorem ev_global {g : Nat} : ev E st (.global g) = (match E.G g with
    | some cs => .pro cs
    | none => .undef) := rfl
@[go_sem] theorem constPV_bool {b : Bool} : constPV (.bool b) = .bool b := rfl
@[go_sem] theorem constPV_int {k : IntKind} {i : Int} : constPV (.int k i) = .int k i := rfl
@[go_sem] theorem constPV_str {a : Array UInt8} : constPV (.string ⟨a⟩) = .str a.toList := rfl
@[go_sem] theorem leafPV_str {a : Array UInt8} : leafPV (.string ⟨a⟩) = .str a.toList := rfl
@[go_sem] theorem constPV_nil : constPV (.slice none 0 0) = .nilS := rfl
@[go_sem] theorem constPV_agg {cs : Array Value} : constPV (.agg cs) = if cs.toList.all (·.oneCell') then .agg (cs.toList.map leafPV) else .undef := rfl
@[go_sem] theorem leafPV_bool {b : Bool} : leafPV (.bool b) = .bool b := rfl
@[go_sem] theorem leafPV_int {k : IntKind} {i : Int} : leafPV (.int k i) = .int k i := rfl
@[go_sem] theorem leafPV_nil : leafPV (.slice none 0 0) = .slo 0 [] := rfl
end

/-! ### The predicate over the machine -/
section
variable (S : Sys) (F : Fx)
def effE (x : Option (Prop × Eff)) (d : Option Nat) (all : Array Oper) (l : List Oper) (st : St) (ks : List Fr) (r : Ans) : Prop := match x with
  | some (p, e) => p ∧ Ends S F (.ops all l (st.app d e) ks) r
  | none => False
def effD (x : Option (Prop × Eff)) (o : Op) (d : Option Nat) (all : Array Oper) (i : Nat) (l : List Oper) (log : List (Nat × List Nat × List Nat)) (st : St) (ks : List Fr) (r : Ans) : Prop := match x with
  | some (p, e) => p ∧ Ends S F (.dops all (i + 1) l (addLog i (touchOp S.E st o) e.W log) (st.app d e) ks) r
  | none => False
def grdV (v : PV) (t : Nat) (j : Nat) (w : Bool) (o : Oper) (all : Array Oper) (l : List Oper) (st : St) (ks : List Fr) (r : Ans) : Prop := v = ev S.E st (.tmp t) ∧ match v with
  | .bool b => if b = w then effE S F (opR (R S) S.E st o.op) o.dst all l st ks r else Ends S F (.ops all l (st.skip o.dst) ks) r
  | .void => Ends S F (.ops all l (st.skip o.dst) ks) r
  | _ => False
def grdE (x : Option Nat) (j : Nat) (w : Bool) (o : Oper) (all : Array Oper) (l : List Oper) (st : St) (ks : List Fr) (r : Ans) : Prop := x = dstAt all j ∧ match x with
  | some t => grdV S F (ev S.E st (.tmp t)) t j w o all l st ks r
  | none => False
def grdVD (v : PV) (t : Nat) (j : Nat) (w : Bool) (o : Oper) (all : Array Oper) (i : Nat) (l : List Oper) (log : List (Nat × List Nat × List Nat)) (st : St) (ks : List Fr) (r : Ans) : Prop := v = ev S.E st (.tmp t) ∧ match v with
  | .bool b => if b = w then effD S F (opR (R S) S.E st o.op) o.op o.dst all i l log st ks r else Ends S F (.dops all (i + 1) l log (st.skip o.dst) ks) r
  | .void => Ends S F (.dops all (i + 1) l log (st.skip o.dst) ks) r
  | _ => False
def grdED (x : Option Nat) (j : Nat) (w : Bool) (o : Oper) (all : Array Oper) (i : Nat) (l : List Oper) (log : List (Nat × List Nat × List Nat)) (st : St) (ks : List Fr) (r : Ans) : Prop := x = dstAt all j ∧ match x with
  | some t => grdVD S F (ev S.E st (.tmp t)) t j w o all i l log st ks r
  | none => False
def condE (v : PV) (a b : Code) (st : St) (ks : List Fr) (r : Ans) : Prop := match v with
  | .bool t => if t = true then Ends S F (.run a st ks) r else Ends S F (.run b st ks) r
  | _ => False
def cutE (x : Option (Prop × St)) (c : Code) (ks : List Fr) (r : Ans) : Prop := match x with
  | some (p, s) => p ∧ Ends S F (.head c s ks) r
  | none => False
def cutB (x : Option (Prop × St)) (ks : List Fr) (r : Ans) : Prop := match x with
  | some (p, s) => p ∧ Ends S F (.back s ks) r
  | none => False
def entE (x : Option (List Nat)) (c : Code) (st : St) (ks : List Fr) (r : Ans) : Prop := match x with
  | some L => cutE S F (cutS L st) c ks r
  | none => False
def outE (x : Option (List Nat)) (st : St) (ks : List Fr) (r : Ans) : Prop := match x with
  | some L => cutB S F (cutS L st) ks r
  | none => Ends S F (.back st ks) r
def finE (x : Option (Prop × Ans)) (r : Ans) : Prop := match x with
  | some (p, b) => p ∧ b = r
  | none => False
end
section
variable {S : Sys} {F : Fx} {st : St} {ks : List Fr} {r : Ans} {all : Array Oper} {l : List Oper} {i : Nat} {log : List (Nat × List Nat × List Nat)} {o : Oper}
theorem effE_congr {x x' : Option (Prop × Eff)} {d : Option Nat} (h : x = x') : effE S F x d all l st ks r = effE S F x' d all l st ks r := by rw [h]
theorem effD_congr {x x' : Option (Prop × Eff)} {op : Op} {d : Option Nat} (h : x = x') : effD S F x op d all i l log st ks r = effD S F x' op d all i l log st ks r := by rw [h]
theorem grdV_congr {v v' : PV} {t j : Nat} {w : Bool} (h : v = v') : grdV S F v t j w o all l st ks r = grdV S F v' t j w o all l st ks r := by rw [h]
theorem grdE_congr {x x' : Option Nat} {j : Nat} {w : Bool} (h : x = x') : grdE S F x j w o all l st ks r = grdE S F x' j w o all l st ks r := by rw [h]
theorem grdVD_congr {v v' : PV} {t j : Nat} {w : Bool} (h : v = v') : grdVD S F v t j w o all i l log st ks r = grdVD S F v' t j w o all i l log st ks r := by rw [h]
theorem grdED_congr {x x' : Option Nat} {j : Nat} {w : Bool} (h : x = x') : grdED S F x j w o all i l log st ks r = grdED S F x' j w o all i l log st ks r := by rw [h]
theorem condE_congr {v v' : PV} {a b : Code} (h : v = v') : condE S F v a b st ks r = condE S F v' a b st ks r := by rw [h]
theorem cutE_congr {x x' : Option (Prop × St)} {c : Code} (h : x = x') : cutE S F x c ks r = cutE S F x' c ks r := by rw [h]
theorem cutB_congr {x x' : Option (Prop × St)} (h : x = x') : cutB S F x ks r = cutB S F x' ks r := by rw [h]
theorem entE_congr {x x' : Option (List Nat)} {c : Code} (h : x = x') : entE S F x c st ks r = entE S F x' c st ks r := by rw [h]
theorem outE_congr {x x' : Option (List Nat)} (h : x = x') : outE S F x st ks r = outE S F x' st ks r := by rw [h]
theorem finE_congr {x x' : Option (Prop × Ans)} (h : x = x') : finE x r = finE x' r := by rw [h]
attribute [congr] effE_congr effD_congr grdV_congr grdE_congr grdVD_congr grdED_congr condE_congr cutE_congr cutB_congr entE_congr outE_congr finE_congr

theorem goes_ifP' {α : Type} {x : Option (Prop × α)} {K : α → Option (Conf ⊕ Ans)} : goes S F (ifP x K) r = (match x with
    | some (p, e) => p ∧ goes S F (K e) r
    | none => False) := by
  refine propext ?_
  rw [goes_ifP]
  cases x with
  | none => simp
  | some y =>
    obtain ⟨p, e⟩ := y
    simp only [Option.some.injEq, Prod.mk.injEq]
    constructor
    · rintro ⟨p', e', ⟨rfl, rfl⟩, h⟩; exact h
    · intro h; exact ⟨p, e, ⟨rfl, rfl⟩, h⟩
theorem ends_eq {c : Conf} : Ends S F c r = goes S F (step (R S) S.E F c) r := propext ends_iff
theorem go_skip : Ends S F (.run .skip st ks) r = Ends S F (.back st ks) r := by rw [ends_eq]; rfl
theorem go_region {id : Nat} {ops : Array Oper} : Ends S F (.run (.region id ops false) st ks) r = Ends S F (.ops ops ops.toList st ks) r := by rw [ends_eq]; rfl
theorem go_draw {id : Nat} {ops : Array Oper} : Ends S F (.run (.region id ops true) st ks) r = Ends S F (.dops ops 0 ops.toList [] st ks) r := by rw [ends_eq]; rfl
theorem go_seq {a b : Code} : Ends S F (.run (.seq a b) st ks) r = Ends S F (.run a st (.seq b :: ks)) r := by rw [ends_eq]; rfl
theorem go_block {id : Nat} {c : Code} : Ends S F (.run (.block id c) st ks) r = Ends S F (.run c st (.blk id :: ks)) r := by rw [ends_eq]; rfl
theorem go_exit {id : Nat} : Ends S F (.run (.exit id) st ks) r = Ends S F (.exit id st ks) r := by rw [ends_eq]; rfl
theorem go_ret : Ends S F (.run .ret st ks) r = finE (finR S.E F st) r := by
  rw [ends_eq]
  show goes S F (finish S.E F st) r = _
  unfold finish
  rw [goes_ifP']
  rcases finR S.E F st with _ | ⟨p, b⟩ <;> rfl
theorem go_back : Ends S F (.back st []) r = finE (finR S.E F st) r := by
  rw [ends_eq]
  show goes S F (finish S.E F st) r = _
  unfold finish
  rw [goes_ifP']
  rcases finR S.E F st with _ | ⟨p, b⟩ <;> rfl
theorem go_back_seq {c : Code} : Ends S F (.back st (.seq c :: ks)) r = Ends S F (.run c st ks) r := by rw [ends_eq]; rfl
theorem go_back_blk {id : Nat} : Ends S F (.back st (.blk id :: ks)) r = Ends S F (.back st ks) r := by rw [ends_eq]; rfl
theorem enter_eq {c : Code} : goes S F (enter F c st ks) r = entE S F (F.L (loopKey ks)) c st ks r := by
  unfold enter entE
  cases F.L (loopKey ks) with
  | none => rfl
  | some L =>
    simp only [goes_ifP', cutE]
    rcases cutS L st with _ | ⟨p, s⟩ <;> rfl
theorem go_loop {c : Code} : Ends S F (.run (.loop c) st ks) r = entE S F (F.L (loopKey ks)) c st ks r := by rw [ends_eq]; exact enter_eq
theorem go_back_loop {c : Code} : Ends S F (.back st (.loop c :: ks)) r = entE S F (F.L (loopKey ks)) c st ks r := by rw [ends_eq]; exact enter_eq
theorem go_head {c : Code} : Ends S F (.head c st ks) r = Ends S F (.run c st (.loop c :: ks)) r := by rw [ends_eq]; rfl
theorem go_exit_seq {id : Nat} {c : Code} : Ends S F (.exit id st (.seq c :: ks)) r = Ends S F (.exit id st ks) r := by rw [ends_eq]; rfl
theorem go_exit_loop {id : Nat} {c : Code} : Ends S F (.exit id st (.loop c :: ks)) r = Ends S F (.exit id st ks) r := by rw [ends_eq]; rfl
theorem go_exit_blk {id j : Nat} : Ends S F (.exit id st (.blk j :: ks)) r = if j = id then outE S F (F.L (2 * id + 1)) st ks r else Ends S F (.exit id st ks) r := by
  rw [ends_eq]
  show goes S F (if j = id then _ else _) r = _
  by_cases h : j = id
  · simp only [h, if_true]
    unfold outE
    cases F.L (2 * id + 1) with
    | none => rfl
    | some L =>
      simp only [goes_ifP', cutB]
      rcases cutS L st with _ | ⟨p, s⟩ <;> rfl
  · simp only [h, if_false]; rfl
theorem go_cond {c : Operand} {a b : Code} : Ends S F (.run (.cond c a b) st ks) r = condE S F (ev S.E st c) a b st ks r := by
  rw [ends_eq]
  simp only [step, condE]
  cases ev S.E st c with
  | bool t => cases t <;> simp [goes]
  | _ => rfl
theorem go_ops_nil : Ends S F (.ops all [] st ks) r = Ends S F (.back st ks) r := by rw [ends_eq]; rfl
theorem go_dops_nil : Ends S F (.dops all i [] log st ks) r = (logOk all log = true ∧ Ends S F (.back st ks) r) := by
  rw [ends_eq]
  simp only [step]
  by_cases h : logOk all log = true
  · simp [h, goes]
  · simp [h, goes]
theorem go_op {d : Option Nat} {op : Op} {ty : Nat} {ps : String} {af : Array Edge} : Ends S F (.ops all (⟨d, op, ty, ps, af, none⟩ :: l) st ks) r = effE S F (opR (R S) S.E st op) d all l st ks r := by
  rw [ends_eq]
  simp only [step, runO, goes_ifP', effE]
  rcases opR (R S) S.E st op with _ | ⟨p, e⟩ <;> rfl
theorem go_dop {d : Option Nat} {op : Op} {ty : Nat} {ps : String} {af : Array Edge} : Ends S F (.dops all i (⟨d, op, ty, ps, af, none⟩ :: l) log st ks) r = effD S F (opR (R S) S.E st op) op d all i l log st ks r := by
  rw [ends_eq]
  simp only [step, runD, goes_ifP', effD]
  rcases opR (R S) S.E st op with _ | ⟨p, e⟩ <;> rfl
theorem go_opg {d : Option Nat} {op : Op} {ty : Nat} {ps : String} {af : Array Edge} {j : Nat} {w : Bool} : Ends S F (.ops all (⟨d, op, ty, ps, af, some (j, w)⟩ :: l) st ks) r = grdE S F (dstAt all j) j w ⟨d, op, ty, ps, af, some (j, w)⟩ all l st ks r := by
  rw [ends_eq]
  simp only [step, grdE, true_and]
  cases hd : dstAt all j with
  | none => rfl
  | some t =>
    simp only [grdV, true_and]
    cases hv : ev S.E st (.tmp t) with
    | bool b =>
      by_cases hbw : b = w
      · simp only [hbw, if_true]
        rw [setT_same (by rw [← hbw]; exact ev_bool hv)]
        simp only [runO, goes_ifP', effE]
        rcases opR (R S) S.E st op with _ | ⟨p, e⟩ <;> rfl
      · have hbw' : b = !w := by cases b <;> cases w <;> simp_all
        simp only [hbw, if_false]
        rw [setT_same (by rw [← hbw']; exact ev_bool hv)]
        rfl
    | _ => rfl
theorem go_dopg {d : Option Nat} {op : Op} {ty : Nat} {ps : String} {af : Array Edge} {j : Nat} {w : Bool} : Ends S F (.dops all i (⟨d, op, ty, ps, af, some (j, w)⟩ :: l) log st ks) r = grdED S F (dstAt all j) j w ⟨d, op, ty, ps, af, some (j, w)⟩ all i l log st ks r := by
  rw [ends_eq]
  simp only [step, grdED, true_and]
  cases hd : dstAt all j with
  | none => rfl
  | some t =>
    simp only [grdVD, true_and]
    cases hv : ev S.E st (.tmp t) with
    | bool b =>
      by_cases hbw : b = w
      · simp only [hbw, if_true]
        rw [setT_same (by rw [← hbw]; exact ev_bool hv)]
        simp only [runD, goes_ifP', effD]
        rcases opR (R S) S.E st op with _ | ⟨p, e⟩ <;> rfl
      · have hbw' : b = !w := by cases b <;> cases w <;> simp_all
        simp only [hbw, if_false]
        rw [setT_same (by rw [← hbw']; exact ev_bool hv)]
        rfl
    | _ => rfl
theorem go_mkSt {c : Code} {ts : List (Nat × PV)} {rs : List PV} : Ends S F (.run c (mkSt ts rs) ks) r = Ends S F (.run c ⟨tempsOf ts, storeFrom 0 rs, rs.length⟩ ks) r := by rw [mkSt_eq]
theorem go_mkSt_back {ts : List (Nat × PV)} {rs : List PV} : Ends S F (.back (mkSt ts rs) ks) r = Ends S F (.back ⟨tempsOf ts, storeFrom 0 rs, rs.length⟩ ks) r := by rw [mkSt_eq]
attribute [go_sem ↓] go_skip go_region go_draw go_seq go_block go_exit go_ret go_back go_back_seq go_back_blk go_loop go_back_loop go_exit_seq go_exit_loop go_exit_blk go_cond go_ops_nil go_dops_nil go_op go_dop go_opg go_dopg go_mkSt go_mkSt_back

/-! ### What follows an operation -/
variable {T : Nat → PV} {St' : Nat → Option Root} {N : Nat} {p : Prop} {v : PV} {rem : List Nat} {add : List (Nat × Root)} {nx d : Nat}
@[go_sem] theorem effE_val : effE S F (some (p, ⟨v, [], [], nx⟩)) (some d) all l ⟨T, St', N⟩ ks r = (p ∧ Ends S F (.ops all l ⟨upd T d v, St', nx⟩ ks) r) := rfl
@[go_sem] theorem effE_val0 : effE S F (some (p, ⟨v, [], [], nx⟩)) none all l ⟨T, St', N⟩ ks r = (p ∧ Ends S F (.ops all l ⟨T, St', nx⟩ ks) r) := rfl
@[go_sem low] theorem effE_some : effE S F (some (p, ⟨v, rem, add, nx⟩)) (some d) all l ⟨T, St', N⟩ ks r = (p ∧ Ends S F (.ops all l ⟨upd T d v, applyStore St' rem add, nx⟩ ks) r) := rfl
@[go_sem low] theorem effE_some0 : effE S F (some (p, ⟨v, rem, add, nx⟩)) none all l ⟨T, St', N⟩ ks r = (p ∧ Ends S F (.ops all l ⟨T, applyStore St' rem add, nx⟩ ks) r) := rfl
@[go_sem] theorem effE_none {d : Option Nat} : effE S F none d all l st ks r = False := rfl
@[go_sem] theorem effE_ite {c : Prop} [Decidable c] {x : Option (Prop × Eff)} {d : Option Nat} : effE S F (if c then x else none) d all l st ks r = (c ∧ effE S F x d all l st ks r) := by
  by_cases h : c <;> simp [effE, h]
@[go_sem] theorem effD_val {op : Op} : effD S F (some (p, ⟨v, [], [], nx⟩)) op (some d) all i l log ⟨T, St', N⟩ ks r = (p ∧ Ends S F (.dops all (i + 1) l (addLog i (touchOp S.E ⟨T, St', N⟩ op) [] log) ⟨upd T d v, St', nx⟩ ks) r) := rfl
@[go_sem low] theorem effD_some {op : Op} : effD S F (some (p, ⟨v, rem, add, nx⟩)) op (some d) all i l log ⟨T, St', N⟩ ks r = (p ∧ Ends S F (.dops all (i + 1) l (addLog i (touchOp S.E ⟨T, St', N⟩ op) (rem ++ add.map (·.1)) log) ⟨upd T d v, applyStore St' rem add, nx⟩ ks) r) := rfl
@[go_sem low] theorem effD_some0 {op : Op} : effD S F (some (p, ⟨v, rem, add, nx⟩)) op none all i l log ⟨T, St', N⟩ ks r = (p ∧ Ends S F (.dops all (i + 1) l (addLog i (touchOp S.E ⟨T, St', N⟩ op) (rem ++ add.map (·.1)) log) ⟨T, applyStore St' rem add, nx⟩ ks) r) := rfl
@[go_sem] theorem effD_none {op : Op} {d : Option Nat} : effD S F none op d all i l log st ks r = False := rfl
@[go_sem] theorem effD_ite {c : Prop} [Decidable c] {x : Option (Prop × Eff)} {op : Op} {d : Option Nat} : effD S F (if c then x else none) op d all i l log st ks r = (c ∧ effD S F x op d all i l log st ks r) := by
  by_cases h : c <;> simp [effD, h]
theorem skip_some : St.skip ⟨T, St', N⟩ (some d) = ⟨upd T d .void, St', N⟩ := rfl
theorem skip_none : St.skip ⟨T, St', N⟩ none = ⟨T, St', N⟩ := rfl
theorem setT_st : St.setT ⟨T, St', N⟩ d v = ⟨upd T d v, St', N⟩ := rfl
@[go_sem] theorem grdE_some {t j : Nat} {w : Bool} : grdE S F (some t) j w o all l st ks r = (some t = dstAt all j ∧ grdV S F (ev S.E st (.tmp t)) t j w o all l st ks r) := rfl
@[go_sem] theorem grdED_some {t j : Nat} {w : Bool} : grdED S F (some t) j w o all i l log st ks r = (some t = dstAt all j ∧ grdVD S F (ev S.E st (.tmp t)) t j w o all i l log st ks r) := rfl
variable {dd : Option Nat} {op : Op} {ty : Nat} {ps : String} {af : Array Edge} {gg : Option (Nat × Bool)}
@[go_sem] theorem grdV_tt {t j : Nat} : grdV S F (.bool true) t j true ⟨dd, op, ty, ps, af, gg⟩ all l st ks r = (.bool true = ev S.E st (.tmp t) ∧ effE S F (opR (R S) S.E st op) dd all l st ks r) := by simp [grdV]
@[go_sem] theorem grdV_ff {t j : Nat} : grdV S F (.bool false) t j false ⟨dd, op, ty, ps, af, gg⟩ all l st ks r = (.bool false = ev S.E st (.tmp t) ∧ effE S F (opR (R S) S.E st op) dd all l st ks r) := by simp [grdV]
@[go_sem] theorem grdV_tf {t j : Nat} : grdV S F (.bool true) t j false ⟨some d, op, ty, ps, af, gg⟩ all l ⟨T, St', N⟩ ks r = (.bool true = ev S.E ⟨T, St', N⟩ (.tmp t) ∧ Ends S F (.ops all l ⟨upd T d .void, St', N⟩ ks) r) := by simp [grdV, skip_some]
@[go_sem] theorem grdV_ft {t j : Nat} : grdV S F (.bool false) t j true ⟨some d, op, ty, ps, af, gg⟩ all l ⟨T, St', N⟩ ks r = (.bool false = ev S.E ⟨T, St', N⟩ (.tmp t) ∧ Ends S F (.ops all l ⟨upd T d .void, St', N⟩ ks) r) := by simp [grdV, skip_some]
@[go_sem] theorem grdV_tf0 {t j : Nat} : grdV S F (.bool true) t j false ⟨none, op, ty, ps, af, gg⟩ all l ⟨T, St', N⟩ ks r = (.bool true = ev S.E ⟨T, St', N⟩ (.tmp t) ∧ Ends S F (.ops all l ⟨T, St', N⟩ ks) r) := by simp [grdV, skip_none]
@[go_sem] theorem grdV_ft0 {t j : Nat} : grdV S F (.bool false) t j true ⟨none, op, ty, ps, af, gg⟩ all l ⟨T, St', N⟩ ks r = (.bool false = ev S.E ⟨T, St', N⟩ (.tmp t) ∧ Ends S F (.ops all l ⟨T, St', N⟩ ks) r) := by simp [grdV, skip_none]
@[go_sem] theorem grdV_void {t j : Nat} {w : Bool} : grdV S F .void t j w ⟨some d, op, ty, ps, af, gg⟩ all l ⟨T, St', N⟩ ks r = (.void = ev S.E ⟨T, St', N⟩ (.tmp t) ∧ Ends S F (.ops all l ⟨upd T d .void, St', N⟩ ks) r) := by simp [grdV, skip_some]
@[go_sem] theorem grdV_void0 {t j : Nat} {w : Bool} : grdV S F .void t j w ⟨none, op, ty, ps, af, gg⟩ all l ⟨T, St', N⟩ ks r = (.void = ev S.E ⟨T, St', N⟩ (.tmp t) ∧ Ends S F (.ops all l ⟨T, St', N⟩ ks) r) := by simp [grdV, skip_none]
/-- A choice that is not made yet. -/
theorem grdV_sym {t j : Nat} {w b : Bool} : grdV S F (.bool b) t j w ⟨dd, op, ty, ps, af, gg⟩ all l ⟨T, St', N⟩ ks r = (.bool b = ev S.E ⟨T, St', N⟩ (.tmp t) ∧
    (b = true → grdV S F (.bool true) t j w ⟨dd, op, ty, ps, af, gg⟩ all l ⟨upd T t (.bool true), St', N⟩ ks r) ∧ (b = false → grdV S F (.bool false) t j w ⟨dd, op, ty, ps, af, gg⟩ all l ⟨upd T t (.bool false), St', N⟩ ks r)) := by
  refine propext ?_
  by_cases hv : PV.bool b = ev S.E ⟨T, St', N⟩ (.tmp t)
  · have hT : (⟨upd T t (.bool b), St', N⟩ : St) = ⟨T, St', N⟩ := setT_same (st := ⟨T, St', N⟩) (ev_bool hv.symm)
    cases b with
    | true => simp only [hT, true_implies, Bool.true_eq_false, false_implies, and_true]; exact ⟨fun h => ⟨hv, h⟩, fun h => h.2⟩
    | false => simp only [hT, true_implies, Bool.false_eq_true, false_implies, true_and]; exact ⟨fun h => ⟨hv, h⟩, fun h => h.2⟩
  · exact ⟨fun h => absurd h.1 hv, fun h => absurd h.1 hv⟩
@[go_sem] theorem grdVD_tt {t j : Nat} : grdVD S F (.bool true) t j true ⟨dd, op, ty, ps, af, gg⟩ all i l log st ks r = (.bool true = ev S.E st (.tmp t) ∧ effD S F (opR (R S) S.E st op) op dd all i l log st ks r) := by simp [grdVD]
@[go_sem] theorem grdVD_ff {t j : Nat} : grdVD S F (.bool false) t j false ⟨dd, op, ty, ps, af, gg⟩ all i l log st ks r = (.bool false = ev S.E st (.tmp t) ∧ effD S F (opR (R S) S.E st op) op dd all i l log st ks r) := by simp [grdVD]
@[go_sem] theorem grdVD_tf {t j : Nat} : grdVD S F (.bool true) t j false ⟨some d, op, ty, ps, af, gg⟩ all i l log ⟨T, St', N⟩ ks r = (.bool true = ev S.E ⟨T, St', N⟩ (.tmp t) ∧ Ends S F (.dops all (i + 1) l log ⟨upd T d .void, St', N⟩ ks) r) := by simp [grdVD, skip_some]
@[go_sem] theorem grdVD_ft {t j : Nat} : grdVD S F (.bool false) t j true ⟨some d, op, ty, ps, af, gg⟩ all i l log ⟨T, St', N⟩ ks r = (.bool false = ev S.E ⟨T, St', N⟩ (.tmp t) ∧ Ends S F (.dops all (i + 1) l log ⟨upd T d .void, St', N⟩ ks) r) := by simp [grdVD, skip_some]
@[go_sem] theorem grdVD_void {t j : Nat} {w : Bool} : grdVD S F .void t j w ⟨some d, op, ty, ps, af, gg⟩ all i l log ⟨T, St', N⟩ ks r = (.void = ev S.E ⟨T, St', N⟩ (.tmp t) ∧ Ends S F (.dops all (i + 1) l log ⟨upd T d .void, St', N⟩ ks) r) := by simp [grdVD, skip_some]
theorem grdVD_sym {t j : Nat} {w b : Bool} : grdVD S F (.bool b) t j w ⟨dd, op, ty, ps, af, gg⟩ all i l log ⟨T, St', N⟩ ks r = (.bool b = ev S.E ⟨T, St', N⟩ (.tmp t) ∧
    (b = true → grdVD S F (.bool true) t j w ⟨dd, op, ty, ps, af, gg⟩ all i l log ⟨upd T t (.bool true), St', N⟩ ks r) ∧ (b = false → grdVD S F (.bool false) t j w ⟨dd, op, ty, ps, af, gg⟩ all i l log ⟨upd T t (.bool false), St', N⟩ ks r)) := by
  refine propext ?_
  by_cases hv : PV.bool b = ev S.E ⟨T, St', N⟩ (.tmp t)
  · have hT : (⟨upd T t (.bool b), St', N⟩ : St) = ⟨T, St', N⟩ := setT_same (st := ⟨T, St', N⟩) (ev_bool hv.symm)
    cases b with
    | true => simp only [hT, true_implies, Bool.true_eq_false, false_implies, and_true]; exact ⟨fun h => ⟨hv, h⟩, fun h => h.2⟩
    | false => simp only [hT, true_implies, Bool.false_eq_true, false_implies, true_and]; exact ⟨fun h => ⟨hv, h⟩, fun h => h.2⟩
  · exact ⟨fun h => absurd h.1 hv, fun h => absurd h.1 hv⟩
@[go_sem] theorem condE_true {a b : Code} : condE S F (.bool true) a b st ks r = Ends S F (.run a st ks) r := by simp [condE]
@[go_sem] theorem condE_false {a b : Code} : condE S F (.bool false) a b st ks r = Ends S F (.run b st ks) r := by simp [condE]
theorem condE_sym {t : Bool} {a b : Code} : condE S F (.bool t) a b st ks r = ((t = true → Ends S F (.run a st ks) r) ∧ (t = false → Ends S F (.run b st ks) r)) := by cases t <;> simp [condE]
attribute [go_sem low] grdV_sym grdVD_sym condE_sym
@[go_sem] theorem cutE_some {s : St} {c : Code} : cutE S F (some (p, s)) c ks r = (p ∧ Ends S F (.head c s ks) r) := rfl
@[go_sem] theorem cutB_some {s : St} : cutB S F (some (p, s)) ks r = (p ∧ Ends S F (.back s ks) r) := rfl
@[go_sem] theorem entE_some {L : List Nat} {c : Code} : entE S F (some L) c st ks r = cutE S F (cutS L st) c ks r := rfl
@[go_sem] theorem outE_some {L : List Nat} : outE S F (some L) st ks r = cutB S F (cutS L st) ks r := rfl
@[go_sem] theorem outE_none : outE S F none st ks r = Ends S F (.back st ks) r := rfl
@[go_sem] theorem finE_some {b : Ans} : finE (some (p, b)) r = (p ∧ b = r) := rfl
@[go_sem] theorem ans_eq {b b' : List (Option PV)} {v v' : PV} : ((⟨b, v⟩ : Ans) = ⟨b', v'⟩) = (b = b' ∧ v = v') := by simp
end
end Go.Proofs.YtanbccpabgcmaaaGreatDoor.PVE
