/- The PV engine, part 24: what 'simp only [go_sem]' needs to run the transformer. -/
import Derived.Test.YtfphffeonmjfcaaE23
set_option linter.unusedVariables false
set_option linter.unusedSimpArgs false
set_option linter.unusedSectionVars false
namespace Go.Proofs.Ytfphffeonmjfcaa.PVE
open PV

def effK (x : Option (Prop × Eff)) (K : Eff → Prop) : Prop := match x with
  | some (p, e) => p ∧ K e
  | none => False
@[go_sem] theorem effK_some {p : Prop} {e : Eff} {K : Eff → Prop} : effK (some (p, e)) K = (p ∧ K e) := rfl
@[go_sem] theorem effK_none {K : Eff → Prop} : effK none K = False := rfl
@[go_sem] theorem effK_plain {st : St} {v : PV} {K : Eff → Prop} : effK (plainE st v) K = K ⟨v, [], [], st.next⟩ := by simp [effK, plainE]
@[go_sem] theorem effK_new {st : St} {pv v : PV} {rem : List Nat} {K : Eff → Prop} : effK (newRoot st pv v rem) K = (rem.Nodup ∧ K ⟨v, rem, [(st.next, ⟨pv, []⟩)], st.next + 1⟩) := by
  unfold newRoot
  by_cases h : rem.Nodup <;> simp [effK, h]
@[go_sem] theorem effK_ite {c : Prop} [Decidable c] {x : Option (Prop × Eff)} {K : Eff → Prop} : effK (if c then x else none) K = (c ∧ effK x K) := by
  by_cases h : c <;> simp [effK, h]

@[go_sem] theorem dec_T {h : Decidable True} : @decide True h = true := by simp
@[go_sem] theorem dec_F {h : Decidable False} : @decide False h = false := by simp
def noT : Nat → PV := fun _ => .undef
def voidT : Nat → PV := fun t => if t < gBase then .void else .undef
def noS : Nat → Option Root := fun _ => none
@[go_sem] theorem noT_at {t : Nat} : noT t = .undef := rfl
@[go_sem] theorem voidT_at {t : Nat} : voidT t = if t < gBase then .void else .undef := rfl
@[go_sem] theorem gBase_eq : gBase = 1000000 := rfl
@[go_sem] theorem noS_at {t : Nat} : noS t = none := rfl
@[go_sem] theorem upd_at {α : Type} {f : Nat → α} {i : Nat} {x : α} {j : Nat} : upd f i x j = if j = i then x else f j := rfl
def tempsOf : List (Nat × PV) → (Nat → PV)
  | [] => noT
  | (t, v) :: ts => upd (tempsOf ts) t v
def storeFrom : Nat → List PV → (Nat → Option Root)
  | _, [] => noS
  | k, pv :: rs => upd (storeFrom (k + 1) rs) k (some ⟨pv, []⟩)
def argsFrom : Nat → List PV → (Nat → PV)
  | _, [] => voidT
  | k, pv :: vs => upd (argsFrom (k + 1) vs) k pv
attribute [go_sem] tempsOf storeFrom argsFrom

theorem tempsOf_at : ∀ (ts : List (Nat × PV)) (t : Nat), tempsOf ts t = (ts.lookup t).getD .undef
  | [], t => rfl
  | (k, v) :: ts, t => by
    simp only [tempsOf, upd_at, List.lookup_cons, tempsOf_at ts t]
    by_cases h : t = k
    · simp [h]
    · have : (t == k) = false := by simpa using h
      simp [h, this]
theorem storeFrom_at : ∀ (rs : List PV) (k r : Nat), storeFrom k rs r = if k ≤ r then (rs[r - k]?).map (fun pv => (⟨pv, []⟩ : Root)) else none
  | [], k, r => by simp [storeFrom, noS]
  | pv :: rs, k, r => by
    simp only [storeFrom, upd_at, storeFrom_at rs (k + 1) r]
    by_cases h : r = k
    · subst h; simp
    · by_cases h2 : k ≤ r
      · have h3 : k + 1 ≤ r := by omega
        simp only [h, if_false, h2, h3, if_true]
        have : r - k = (r - (k + 1)) + 1 := by omega
        rw [this, List.getElem?_cons_succ]
      · have h3 : ¬ k + 1 ≤ r := by omega
        simp [h, h2, h3]
/-- The arguments that are given back. -/
def ghostFrom (T : Nat → PV) : Nat → List PV → List PV → (Nat → PV)
  | k, a :: args, v :: vs => if isOwn a = true then upd (ghostFrom T (k + 1) args vs) (gBase + k) v else ghostFrom T (k + 1) args vs
  | _, _, _ => T
attribute [go_sem] ghostFrom isOwn
theorem argsFrom_at : ∀ (vs : List PV) (k t : Nat), argsFrom k vs t = if k ≤ t ∧ t - k < vs.length then (vs[t - k]?).getD .void else voidT t
  | [], k, r => by simp [argsFrom]
  | pv :: rs, k, r => by
    simp only [argsFrom, upd_at, argsFrom_at rs (k + 1) r]
    by_cases h : r = k
    · subst h; simp
    · by_cases h2 : k ≤ r
      · have h3 : k + 1 ≤ r := by omega
        have : r - k = (r - (k + 1)) + 1 := by omega
        simp only [h, if_false, h2, h3, true_and, this, List.getElem?_cons_succ, List.length_cons, Nat.add_lt_add_iff_right]
      · have h3 : ¬ k + 1 ≤ r := by omega
        simp [h, h2, h3]
theorem ghostFrom_at (T : Nat → PV) : ∀ (args vs : List PV) (k t : Nat), args.length = vs.length → ghostFrom T k args vs t = if gBase + k ≤ t ∧ ((args[t - (gBase + k)]?).any isOwn) = true then (vs[t - (gBase + k)]?).getD .undef else T t
  | [], vs, k, t, hl => by
    cases vs with
    | nil => simp [ghostFrom]
    | cons v vs => simp at hl
  | a :: args, [], k, t, hl => by simp at hl
  | a :: args, v :: vs, k, t, hl => by
    have ih := ghostFrom_at T args vs (k + 1) t (by simpa using hl)
    by_cases h : t = gBase + k
    · subst h
      have h2 : ¬ gBase + (k + 1) ≤ gBase + k := by omega
      simp only [h2, false_and, if_false] at ih
      simp only [ghostFrom]
      by_cases ha : isOwn a = true
      · simp [ha, upd_at]
      · simp [ha, ih]
    · have h5 : ghostFrom T k (a :: args) (v :: vs) t = ghostFrom T (k + 1) args vs t := by
        simp only [ghostFrom]
        split
        · simp [upd_at, h]
        · rfl
      rw [h5, ih]
      by_cases h2 : gBase + k ≤ t
      · have h3 : gBase + (k + 1) ≤ t := by omega
        have : t - (gBase + k) = (t - (gBase + (k + 1))) + 1 := by omega
        simp only [h2, h3, true_and, this, List.getElem?_cons_succ]
      · have h3 : ¬ gBase + (k + 1) ≤ t := by omega
        simp [h2, h3]
theorem mkSt_eq {ts : List (Nat × PV)} {rs : List PV} : mkSt ts rs = ⟨tempsOf ts, storeFrom 0 rs, rs.length⟩ := by
  unfold mkSt
  congr 1
  · funext t; rw [tempsOf_at]
  · funext r; rw [storeFrom_at]; simp
theorem entry_eq {args : List PV} (hlen : args.length ≤ gBase) : entry args = ⟨ghostFrom (argsFrom 0 (impL args 0).1) 0 args (impL args 0).1, storeFrom 0 ((impL args 0).2.map (·.2)), (impL args 0).2.length⟩ := by
  unfold entry
  congr 1
  · funext t
    rw [ghostFrom_at _ _ _ _ _ (impL_len args 0).symm, argsFrom_at]
    simp only [Nat.add_zero, Nat.sub_zero, Nat.zero_le, true_and]
    by_cases h : t < gBase
    · have h2 : ¬ gBase ≤ t := by omega
      simp only [h, if_true, h2, false_and, if_false]
      split
      · rfl
      · rename_i h3
        rw [List.getElem?_eq_none (by omega)]
        simp [voidT, h]
    · have h2 : gBase ≤ t := by omega
      simp only [h, if_false, h2, true_and]
      split
      · rfl
      · rename_i h4
        split
        · rename_i h3
          rw [impL_len] at h3
          omega
        · simp [voidT, h]
  · funext r; rw [storeFrom_at]; simp [List.getElem?_map]; rfl

section
variable {P : Program} {E : Env} {n : Nat} {st : St} {K : Eff → Prop}
@[go_sem] theorem st_app {T : Nat → PV} {S : Nat → Option Root} {N d : Nat} {v : PV} {rem : List Nat} {add : List (Nat × Root)} {nx : Nat} : St.app ⟨T, S, N⟩ (some d) ⟨v, rem, add, nx⟩ = ⟨upd T d v, applyStore S rem add, nx⟩ := rfl
@[go_sem] theorem st_app0 {T : Nat → PV} {S : Nat → Option Root} {N : Nat} {v : PV} {rem : List Nat} {add : List (Nat × Root)} {nx : Nat} : St.app ⟨T, S, N⟩ none ⟨v, rem, add, nx⟩ = ⟨T, applyStore S rem add, nx⟩ := rfl
@[go_sem] theorem st_put {T : Nat → PV} {S : Nat → Option Root} {N d : Nat} {v : PV} : St.put ⟨T, S, N⟩ (some d) v = upd T d v := rfl
@[go_sem] theorem st_put0 {T : Nat → PV} {S : Nat → Option Root} {N : Nat} {v : PV} : St.put ⟨T, S, N⟩ none v = T := rfl
@[go_sem] theorem applyS_nil {S : Nat → Option Root} : applyStore S [] [] = S := rfl
@[go_sem] theorem applyS_rem {S : Nat → Option Root} {r : Nat} {rem : List Nat} {add : List (Nat × Root)} : applyStore S (r :: rem) add = applyStore (upd S r none) rem add := rfl
@[go_sem] theorem applyS_add {S : Nat → Option Root} {r : Nat} {x : Root} {add : List (Nat × Root)} : applyStore S [] ((r, x) :: add) = applyStore (upd S r (some x)) [] add := rfl
@[go_sem] theorem dstOk_some {d : Nat} : dstOk n (some d) = (d < n ∧ d < gBase) := rfl
@[go_sem] theorem dstOk_none : dstOk n none = True := rfl
@[go_sem] theorem ev_tmp {T : Nat → PV} {S : Nat → Option Root} {N t : Nat} : ev E ⟨T, S, N⟩ (.tmp t) = if t < gBase then T t else .undef := rfl
@[go_sem] theorem ev_const {v : Value} : ev E st (.const v) = constPV v := rfl
@[go_sem] theorem ev_func {f : Nat} : ev E st (.func f) = .fn f [] := rfl
@[go_sem] theorem ev_global {g : Nat} : ev E st (.global g) = (match E.G g with
    | some cs => .pro cs
    | none => .undef) := rfl
@[go_sem] theorem constPV_bool {b : Bool} : constPV (.bool b) = .bool b := rfl
@[go_sem] theorem constPV_int {k : IntKind} {i : Int} : constPV (.int k i) = .int k i := rfl
@[go_sem] theorem constPV_str {a : Array UInt8} : constPV (.string ⟨a⟩) = .str a.toList := rfl
@[go_sem] theorem leafPV_str {a : Array UInt8} : leafPV (.string ⟨a⟩) = .str a.toList := rfl
@[go_sem] theorem constPV_nil : constPV (.slice none 0 0) = .nilS := rfl
@[go_sem] theorem constPV_agg {cs : Array Value} : constPV (.agg cs) = if cs.toList.all (·.oneCell') then .agg (cs.toList.map leafPV) else .undef := rfl
@[go_sem] theorem leafPV_bool {b : Bool} : leafPV (.bool b) = .bool b := rfl
@[go_sem] theorem leafPV_int {k : IntKind} {i : Int} : leafPV (.int k i) = .int k i := rfl
@[go_sem] theorem leafPV_nil : leafPV (.slice none 0 0) = .slo 0 [] := rfl

@[go_sem] theorem opP_move {x : Operand} : opP P E st (.move x) K = K ⟨ev E st x, [], [], st.next⟩ := by simp [opP, eff, plainE]
@[go_sem] theorem opP_assign {x : Operand} : opP P E st (.assign x) K = K ⟨ev E st x, [], [], st.next⟩ := by simp [opP, eff, plainE]
@[go_sem] theorem opP_pick {c x y : Operand} : opP P E st (.pick c x y) K = (match ev E st c with
    | .bool t => K ⟨if t then ev E st x else ev E st y, [], [], st.next⟩
    | _ => False) := by
  show effK (eff E st (.pick c x y)) K = _
  simp only [eff]
  cases ev E st c <;> simp [effK, plainE]
@[go_sem] theorem opP_alloc {t : Nat} : opP P E st (.alloc t) K = effK (eff E st (.alloc t)) K := rfl
@[go_sem] theorem opP_box {t : Nat} {x : Operand} : opP P E st (.box t x) K = effK (eff E st (.box t x)) K := rfl
@[go_sem] theorem opP_build {t : Nat} {x : Array (Nat × Operand)} : opP P E st (.build t x) K = effK (eff E st (.build t x)) K := rfl
@[go_sem] theorem opP_buildSlice {t m : Nat} {x : Array (Nat × Operand)} : opP P E st (.buildSlice t m x) K = effK (eff E st (.buildSlice t m x)) K := rfl
@[go_sem] theorem opP_load {t : Nat} {x : Operand} : opP P E st (.load t x) K = effK (eff E st (.load t x)) K := rfl
@[go_sem] theorem opP_store {t : Nat} {x y : Operand} : opP P E st (.store t x y) K = effK (eff E st (.store t x y)) K := rfl
@[go_sem] theorem opP_nilCheck {x : Operand} : opP P E st (.nilCheck x) K = effK (eff E st (.nilCheck x)) K := rfl
@[go_sem] theorem opP_binOp {op : BinOp} {t u : Nat} {x y : Operand} : opP P E st (.binOp op t x y u) K = effK (eff E st (.binOp op t x y u)) K := rfl
@[go_sem] theorem opP_unOp {op : UnOp} {t : Nat} {x : Operand} : opP P E st (.unOp op t x) K = effK (eff E st (.unOp op t x)) K := rfl
@[go_sem] theorem opP_convert {s t : Nat} {x : Operand} : opP P E st (.convert s t x) K = effK (eff E st (.convert s t x)) K := rfl
@[go_sem] theorem opP_slice {t : Nat} {x : Operand} {lo hi m : Option Operand} : opP P E st (.slice t x lo hi m) K = effK (eff E st (.slice t x lo hi m)) K := rfl
@[go_sem] theorem opP_fieldAddr {t f : Nat} {x : Operand} : opP P E st (.fieldAddr t x f) K = effK (eff E st (.fieldAddr t x f)) K := rfl
@[go_sem] theorem opP_field {t f : Nat} {x : Operand} : opP P E st (.field t x f) K = effK (eff E st (.field t x f)) K := rfl
@[go_sem] theorem opP_indexAddr {t : Nat} {x y : Operand} : opP P E st (.indexAddr t x y) K = effK (eff E st (.indexAddr t x y)) K := rfl
@[go_sem] theorem opP_index {t : Nat} {x y : Operand} : opP P E st (.index t x y) K = effK (eff E st (.index t x y)) K := rfl
@[go_sem] theorem opP_extract {i : Nat} {x : Operand} : opP P E st (.extract x i) K = effK (eff E st (.extract x i)) K := rfl
@[go_sem] theorem opP_makeSlice {t : Nat} {x y : Operand} : opP P E st (.makeSlice t x y) K = effK (eff E st (.makeSlice t x y)) K := rfl
@[go_sem] theorem opP_makeFunc {f : Fn} {x y : Array Operand} : opP P E st (.makeFunc f x y) K = effK (eff E st (.makeFunc f x y)) K := rfl
@[go_sem] theorem opP_bcall {b : Builtin} {args : Array Operand} {tys : Array Nat} : opP P E st (.call ⟨.builtin b, args, tys⟩) K = effK (eff E st (.call ⟨.builtin b, args, tys⟩)) K := rfl
@[go_sem] theorem opP_gcall {f : Operand} {args : Array Operand} {tys : Array Nat} : opP P E st (.call ⟨.value f, args, tys⟩) K = (match ev E st f with
    | .fn g caps => callP P E st g (args.toList.map (ev E st) ++ caps) K
    | _ => False) := rfl

/-- A call, its contract at hand. -/
theorem callP_of {f : Nat} {xs : List PV} {a : Args} {bks : List (Option PV)} {res : PV} {al : Bool} {l : List (Nat × Root)} (ha : mkArgs st.store (E.M f).modes xs = some a) (hc : PCalls P E.G f a.vs bks res al)
    (hf : PV.freeL a.vs) (hg : a.gone.Nodup) (hr : ∀ r ∈ a.ro, r ∉ a.gone) (hb : backs a.vs a.back bks = some l)
    (hK : K ⟨(impF (E.M f).frz res st.next).1, a.gone ++ (if al then a.ro else []), l ++ (impF (E.M f).frz res st.next).2.map (fun x => (x.1, ⟨x.2, []⟩)), st.next + (impF (E.M f).frz res st.next).2.length⟩) : callP P E st f xs K := by
  unfold callP
  rw [ha]
  refine ⟨⟨hf, hg, hr⟩, bks, res, al, hc, ?_⟩
  rw [hb]
  exact hK

/-- The same, the contract first. -/
theorem callP_with {f : Nat} {xs vs : List PV} {ro gone : List Nat} {back : List (Option Nat)} {bks : List (Option PV)} {res : PV} {al : Bool} {l : List (Nat × Root)} (hc : PCalls P E.G f vs bks res al) (ha : mkArgs st.store (E.M f).modes xs = some ⟨vs, ro, gone, back⟩)
    (hf : PV.freeL vs) (hg : gone.Nodup) (hr : ∀ r ∈ ro, r ∉ gone) (hb : backs vs back bks = some l)
    (hK : K ⟨(impF (E.M f).frz res st.next).1, gone ++ (if al = true then ro else []), l ++ (impF (E.M f).frz res st.next).2.map (fun x => (x.1, ⟨x.2, []⟩)), st.next + (impF (E.M f).frz res st.next).2.length⟩) : callP P E st f xs K :=
  callP_of ha hc hf hg hr hb hK

@[go_sem] theorem foldR4 {s : Nat → Option Root} {r : Nat} : foldR s 4 r = (match s r with
    | none => none
    | some ⟨pv, []⟩ => some (pv, [r])
    | some ⟨pv, l :: ls⟩ => (l :: ls).foldlM (fun acc l => match acc.1.cellAt l.1 l.2 with
      | some (.own c) => (foldR s 3 c).map fun x => (acc.1.put l.1 l.2 [x.1], acc.2 ++ x.2)
      | _ => some acc) (pv, [r])) := by
  conv => lhs; unfold foldR
  cases s r with
  | none => rfl
  | some x => obtain ⟨pv, ls⟩ := x; cases ls <;> rfl
end

/-- A contract; the state at the start typed out. -/
theorem pcallsE {P : Program} {E : Env} {f : Nat} {fn : Func} {c : Code} {ts : List ResultVar} (hT : TyOk P E.T) (hm : P.follows .mixedOrders = true) (hf : P.funcs[f]? = some fn) (hname : (fn.name == "runtime.NumGoroutine") = false) (hb : fn.body = some c)
    (hres : fn.results = ts.toArray) {args : List PV} {bks : List (Option PV)} {res : PV} {al : Bool} {m : Nat} (hnt : fn.ntmps = m) (hbk : bks.length = args.length) (hn : args.length ≤ m) (hg : args.length ≤ gBase)
    (h : pwp P E m c (finQ (Fin E ts res bks al)) ⟨ghostFrom (argsFrom 0 (impL args 0).1) 0 args (impL args 0).1, storeFrom 0 ((impL args 0).2.map (·.2)), (impL args 0).2.length⟩) : PCalls P E.G f args bks res al :=
  pcalls hT hm hf hname hb hres hnt hbk hn (by rw [entry_eq hg]; exact h)

theorem cells_agg (cs : List PV) : (PV.agg cs).cells = cs := rfl
theorem cells_int (k : IntKind) (i : Int) : (PV.int k i).cells = [.int k i] := rfl
theorem cells_str (s : List UInt8) : (PV.str s).cells = [.str s] := rfl
theorem cells_bool (s : Bool) : (PV.bool s).cells = [.bool s] := rfl
theorem cells_lit (s : Value) : (PV.lit s).cells = [.lit s] := rfl
theorem cells_nil : PV.nilS.cells = [.nilS] := rfl
theorem cells_sl (s : List PV) : (PV.sl s).cells = [.sl s] := rfl
theorem cells_slo (k : Nat) (s : List PV) : (PV.slo k s).cells = [.slo k s] := rfl
theorem cells_own (s : Nat) : (PV.own s).cells = [.own s] := rfl
theorem cells_pro (s : List PV) : (PV.pro s).cells = [.pro s] := rfl
theorem cells_addr (r i o : Nat) : (PV.addr r i o).cells = [.addr r i o] := rfl
theorem cells_fn (f : Nat) (s : List PV) : (PV.fn f s).cells = [.fn f s] := rfl
theorem range_lits : List.range 0 = [] ∧ List.range 1 = [0] ∧ List.range 2 = [0, 1] ∧ List.range 3 = [0, 1, 2] ∧ List.range 4 = [0, 1, 2, 3] ∧ List.range 5 = [0, 1, 2, 3, 4] ∧ List.range 6 = [0, 1, 2, 3, 4, 5] := ⟨rfl, rfl, rfl, rfl, rfl, rfl, rfl⟩
theorem allLen_map {α : Type} {f : α → PV} {k : Nat} (h : ∀ x, (f x).cells.length = k) (l : List α) : allLen k (l.map f) := by
  intro e he
  obtain ⟨x, _, rfl⟩ := List.mem_map.1 he
  exact h x
theorem cut_map {α : Type} {f : α → PV} (l : List α) (a b : Int) : cut (l.map f) a b = (cut l a b).map f := by simp [cut, List.map_take, List.map_drop]
theorem stripL_map {α : Type} {f : α → PV} (h : ∀ x, (f x).strip = f x) : ∀ l : List α, PV.stripL (l.map f) = l.map f
  | [] => rfl
  | x :: l => by simp only [List.map_cons, PV.stripL, h x, stripL_map h l]
theorem freeL_map {α : Type} {f : α → PV} (h : ∀ x, (f x).free) : ∀ l : List α, PV.freeL (l.map f)
  | [] => trivial
  | x :: l => ⟨h x, freeL_map h l⟩
theorem noRL_map {α : Type} {f : α → PV} (h : ∀ x, (f x).noR) : ∀ l : List α, PV.noRL (l.map f)
  | [] => trivial
  | x :: l => ⟨h x, noRL_map h l⟩
theorem freeL_of : ∀ {l : List PV}, (∀ x ∈ l, x.free) → PV.freeL l
  | [], _ => trivial
  | x :: l, h => ⟨h x (by simp), freeL_of fun y hy => h y (by simp [hy])⟩
theorem noRL_of : ∀ {l : List PV}, (∀ x ∈ l, x.noR) → PV.noRL l
  | [], _ => trivial
  | x :: l, h => ⟨h x (by simp), noRL_of fun y hy => h y (by simp [hy])⟩
theorem freeL_iff : ∀ {l : List PV}, PV.freeL l ↔ ∀ x ∈ l, x.free
  | [] => by simp [PV.freeL]
  | x :: l => by simp [PV.freeL, freeL_iff (l := l)]
theorem noRL_iff : ∀ {l : List PV}, PV.noRL l ↔ ∀ x ∈ l, x.noR
  | [] => by simp [PV.noRL]
  | x :: l => by simp [PV.noRL, noRL_iff (l := l)]

attribute [go_sem] pwpOps pwpVal eff isAggT loadE storeE zeroElem lenStrE lenE intBin strBin binE loOf hiOf sliceE sliceStrE convE buildCells sliceEs appendE
attribute [go_sem] cells_agg cells_int cells_str cells_bool cells_lit cells_nil cells_sl cells_slo cells_own cells_pro cells_addr cells_fn PV.elem PV.cellAt PV.put PV.setElem PV.reElem PV.putCells PV.strip PV.stripL PV.storable PV.cellOk PV.isByte PV.toByte inl inlE inlEs det roLeaf roL roArg mkArgs backs imp1 impL imp impF
attribute [go_sem] if_true if_false List.map_cons List.map_nil List.nil_append List.cons_append List.append_nil List.length_cons List.length_nil List.toList_toArray List.take_succ_cons List.take_zero List.take_nil List.drop_succ_cons List.drop_zero List.drop_nil and_true true_and List.nodup_nil List.not_mem_nil not_false_eq_true List.getElem?_toArray List.getElem?_cons_zero List.getElem?_cons_succ List.getElem?_nil List.headD_cons List.headD_nil List.tail_cons List.tail_nil Option.map_some Option.map_none Option.bind_some Option.bind_none List.all_cons List.all_nil Bool.and_true Bool.true_and Bool.or_true Bool.true_or List.set_cons_zero List.set_cons_succ List.isEmpty_nil List.isEmpty_cons Bool.false_eq_true List.length_map List.length_append Option.getD_some Option.getD_none List.nodup_cons List.mem_cons List.filter_nil List.filter_cons eq_self false_implies implies_true List.append_assoc and_self forall_const or_false false_or range_lits beq_self_eq_true forall_eq ne_eq Bool.not_true Bool.not_false Bool.not_not List.getElem?_map Int.toNat_natCast List.getD_cons_zero List.getD_cons_succ List.getD_nil Int.natCast_zero List.length_set List.set_set
attribute [go_sem] PV.free PV.freeL PV.noR PV.noRL PV.ren PV.renL PV.okr PV.okrL exp1 expRV SimT SimR BackL noRB

end Go.Proofs.Ytfphffeonmjfcaa.PVE
