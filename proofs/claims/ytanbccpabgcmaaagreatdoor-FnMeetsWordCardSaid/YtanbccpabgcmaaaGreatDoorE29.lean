/- The PV engine, part 29: a function's run, as the tables of a seat begin it. -/
import Derived.Test.YtanbccpabgcmaaaGreatDoorE28
import Derived.KernelRfl
set_option linter.unusedVariables false
set_option linter.unusedSimpArgs false
set_option linter.unusedSectionVars false
namespace Go.Proofs.YtanbccpabgcmaaaGreatDoor.PVE
open PV

def lookL : List (Nat × List Nat) → Nat → Option (List Nat)
  | [], _ => none
  | (k, v) :: l, n => if n = k then some v else lookL l n
@[go_sem] theorem lookL_nil {n : Nat} : lookL [] n = none := rfl
@[go_sem] theorem lookL_cons {n k : Nat} {v : List Nat} {l : List (Nat × List Nat)} : lookL ((k, v) :: l) n = if n = k then some v else lookL l n := rfl
/-- What the tables of a seat say. -/
structure Tab where
  P : Program
  G : Nat → Option (List PV)
  m : List (Nat × CM)
  x : List (Nat × List (Nat × List Nat))
  lib : List (Nat × (List PV → Option Ans))
def Tab.M (t : Tab) (f : Nat) : CM := (t.m.lookup f).getD ⟨[], false, false⟩
def Tab.X (t : Tab) (f : Nat) : List (Nat × List Nat) := (t.x.lookup f).getD []
def Tab.L (t : Tab) (f : Nat) (xs : List PV) : Option Ans := match t.lib.lookup f with
  | some g => g xs
  | none => none
noncomputable def Tab.E (t : Tab) : Env := ⟨tyOf t.P, t.G, t.M, flatS t.P⟩
noncomputable def Tab.S (t : Tab) : Sys := ⟨t.P, t.E, fun f => lookL (t.X f), t.L⟩
@[go_sem] theorem tab_E {t : Tab} : t.S.E = t.E := rfl
/-- The state at the start, typed out. -/
def ent (xs : List PV) : St := ⟨ghostFrom (argsFrom 0 (impL xs 0).1) 0 xs (impL xs 0).1, storeFrom 0 ((impL xs 0).2.map (·.2)), (impL xs 0).2.length⟩
@[go_sem ↓] theorem go_ent {S : Sys} {F : Fx} {c : Code} {xs : List PV} {ks : List Fr} {r : Ans} : Ends S F (.run c (ent xs) ks) r = Ends S F (.run c ⟨ghostFrom (argsFrom 0 (impL xs 0).1) 0 xs (impL xs 0).1, storeFrom 0 ((impL xs 0).2.map (·.2)), (impL xs 0).2.length⟩ ks) r := rfl
def isNone {α : Type} : Option α → Bool
  | none => true
  | some _ => false
theorem R_tab {t : Tab} {f n : Nat} {fu : Func} {xs : List PV} {a : Ans} {ts : List ResultVar} {cm : CM} {ns : List Nat} {L : List (Nat × List Nat)} (hl : isNone (t.lib.lookup f) = true) (hf : t.P.funcs[f]? = some fu) (hb : fu.body = some (fu.body.getD .skip)) (hc : fnChk fu (fu.body.getD .skip) = true) (hcm : t.M f = cm) (hX : t.X f = L)
    (hm : cm.modes.length = n) (hn : n ≤ fu.ntmps) (hg : n ≤ gBase) (hts : fu.results.toList = ts) (hns : fu.resultTypes.toList.map (nilSz t.E) = ns)
    (hxs : xs.length = n) (h : Ends t.S ⟨ts, ns, cm, lookL L⟩ (.run (fu.body.getD .skip) (ent xs) []) a) : R t.S f xs = some a := by
  subst hxs hX
  refine R_of (S := t.S) ?_ hf hb hc hcm hm hn hts hns ?_
  · show t.L f xs = none
    unfold Tab.L
    cases hlk : t.lib.lookup f with
    | none => rfl
    | some g => rw [hlk] at hl; cases hl
  · rw [entry_eq hg]
    exact h
theorem tab_sound {t : Tab} (hm : t.P.follows .mixedOrders = true) (hlib : CallOk t.P t.E t.L) {f : Nat} {xs : List PV} {ans : Ans} (h : R t.S f xs = some ans) : PCalls t.P t.G f xs ans.bks ans.res (t.M f).al :=
  R_sound (S := t.S) (tyOk_tyOf t.P) (fun _ _ h => h) hm hlib h

/-- A loop that counts from i to n. -/
theorem ends_for {S : Sys} {F : Fx} {c : Code} {ks : List Fr} {a : Ans} {σ : Type} (n : Nat) (hn : n ≤ 4611686018427387904) (X : Nat → σ → St) (I : Nat → σ → Prop) (i0 : Nat) (s0 : σ) (hi0 : i0 ≤ n) (h0 : I i0 s0)
    (hs : ∀ i s, i < n → I i s → IntKind.i64.wrap ((i : Int) + 1) = ((i + 1 : Nat) : Int) → (∀ s', I (i + 1) s' → Ends S F (.head c (X (i + 1) s') ks) a) → Ends S F (.run c (X i s) (.loop c :: ks)) a)
    (he : ∀ s, I n s → Ends S F (.run c (X n s) (.loop c :: ks)) a) : Ends S F (.head c (X i0 s0) ks) a := by
  have key : ∀ d i s, d + i = n → I i s → Ends S F (.head c (X i s) ks) a := by
    intro d
    induction d with
    | zero =>
      intro i s hd hI
      obtain rfl : i = n := by omega
      rw [go_head]
      exact he s hI
    | succ d ih =>
      intro i s hd hI
      rw [go_head]
      exact hs i s (by omega) hI (wrap_in (by omega) (by omega)) fun s' hI' => ih (i + 1) s' (by omega) hI'
  exact key (n - i0) i0 s0 (by omega) h0
/-- A loop by a measure. -/
theorem ends_wh {S : Sys} {F : Fx} {c : Code} {ks : List Fr} {a : Ans} {σ : Type} (μ : σ → Nat) (X : σ → St) (I : σ → Prop) (s0 : σ) (h0 : I s0)
    (hs : ∀ s, I s → (∀ s', μ s' < μ s → I s' → Ends S F (.head c (X s') ks) a) → Ends S F (.run c (X s) (.loop c :: ks)) a) : Ends S F (.head c (X s0) ks) a := by
  have key : ∀ d s, μ s = d → I s → Ends S F (.head c (X s) ks) a := by
    intro d
    induction d using Nat.strongRecOn with
    | _ d ih =>
      intro s hd hI
      rw [go_head]
      exact hs s hI fun s' hlt hI' => ih (μ s') (by omega) s' rfl hI'
  exact key _ s0 rfl h0
/-- Element i, and what is behind it. -/
theorem drop_get {α : Type} {l : List α} {i : Nat} (h : i < l.length) (d : α) : ∃ x, l[i]? = some x ∧ l.getD i d = x ∧ l.drop i = x :: l.drop (i + 1) :=
  ⟨l[i], List.getElem?_eq_getElem h, by rw [List.getD_eq_getElem?_getD, List.getElem?_eq_getElem h]; rfl, List.drop_eq_getElem_cons h⟩
@[go_sem] theorem map_snoc {α : Type} {f : α → PV} (l : List α) (a : α) : l.map f ++ [f a] = (l ++ [a]).map f := by simp
@[go_sem] theorem map_app {α : Type} {f : α → PV} (l m : List α) : l.map f ++ m.map f = (l ++ m).map f := by simp
@[go_sem] theorem map_setf {α : Type} {f : α → PV} (l : List α) (i : Nat) (a : α) : (l.map f).set i (f a) = (l.set i a).map f := by rw [List.map_set]
@[go_sem] theorem bytes_snoc (l : List UInt8) (c : UInt8) : l.map bytePV ++ [.int .u8 c.toNat] = (l ++ [c]).map bytePV := by simp [bytePV]
@[go_sem] theorem bytes_set (l : List UInt8) (i : Nat) (c : UInt8) : (l.map bytePV).set i (.int .u8 c.toNat) = (l.set i c).map bytePV := by rw [List.map_set]; rfl
@[go_sem] theorem bytes_of (s : List UInt8) : (s.map fun b => PV.int .u8 b.toNat) = s.map bytePV := rfl
@[go_sem] theorem rep_str (n : Nat) (s : List UInt8) : List.replicate n (PV.str s) = (List.replicate n s).map PV.str := by simp
@[go_sem] theorem rep_int (n : Nat) (k : IntKind) (m : Int) : List.replicate n (PV.int k m) = (List.replicate n m).map (PV.int k) := by simp
theorem drop_getD {α : Type} {l : List α} {i : Nat} (h : i < l.length) (d : α) : l.drop i = l.getD i d :: l.drop (i + 1) := by
  rw [List.getD_eq_getElem?_getD, List.getElem?_eq_getElem h]
  exact List.drop_eq_getElem_cons h
attribute [go_sem] Int.ofNat_lt Int.ofNat_le Int.natCast_nonneg Int.natCast_inj Nat.lt_irrefl Nat.le_refl
end Go.Proofs.YtanbccpabgcmaaaGreatDoor.PVE
