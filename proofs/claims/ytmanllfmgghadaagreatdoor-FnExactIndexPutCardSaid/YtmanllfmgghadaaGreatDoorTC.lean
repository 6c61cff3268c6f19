/- The index: the program's comparison of entries, and its sort. -/
import Derived.Test.YtmanllfmgghadaaGreatDoorTB
set_option linter.unusedVariables false
set_option linter.unusedSimpArgs false
set_option maxRecDepth 100000
namespace Go.Proofs.YtmanllfmgghadaaGreatDoor.PVE
open PV
def cmpS (a b : Str) : Int := if Op.bytesLess a b = true then -1 else if a = b then 0 else 1
def cfE (p q : Str × Str) : Int := if cmpS p.1 q.1 = 0 then cmpS p.2 q.2 else cmpS p.1 q.1
@[go_sem] theorem isNaN_C (s : Str) : R SC 228 [.str s] = some ⟨[none], .bool false⟩ := by
  refine goC228 rfl ?_
  simp only [go_sem, ↓reduceIte, Nat.reduceAdd, Nat.reduceSub, Nat.reduceEqDiff, Nat.reduceLT, Nat.reduceLeDiff, Nat.reduceMul, Int.reduceNeg, Int.reduceToNat, Int.reduceEq, Int.reduceLT, Int.reduceLE, reduceCtorEq, Tryz.f228]
@[go_sem] theorem compare_C (a b : Str) : R SC 184 [.str a, .str b] = some ⟨[none, none], .int .i64 (cmpS a b)⟩ := by
  refine goC184 rfl ?_
  cases h : Op.bytesLess a b with
  | true =>
    simp only [go_sem, ↓reduceIte, Nat.reduceAdd, Nat.reduceSub, Nat.reduceEqDiff, Nat.reduceLT, Nat.reduceLeDiff, Nat.reduceMul, Int.reduceNeg, Int.reduceToNat, Int.reduceEq, Int.reduceLT, Int.reduceLE, reduceCtorEq, Tryz.f184, h]
    simp [cmpS, h]
  | false =>
    by_cases he : a = b
    · subst he
      simp only [go_sem, ↓reduceIte, Nat.reduceAdd, Nat.reduceSub, Nat.reduceEqDiff, Nat.reduceLT, Nat.reduceLeDiff, Nat.reduceMul, Int.reduceNeg, Int.reduceToNat, Int.reduceEq, Int.reduceLT, Int.reduceLE, reduceCtorEq, Tryz.f184, h]
      simp [cmpS, h]
    · simp only [go_sem, ↓reduceIte, Nat.reduceAdd, Nat.reduceSub, Nat.reduceEqDiff, Nat.reduceLT, Nat.reduceLeDiff, Nat.reduceMul, Int.reduceNeg, Int.reduceToNat, Int.reduceEq, Int.reduceLT, Int.reduceLE, reduceCtorEq, Tryz.f184, h, he]
      simp [cmpS, h, he]
theorem or_C (l : List Int) (hl : l.length ≤ 1099511627776) : R SC 183 [.sl (l.map (.int .i64))] = some ⟨[none], .int .i64 ((l.find? fun x => !decide (x = 0)).getD 0)⟩ := by
  refine goC183 rfl ?_
  simp only [go_sem, ↓reduceIte, Nat.reduceAdd, Nat.reduceSub, Nat.reduceEqDiff, Nat.reduceLT, Nat.reduceLeDiff, Nat.reduceMul, Int.reduceNeg, Int.reduceToNat, Int.reduceEq, Int.reduceLT, Int.reduceLE, reduceCtorEq, Tryz.f183]
  refine ends_for l.length (by omega) (fun i _ => mkSt [(3, .int .i64 0), (6, .sl (l.map (.int .i64))), (7, .int .i64 l.length), (8, .int .i64 i)] []) (fun i _ => ∀ y ∈ l.take i, y = 0) 0 () (by omega) (by simp) ?_ ?_
  · rintro i _ hi hI hw ih
    obtain ⟨x, hx, hg, hd⟩ := drop_get hi default
    by_cases h : x = 0
    · simp only [go_sem, ↓reduceIte, Nat.reduceAdd, Nat.reduceSub, Nat.reduceEqDiff, Nat.reduceLT, Nat.reduceLeDiff, Nat.reduceMul, Int.reduceNeg, Int.reduceToNat, Int.reduceEq, Int.reduceLT, Int.reduceLE, reduceCtorEq, hi, hw, hg, hx, eq_true h]
      refine ih () fun y hy => ?_
      rw [List.take_add_one, hx] at hy
      rcases List.mem_append.1 hy with hy | hy
      · exact hI y hy
      · simp at hy; rw [hy, h]
    · have e : (l.find? fun x => !decide (x = 0)) = some x := by
        rw [← List.take_append_drop i l, hd, List.find?_append, List.find?_eq_none.2 fun y hy => by simp [hI y hy]]
        simp [h]
      simp only [go_sem, ↓reduceIte, Nat.reduceAdd, Nat.reduceSub, Nat.reduceEqDiff, Nat.reduceLT, Nat.reduceLeDiff, Nat.reduceMul, Int.reduceNeg, Int.reduceToNat, Int.reduceEq, Int.reduceLT, Int.reduceLE, reduceCtorEq, hi, hw, hg, hx, h]
      rw [e]; rfl
  · rintro _ hI
    rw [List.take_length] at hI
    have e : (l.find? fun x => !decide (x = 0)) = none := List.find?_eq_none.2 fun y hy => by simp [hI y hy]
    simp only [go_sem, ↓reduceIte, Nat.reduceAdd, Nat.reduceSub, Nat.reduceEqDiff, Nat.reduceLT, Nat.reduceLeDiff, Nat.reduceMul, Int.reduceNeg, Int.reduceToNat, Int.reduceEq, Int.reduceLT, Int.reduceLE, reduceCtorEq]
    rw [e]; rfl
@[go_sem] theorem or_C2 (x y : Int) : R SC 183 [.sl [.int .i64 x, .int .i64 y]] = some ⟨[none], .int .i64 (if x = 0 then y else x)⟩ := by
  have h := or_C [x, y] (by simp)
  by_cases hx : x = 0
  · by_cases hy : y = 0
    · simpa [hx, hy] using h
    · simpa [hx, hy] using h
  · simpa [hx] using h
@[go_sem] theorem cmp_C (a b c d : Str) (u v : Value) : R SC 182 [.agg [.str a, .str b, .lit u], .agg [.str c, .str d, .lit v]] = some ⟨[none, none], .int .i64 (cfE (a, b) (c, d))⟩ := by
  refine goC182 rfl ?_
  simp only [go_sem, ↓reduceIte, Nat.reduceAdd, Nat.reduceSub, Nat.reduceEqDiff, Nat.reduceLT, Nat.reduceLeDiff, Nat.reduceMul, Int.reduceNeg, Int.reduceToNat, Int.reduceEq, Int.reduceLT, Int.reduceLE, reduceCtorEq, Tryz.f182]
  exact ⟨by decide +kernel, rfl⟩
end Go.Proofs.YtmanllfmgghadaaGreatDoor.PVE
namespace Go.Proofs.YtmanllfmgghadaaGreatDoor.PVE
open PV
open Go.RowKit Go.Lib Go.Sort Go.Shelf
structure EC where
  f : Str
  t : Str
  v : Value
  h : v.oneCell' = true
instance : Inhabited EC := ⟨⟨[], [], .bool false, rfl⟩⟩
def EC.enc (x : EC) : List Value := [.string ⟨x.f.toArray⟩, .string ⟨x.t.toArray⟩, x.v]
def EC.key (x : EC) : Str × Str := (x.f, x.t)
@[instance_reducible] def dmYes : Dm := ⟨true⟩
theorem tab_soundD [Dm] {t : Tab} (hm : t.P.follows .mixedOrders = true) (hlib : CallOk t.P t.E t.L) {f : Nat} {xs : List PV} {ans : Ans} (h : R t.S f xs = some ans) : PCalls t.P t.G f xs ans.bks ans.res (t.M f).al :=
  R_sound (S := t.S) (tyOk_tyOf t.P) (fun _ _ h => h) hm hlib h
attribute [local instance] dmYes in
theorem cmp_calls (x y : EC) (W : World) : Calls Tryz.prog 182 #[.agg x.enc.toArray, .agg y.enc.toArray] W fun e w' => e = .returned (.int .i64 (cfE x.key y.key)) ∧ ∃ q os', w' = grow (W.drewN q) os' := by
  have hc := tab_soundD (t := tabC) Tryz.checked.mixed (fun f xs a h => by cases h) (cmp_C x.f x.t y.f y.t x.v y.v)
  have := hc.2 W (fun _ => False) [.agg x.enc.toArray, .agg y.enc.toArray] [] (fun g cs hg => by cases hg) ?_ List.nodup_nil (by simp) (fun b hb => hb.elim)
  · refine this.mono ?_
    rintro e w' ⟨v, R', fr, fb, rfl, r1, r2, r3, r4, r5, r6, r7, r8, r9, r10, r11⟩
    simp only [V] at r1
    obtain ⟨rfl, _⟩ := r1
    refine ⟨rfl, w'.drawn - W.drawn, w'.heap.extract W.heap.size w'.heap.size, ?_⟩
    have hd := r9.2 (show dmYes.dm = true from rfl)
    have hh : w'.heap = W.heap ++ w'.heap.extract W.heap.size w'.heap.size := by
      apply Array.ext_getElem?
      intro i
      by_cases hi : i < W.heap.size
      · rw [Array.getElem?_append_left hi]
        exact r7 i hi (by simp)
      · rw [Array.getElem?_append_right (by omega), Array.getElem?_extract]
        by_cases h2 : i < w'.heap.size
        · rw [if_pos (by omega)]; congr 1; omega
        · rw [if_neg (by omega), Array.getElem?_eq_none (by omega)]
    obtain ⟨h1, h2, h3, h4, h5⟩ := w'
    simp only at hd hh r9 r10 r11
    have e1 := r9.1
    simp only at e1
    subst e1 r10 r11
    simp only [grow, World.drewN]
    congr 1
    omega
  · simp only [Ts, V, Cs]
    exact ⟨_, _, [], [], rfl, ⟨_, rfl, _, _, [], [], rfl, rfl, ⟨rfl, rfl⟩, ⟨_, _, [], [], rfl, rfl, ⟨rfl, rfl⟩, ⟨_, _, [], [], rfl, x.h, ⟨rfl, x.h, rfl⟩, ⟨rfl, rfl⟩, rfl⟩, rfl⟩, rfl⟩, ⟨_, _, [], [], rfl, ⟨_, rfl, _, _, [], [], rfl, rfl, ⟨rfl, rfl⟩, ⟨_, _, [], [], rfl, rfl, ⟨rfl, rfl⟩, ⟨_, _, [], [], rfl, y.h, ⟨rfl, y.h, rfl⟩, ⟨rfl, rfl⟩, rfl⟩, rfl⟩, rfl⟩, ⟨rfl, rfl⟩, rfl⟩, rfl⟩
theorem bl_def (a b : Str) : Op.bytesLess a b = decide (a < b) := Go.Proofs.bytesLess_eq a b
theorem keyLt_iff {a b : Str × Str} : keyLt a b = true ↔ a.1 < b.1 ∨ (a.1 = b.1 ∧ a.2 < b.2) := by simp [keyLt, bl_def]
theorem sLt_tri (a b : Str) : a < b ∨ a = b ∨ b < a := by
  by_cases h1 : a < b
  · exact .inl h1
  · by_cases h2 : b < a
    · exact .inr (.inr h2)
    · exact .inr (.inl (List.le_antisymm (List.not_lt.1 h2) (List.not_lt.1 h1)))
theorem keyLt_swo : SWO keyLt where
  irrefl x := by
    cases h : keyLt x x with
    | false => rfl
    | true => rcases keyLt_iff.1 h with h | h; exact absurd h (List.lt_irrefl _); exact absurd h.2 (List.lt_irrefl _)
  trans x y z h1 h2 := by
    rw [keyLt_iff] at *
    rcases h1 with h1 | ⟨e1, h1⟩
    · rcases h2 with h2 | ⟨e2, h2⟩
      · exact .inl (List.lt_trans h1 h2)
      · exact .inl (e2 ▸ h1)
    · rcases h2 with h2 | ⟨e2, h2⟩
      · exact .inl (e1 ▸ h2)
      · exact .inr ⟨e1.trans e2, List.lt_trans h1 h2⟩
  ntrans x y z h1 h2 := by
    have tri : ∀ a b : Str × Str, keyLt a b = false → b.1 < a.1 ∨ (b.1 = a.1 ∧ (b.2 < a.2 ∨ b.2 = a.2)) := by
      intro a b h
      have h' : ¬ (a.1 < b.1 ∨ (a.1 = b.1 ∧ a.2 < b.2)) := fun hc => by rw [keyLt_iff.2 hc] at h; cases h
      rcases sLt_tri a.1 b.1 with k | k | k
      · exact absurd (.inl k) h'
      · rcases sLt_tri a.2 b.2 with m | m | m
        · exact absurd (.inr ⟨k, m⟩) h'
        · exact .inr ⟨k.symm, .inr m.symm⟩
        · exact .inr ⟨k.symm, .inl m⟩
      · exact .inl k
    cases hc : keyLt x z with
    | false => rfl
    | true =>
      exfalso
      have hxz := keyLt_iff.1 hc
      rcases tri _ _ h1 with a1 | ⟨a1, a2⟩ <;> rcases tri _ _ h2 with b1 | ⟨b1, b2⟩ <;> rcases hxz with c1 | ⟨c1, c2⟩
      · exact List.lt_irrefl _ (List.lt_trans c1 (List.lt_trans b1 a1))
      · rw [← c1] at b1; exact List.lt_irrefl _ (List.lt_trans b1 a1)
      · rw [b1] at c1; exact List.lt_irrefl _ (List.lt_trans c1 a1)
      · rw [c1, b1] at a1; exact List.lt_irrefl _ a1
      · rw [a1] at b1; exact List.lt_irrefl _ (List.lt_trans c1 b1)
      · rw [a1, c1] at b1; exact List.lt_irrefl _ b1
      · rw [b1, a1] at c1; exact List.lt_irrefl _ c1
      · rcases a2 with a2 | a2 <;> rcases b2 with b2 | b2
        · exact List.lt_irrefl _ (List.lt_trans c2 (List.lt_trans b2 a2))
        · rw [b2] at c2; exact List.lt_irrefl _ (List.lt_trans c2 a2)
        · rw [a2] at b2; exact List.lt_irrefl _ (List.lt_trans c2 b2)
        · rw [b2, a2] at c2; exact List.lt_irrefl _ c2
theorem keyLt_cf (a b : Str × Str) : keyLt a b = decide (cfE a b < 0) := by
  unfold keyLt cfE cmpS
  simp only [bl_def]
  rcases sLt_tri a.1 b.1 with h | h | h
  · simp [h]
  · have h0 : ¬ b.1 < b.1 := List.lt_irrefl _
    rcases sLt_tri a.2 b.2 with k | k | k
    · simp [h, h0, k]
    · have k0 : ¬ b.2 < b.2 := List.lt_irrefl _
      simp [h, h0, k, k0]
    · have k0 : ¬ a.2 < b.2 := fun c => List.lt_irrefl _ (List.lt_trans c k)
      have k1 : ¬ a.2 = b.2 := fun c => by rw [c] at k; exact List.lt_irrefl _ k
      simp [h, h0, k0, k1]
  · have h0 : ¬ a.1 < b.1 := fun c => List.lt_irrefl _ (List.lt_trans c h)
    have h1 : ¬ a.1 = b.1 := fun c => by rw [c] at h; exact List.lt_irrefl _ h
    simp [h0, h1]
theorem keyLt_tri {a b : Str × Str} (h : a ≠ b) : keyLt a b = true ∨ keyLt b a = true := by
  rw [keyLt_iff, keyLt_iff]
  rcases sLt_tri a.1 b.1 with h1 | h1 | h1
  · exact .inl (.inl h1)
  · rcases sLt_tri a.2 b.2 with h2 | h2 | h2
    · exact .inl (.inr ⟨h1, h2⟩)
    · exact absurd (Prod.ext h1 h2) h
    · exact .inr (.inr ⟨h1.symm, h2⟩)
  · exact .inr (.inl h1)
theorem libSortE_ok {G : Nat → Option (List PV)} {xs : List PV} {a : Ans} (h : libSortE xs = some a) : PCalls Tryz.prog G 181 xs a.bks a.res false := by
  unfold libSortE at h
  split at h
  case h_2 => cases h
  rename_i es g
  split at h
  case isFalse => cases h
  rename_i hx
  obtain ⟨rfl, h1, h2, h3⟩ := hx
  obtain rfl := Option.some.inj h
  have eg : ∀ args w, (callFunc 182 args).run Tryz.prog w = .ok (.enter 182 args) w := enters_of Tryz.func182 (by kernel_rfl) rfl
  refine sortFunc_calls (ρ := Tryz.sort181_ren) (k := 3) Tryz.sort181 rfl Tryz.isAgg103 Tryz.sizeOf103 ⟨_, Tryz.func181, by kernel_rfl, by kernel_rfl⟩ eg keyLt_swo (enc := EC.enc) (key := EC.key) (cf := cfE) (fun _ => rfl) (by decide) (fun x v hv => ?_) keyLt_cf cmp_calls (fun e he => ?_) (fun e he w R us fp hv ho hl => ?_) (fun e he => ?_) (h2.imp fun hne => keyLt_tri hne) h3
  · simp only [EC.enc, List.mem_cons, List.not_mem_nil, or_false] at hv
    rcases hv with rfl | rfl | rfl
    · rfl
    · rfl
    · exact x.h
  · obtain ⟨f, t, ps, rfl, _⟩ := h1 e he
    exact ⟨_, rfl⟩
  · obtain ⟨f, t, ps, rfl, _⟩ := h1 e he
    simp only [V, Cs] at hv
    obtain ⟨us', e0, u1, us1, f1, f2, rfl, _, ⟨rfl, rfl⟩, ⟨u2, us2, f3, f4, rfl, _, ⟨rfl, rfl⟩, ⟨u3, us3, f5, f6, rfl, o3, _, ⟨rfl, rfl⟩, _⟩, _⟩, _⟩ := hv
    have e1 : us = [.string ⟨f.toArray⟩, .string ⟨t.toArray⟩, u3] := by simpa using e0
    subst e1
    exact ⟨⟨f, t, u3, o3⟩, rfl, rfl⟩
  · obtain ⟨f, t, ps, rfl, hn⟩ := h1 e he
    simp only [PV.noR, PV.noRL, and_true, true_and]
    exact hn
end Go.Proofs.YtmanllfmgghadaaGreatDoor.PVE
namespace Go.Proofs.YtmanllfmgghadaaGreatDoor.PVE
open PV
section
variable {C : Nat → List PV → Option Ans} {E : Env} {st : St}
@[go_sem] theorem o_makeMap {t : Nat} : opR C E st (.makeMap t none) = mkMapE E st t := rfl
@[go_sem] theorem o_lookup {t : Nat} {x y : Operand} : opR C E st (.lookup t x y false) = lookE E st t (ev E st x) (ev E st y) := rfl
@[go_sem] theorem o_mapUpdate {t : Nat} {x y z : Operand} : opR C E st (.mapUpdate t x y z) = updE E st t (ev E st x) (ev E st y) (ev E st z) := rfl
@[go_sem] theorem o_range {t : Nat} {x : Operand} : opR C E st (.range t x) = rangeE E st t (ev E st x) := rfl
@[go_sem] theorem o_entry {x : Operand} : opR C E st (.entry x) = entryE st (ev E st x) := rfl
end
attribute [go_sem] mkMapE lookE lookV updE updV msetO rangeE entryE keyOk nextV
@[go_sem] theorem mpLeft_1 {es : List PV} : mpLeft (0 + 1) es = es := rfl
@[go_sem] theorem mpLeft_2 {k v : PV} {es : List PV} : mpLeft (1 + 1) (k :: v :: es) = es := rfl
def encM : List Entry → List PV
  | [] => []
  | e :: l => .agg [.str e.field, .str e.term] :: .slo 2 (e.posts.map Post.pv) :: encM l
theorem encM_free : ∀ l, PV.freeL (encM l)
  | [] => by simp [encM, PV.freeL]
  | e :: l => by simp [encM, PV.freeL, PV.free, enc_freeL, encM_free l]
@[go_sem] theorem encM_freeL (l : List Entry) : PV.freeL (encM l) = True := eq_true (encM_free l)
def entIx (l : List Entry) (f t : Str) : Option Nat := l.findIdx? (entEq f t)
theorem mfind_enc (f t : Str) : ∀ (l : List Entry) (i : Nat), mfind [2, 2] [.str f, .str t] (encM l) i = some ((entIx l f t).map fun j => (i + j, .slo 2 ((l.getD j default).posts.map Post.pv)))
  | [], i => rfl
  | e :: l, i => by
    have ih := mfind_enc f t l (i + 1)
    rw [encM, mfind]
    have he : eqCells [2, 2] [.str f, .str t] [.str e.field, .str e.term] = some (decide (f = e.field) && (decide (t = e.term) && true)) := rfl
    rw [he]
    simp only [Bool.and_true]
    have hq : (decide (f = e.field) && decide (t = e.term)) = entEq f t e := by unfold entEq; congr 1 <;> simp [eq_comm]
    rw [hq, entIx, List.findIdx?_cons]
    cases h : entEq f t e with
    | true => simp
    | false =>
      simp only [Bool.false_eq_true, if_false]
      rw [ih, entIx]
      cases List.findIdx? (entEq f t) l with
      | none => rfl
      | some j => simp [Nat.add_comm, Nat.add_left_comm]
theorem mfind_take (f t : Str) : ∀ (l : List Entry) (i j : Nat), entIx l f t = some j → mfind [2, 2] [.str f, .str t] (mtake (encM l) j) i = some (some (i + j, .undef))
  | [], i, j, h => by simp [entIx] at h
  | e :: l, i, j, h => by
    have hq : (decide (f = e.field) && decide (t = e.term)) = entEq f t e := by unfold entEq; congr 1 <;> simp [eq_comm]
    have he : eqCells [2, 2] [.str f, .str t] [.str e.field, .str e.term] = some (entEq f t e) := by rw [← hq]; show some (decide (f = e.field) && (decide (t = e.term) && true)) = _; rw [Bool.and_true]
    rw [entIx, List.findIdx?_cons] at h
    cases hc : entEq f t e with
    | true =>
      rw [hc] at h he
      simp only [if_true, Option.some.injEq] at h
      subst h
      rw [encM, mtake, mfind, he]
      simp
    | false =>
      rw [hc] at h he
      simp only [Bool.false_eq_true, if_false, Option.map_eq_some_iff] at h
      obtain ⟨k, hk, rfl⟩ := h
      rw [encM, mtake, mfind, he]
      simp only [Bool.false_eq_true, if_false]
      rw [mfind_take f t l (i + 1) k hk]
      simp [Nat.add_comm, Nat.add_left_comm]
theorem mset_take : ∀ (l : List Entry) (j : Nat) (f t : Str) (ps : List Post), j < l.length → mset (mtake (encM l) j) j (.agg [.str f, .str t]) (.slo 2 (ps.map Post.pv)) = encM (l.set j ⟨f, t, ps⟩)
  | [], j, f, t, ps, h => by simp at h
  | e :: l, 0, f, t, ps, _ => rfl
  | e :: l, j + 1, f, t, ps, h => by
    rw [encM, mtake, mset, mset_take l j f t ps (by simpa using h)]
    rfl
theorem encM_snoc (l : List Entry) (f t : Str) (ps : List Post) : encM l ++ [.agg [.str f, .str t], .slo 2 (ps.map Post.pv)] = encM (l ++ [⟨f, t, ps⟩]) := by
  induction l with
  | nil => rfl
  | cons e l ih => simp only [encM, List.cons_append, ih]
theorem entIx_lt {l : List Entry} {f t : Str} {j : Nat} (h : entIx l f t = some j) : j < l.length ∧ entEq f t (l.getD j default) = true := by
  rw [entIx, List.findIdx?_eq_some_iff_getElem] at h
  obtain ⟨h1, h2, _⟩ := h
  exact ⟨h1, by rw [List.getD_eq_getElem?_getD, List.getElem?_eq_getElem h1]; exact h2⟩
def mapWord (l : List Entry) (f t : Str) (d a : Int) : List Entry := match entIx l f t with
  | some j => l.set j ⟨f, t, addPost d a (l.getD j default).posts⟩
  | none => l ++ [⟨f, t, [⟨d, [a]⟩]⟩]
theorem EntB.mword {n : Nat} {l : List Entry} (h : EntB n l) (f t : Str) (d a : Int) : EntB (n + 1) (mapWord l f t d a) := by
  obtain ⟨h1, h2⟩ := id h
  unfold mapWord
  split
  · rename_i j hj
    obtain ⟨hj1, _⟩ := entIx_lt hj
    have hg : l[j]? = some (l.getD j default) := by rw [List.getD_eq_getElem?_getD, List.getElem?_eq_getElem hj1]; rfl
    refine ⟨by rw [List.length_set]; omega, fun e he => ?_⟩
    rcases List.mem_or_eq_of_mem_set he with he | rfl
    · exact (h.mono (Nat.le_succ _)).2 e he
    · have hx2 := h2 _ (List.mem_of_getElem? hg)
      exact addPost_b hx2.2.1 hx2.2.2
  · refine ⟨by simp; omega, fun e he => ?_⟩
    rcases List.mem_append.1 he with he | he
    · exact (h.mono (Nat.le_succ _)).2 e he
    · simp at he; subst he; simp
def mWordsTo (f : Str) (id : Int) (ts : List Str) (l : List Entry) : Nat → List Entry
  | 0 => l
  | k + 1 => if ts.getD k default = [] then mWordsTo f id ts l k else mapWord (mWordsTo f id ts l k) f (ts.getD k default) id k
def mCellsTo (fl : List Field) (id : Int) (cs : List Cell) (l : List Entry) : Nat → List Entry
  | 0 => l
  | k + 1 => if (fieldOf fl (cs.getD k default).name).kind = 1 then mWordsTo (cs.getD k default).name id (terms (cs.getD k default).text) (mCellsTo fl id cs l k) (terms (cs.getD k default).text).length else mCellsTo fl id cs l k
def mRowsTo (fl : List Field) (rows : List DRow) : Nat → List Entry
  | 0 => []
  | k + 1 => mCellsTo fl (rows.getD k default).id (rows.getD k default).doc.cells (mRowsTo fl rows k) (rows.getD k default).doc.cells.length
theorem EntB.mwords {n : Nat} {l : List Entry} (h : EntB n l) (f : Str) (id : Int) (ts : List Str) : ∀ k, EntB (n + k) (mWordsTo f id ts l k)
  | 0 => h
  | k + 1 => by
    have ih := EntB.mwords h f id ts k
    rw [mWordsTo]
    split
    · exact ih.mono (by omega)
    · exact ih.mword _ _ _ _
theorem EntB.mcells {n : Nat} {l : List Entry} (h : EntB n l) (fl : List Field) (id : Int) (cs : List Cell) (hc : ∀ c ∈ cs, c.text.length ≤ 1000) : ∀ k, k ≤ cs.length → EntB (n + 1001 * k) (mCellsTo fl id cs l k)
  | 0, _ => h
  | k + 1, hk => by
    have ih := EntB.mcells h fl id cs hc k (by omega)
    obtain ⟨c, hx, hg, _⟩ := drop_get (l := cs) (i := k) (by omega) default
    have h1 := hc c (List.mem_of_getElem? hx)
    have h2 := words_len2 c.text
    rw [mCellsTo, hg]
    split
    · exact (ih.mwords _ _ _ _).mono (by omega)
    · exact ih.mono (by omega)
theorem EntB.mrows (fl : List Field) {rows : List DRow} (h : RowsSt rows) : ∀ k, k ≤ rows.length → EntB (1001000 * k) (mRowsTo fl rows k)
  | 0, _ => ⟨Nat.zero_le _, fun e he => by simp [mRowsTo] at he⟩
  | k + 1, hk => by
    obtain ⟨r, hx, hg, _⟩ := drop_get (l := rows) (i := k) (by omega) default
    have hr := h.2 r (List.mem_of_getElem? hx)
    rw [mRowsTo, hg]
    exact ((EntB.mrows fl h k (by omega)).mcells fl r.id r.doc.cells (fun c hc => (hr.2.2 c hc).2) _ (Nat.le_refl _)).mono (by have := hr.2.1; omega)
def picks : List Entry → List (Entry × List Entry)
  | [] => []
  | e :: l => (e, l) :: (picks l).map fun x => (x.1, e :: x.2)
theorem picks_perm : ∀ {l : List Entry} {x : Entry} {l' : List Entry}, (x, l') ∈ picks l → (x :: l').Perm l
  | [], x, l', h => by simp [picks] at h
  | e :: l, x, l', h => by
    simp only [picks, List.mem_cons, List.mem_map, Prod.mk.injEq] at h
    rcases h with ⟨rfl, rfl⟩ | ⟨⟨y, m⟩, hm, rfl, rfl⟩
    · exact .rfl
    · exact (List.Perm.swap e y m).trans ((picks_perm hm).cons e)
theorem pick_enc : ∀ l : List Entry, pickKV (encM l) = (picks l).map fun x => (.agg [.str x.1.field, .str x.1.term], .slo 2 (x.1.posts.map Post.pv), encM x.2)
  | [] => rfl
  | e :: l => by
    rw [encM, pickKV, pick_enc l, picks, List.map_cons, List.map_map, List.map_map]
    rfl
section
variable {S : Sys} {F : Fx} {T : Nat → PV} {St' : Nat → Option Root} {N : Nat} {ks : List Fr} {rr : Ans} {all : Array Oper} {lo : List Oper} {d r : Nat}
@[go_sem] theorem nxtE_enc (l : List Entry) : nxtE S F (some (nextO ⟨T, St', N⟩ r (encM l))) (some d) all lo ⟨T, St', N⟩ ks rr =
    ((l = [] → Ends S F (.ops all lo ⟨upd T d (.tup [.bool false]), St', N⟩ ks) rr) ∧ ∀ x l', (x, l') ∈ picks l → Ends S F (.ops all lo ⟨upd T d (.tup [.bool true, .undef, .undef]), applyStore St' [] [(r, ⟨.mp 2 (.agg [.str x.field, .str x.term] :: .slo 2 (x.posts.map Post.pv) :: encM l'), []⟩)], N⟩ ks) rr) := by
  refine propext ?_
  cases l with
  | nil =>
    have e : nextO ⟨T, St', N⟩ r (encM []) = [⟨.tup [.bool false], [], [], N⟩] := rfl
    rw [e]
    simp only [nxtE, List.mem_singleton, forall_eq, picks, List.not_mem_nil, false_implies, implies_true, and_true, ne_eq, reduceCtorEq, not_false_eq_true, true_and, true_implies]
    exact Iff.rfl
  | cons e l =>
    have e1 : nextO ⟨T, St', N⟩ r (encM (e :: l)) = (picks (e :: l)).map fun x => ⟨.tup [.bool true, .undef, .undef], [], [(r, ⟨.mp 2 (.agg [.str x.1.field, .str x.1.term] :: .slo 2 (x.1.posts.map Post.pv) :: encM x.2), []⟩)], N⟩ := by
      have e0 : ∀ es : List PV, es ≠ [] → nextO ⟨T, St', N⟩ r es = (pickKV es).map fun x => (⟨.tup [.bool true, .undef, .undef], [], [(r, ⟨.mp 2 (x.1 :: x.2.1 :: x.2.2), []⟩)], N⟩ : Eff) := by
        intro es h
        cases es with
        | nil => exact absurd rfl h
        | cons k es => rfl
      rw [e0 _ (by simp [encM]), pick_enc, List.map_map]
      rfl
    rw [e1]
    simp only [nxtE, List.mem_map, reduceCtorEq, false_implies, true_and]
    constructor
    · rintro ⟨_, h⟩ x l' hx
      exact h _ ⟨(x, l'), hx, rfl⟩
    · intro h
      refine ⟨by simp [picks], ?_⟩
      rintro _ ⟨⟨x, l'⟩, hx, rfl⟩
      exact h x l' hx
end
def insE (e : Entry) : List Entry → List Entry
  | [] => [e]
  | x :: l => if keyLt (e.field, e.term) (x.field, x.term) = true then e :: x :: l else x :: insE e l
def sortEnt : List Entry → List Entry
  | [] => []
  | e :: l => insE e (sortEnt l)
theorem entKey_pv (e : Entry) : entKey e.pv = (e.field, e.term) := rfl
theorem insBy_pv (e : Entry) : ∀ l : List Entry, insBy keyLt entKey e.pv (l.map Entry.pv) = (insE e l).map Entry.pv
  | [] => rfl
  | x :: l => by
    rw [List.map_cons, insBy, insE, entKey_pv, entKey_pv, insBy_pv e l]
    split <;> rfl
theorem sortBy_pv : ∀ l : List Entry, sortBy keyLt entKey (l.map Entry.pv) = (sortEnt l).map Entry.pv
  | [] => rfl
  | e :: l => by rw [List.map_cons, sortBy, sortBy_pv l, insBy_pv, sortEnt]
def DistE (l : List Entry) : Prop := l.Pairwise fun a b => (a.field, a.term) ≠ (b.field, b.term)
theorem isEnt_pv (e : Entry) : IsEnt e.pv := ⟨e.field, e.term, e.posts.map Post.pv, rfl, by rw [enc_noRL]; trivial⟩
theorem sortE_R (l : List Entry) (hd : DistE l) (hl : l.length ≤ 1099511627776) : R S0 181 [.slo 3 (l.map Entry.pv), .fn 182 []] = some ⟨[some (.slo 3 ((sortEnt l).map Entry.pv)), none], .tup []⟩ := by
  refine R_lib (Eq.trans (b := libSortE [.slo 3 (l.map Entry.pv), .fn 182 []]) (by kernel_rfl) ?_)
  rw [libSortE, if_pos, sortBy_pv]
  refine ⟨rfl, fun e he => ?_, ?_, by simpa using hl⟩
  · obtain ⟨x, _, rfl⟩ := List.mem_map.1 he
    exact isEnt_pv x
  · exact List.pairwise_map.2 hd
end Go.Proofs.YtmanllfmgghadaaGreatDoor.PVE
