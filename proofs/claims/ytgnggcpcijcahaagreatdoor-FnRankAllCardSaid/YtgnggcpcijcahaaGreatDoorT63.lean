/- The program's comparison of hits, and its sort; the ranking. -/
import Derived.Test.YtgnggcpcijcahaaGreatDoorT62
set_option linter.unusedVariables false
set_option linter.unusedSimpArgs false
set_option maxRecDepth 100000
namespace Go.Proofs.YtgnggcpcijcahaaGreatDoor.PVE
open PV Query
open Go.RowKit Go.Lib Go.Sort Go.Shelf
def cmpI (a b : Int) : Int := if a < b then -1 else if a = b then 0 else 1
def cfH (p q : Int × Str) : Int := if cmpI q.1 p.1 = 0 then cmpS p.2 q.2 else cmpI q.1 p.1
theorem hitLt_cf (a b : Int × Str) : hitLt a b = decide (cfH a b < 0) := by
  unfold hitLt cfH cmpI cmpS
  simp only [bl_def]
  rcases Int.lt_trichotomy b.1 a.1 with h | h | h
  · simp [h]
  · have h0 : ¬ b.1 < a.1 := by omega
    rcases sLt_tri a.2 b.2 with k | k | k
    · simp [h, k]
    · have k0 : ¬ b.2 < b.2 := List.lt_irrefl _
      simp [h, k, k0]
    · have k0 : ¬ a.2 < b.2 := fun c => List.lt_irrefl _ (List.lt_trans c k)
      have k1 : ¬ a.2 = b.2 := fun c => by rw [c] at k; exact List.lt_irrefl _ k
      simp [h, k0, k1]
  · have h0 : ¬ b.1 < a.1 := by omega
    have h1 : ¬ a.1 = b.1 := by omega
    have h2 : ¬ b.1 = a.1 := by omega
    simp [h0, h1, h2]
@[go_sem] theorem isNaNI_C (s : Int) : R SC 123 [.int .i64 s] = some ⟨[none], .bool false⟩ := by
  refine goC123 rfl ?_
  simp only [go_sem, ↓reduceIte, Nat.reduceAdd, Nat.reduceSub, Nat.reduceEqDiff, Nat.reduceLT, Nat.reduceLeDiff, Nat.reduceMul, Int.reduceNeg, Int.reduceToNat, Int.reduceEq, Int.reduceLT, Int.reduceLE, reduceCtorEq, Tryz.f123]
@[go_sem] theorem compareI_C (a b : Int) : R SC 69 [.int .i64 a, .int .i64 b] = some ⟨[none, none], .int .i64 (cmpI a b)⟩ := by
  refine goC69 rfl ?_
  by_cases h : a < b
  · simp only [go_sem, ↓reduceIte, Nat.reduceAdd, Nat.reduceSub, Nat.reduceEqDiff, Nat.reduceLT, Nat.reduceLeDiff, Nat.reduceMul, Int.reduceNeg, Int.reduceToNat, Int.reduceEq, Int.reduceLT, Int.reduceLE, reduceCtorEq, Tryz.f69, h]
    simp [cmpI, h]
  · by_cases he : a = b
    · subst he
      simp only [go_sem, ↓reduceIte, Nat.reduceAdd, Nat.reduceSub, Nat.reduceEqDiff, Nat.reduceLT, Nat.reduceLeDiff, Nat.reduceMul, Int.reduceNeg, Int.reduceToNat, Int.reduceEq, Int.reduceLT, Int.reduceLE, reduceCtorEq, Tryz.f69, h]
      simp [cmpI]
    · simp only [go_sem, ↓reduceIte, Nat.reduceAdd, Nat.reduceSub, Nat.reduceEqDiff, Nat.reduceLT, Nat.reduceLeDiff, Nat.reduceMul, Int.reduceNeg, Int.reduceToNat, Int.reduceEq, Int.reduceLT, Int.reduceLE, reduceCtorEq, Tryz.f69, h, he]
      simp [cmpI, h, he]
      omega
@[go_sem] theorem cmpH_C (d1 d2 s1 s2 : Int) (k1 k2 : Str) : R SC 67 [.agg [.int .i64 d1, .str k1, .int .i64 s1], .agg [.int .i64 d2, .str k2, .int .i64 s2]] = some ⟨[none, none], .int .i64 (cfH (s1, k1) (s2, k2))⟩ := by
  refine goC67 rfl ?_
  simp only [go_sem, ↓reduceIte, Nat.reduceAdd, Nat.reduceSub, Nat.reduceEqDiff, Nat.reduceLT, Nat.reduceLeDiff, Nat.reduceMul, Int.reduceNeg, Int.reduceToNat, Int.reduceEq, Int.reduceLT, Int.reduceLE, reduceCtorEq, Tryz.f67]
  exact ⟨by decide +kernel, rfl⟩
structure HC where
  d : Int
  k : Str
  s : Int
instance : Inhabited HC := ⟨⟨0, [], 0⟩⟩
def HC.enc (x : HC) : List Value := [.int .i64 x.d, .string ⟨x.k.toArray⟩, .int .i64 x.s]
def HC.key (x : HC) : Int × Str := (x.s, x.k)
attribute [local instance] dmYes in
theorem cmpH_calls (x y : HC) (W : World) : Calls Tryz.prog 67 #[.agg x.enc.toArray, .agg y.enc.toArray] W fun e w' => e = .returned (.int .i64 (cfH x.key y.key)) ∧ ∃ q os', w' = grow (W.drewN q) os' := by
  have hc := tab_soundD (t := tabC) Tryz.checked.mixed (fun f xs a h => by cases h) (cmpH_C x.d y.d x.s y.s x.k y.k)
  have := hc.2 W (fun _ => False) [.agg x.enc.toArray, .agg y.enc.toArray] [] (fun g cs hg => by cases hg) ?_ List.nodup_nil (by simp) (fun b hb => hb.elim)
  · refine this.mono ?_
    rintro e w' ⟨v, R', fr, fb, rfl, r1, r2, r3, r4, r5, r6, r7, r8, r9, r10, r11⟩
    simp only [V] at r1
    obtain ⟨rfl, _⟩ := r1
    refine ⟨rfl, w'.drawn - W.drawn, w'.heap.extract W.heap.size w'.heap.size, ?_⟩
    have hd := r9.2 (show dmYes.dm = true from rfl)
    have hh : w'.heap = W.heap ++ w'.heap.extract W.heap.size w'.heap.size := by
      apply Array.ext_getElem?
      intro i
      by_cases hi : i < W.heap.size
      · rw [Array.getElem?_append_left hi]
        exact r7 i hi (by simp)
      · rw [Array.getElem?_append_right (by omega), Array.getElem?_extract]
        by_cases h2 : i < w'.heap.size
        · rw [if_pos (by omega)]; congr 1; omega
        · rw [if_neg (by omega), Array.getElem?_eq_none (by omega)]
    obtain ⟨h1, h2, h3, h4, h5⟩ := w'
    simp only at hd hh r9 r10 r11
    have e1 := r9.1
    simp only at e1
    subst e1 r10 r11
    simp only [grow, World.drewN]
    congr 1
    omega
  · simp only [Ts, V, Cs]
    exact ⟨_, _, [], [], rfl, ⟨_, rfl, _, _, [], [], rfl, rfl, ⟨rfl, rfl⟩, ⟨_, _, [], [], rfl, rfl, ⟨rfl, rfl⟩, ⟨_, _, [], [], rfl, rfl, ⟨rfl, rfl⟩, ⟨rfl, rfl⟩, rfl⟩, rfl⟩, rfl⟩, ⟨_, _, [], [], rfl, ⟨_, rfl, _, _, [], [], rfl, rfl, ⟨rfl, rfl⟩, ⟨_, _, [], [], rfl, rfl, ⟨rfl, rfl⟩, ⟨_, _, [], [], rfl, rfl, ⟨rfl, rfl⟩, ⟨rfl, rfl⟩, rfl⟩, rfl⟩, rfl⟩, ⟨rfl, rfl⟩, rfl⟩, rfl⟩
theorem libSortH_ok {G : Nat → Option (List PV)} {xs : List PV} {a : Ans} (h : libSortH xs = some a) : PCalls Tryz.prog G 66 xs a.bks a.res false := by
  unfold libSortH at h
  split at h
  case h_2 => cases h
  rename_i es g
  split at h
  case isFalse => cases h
  rename_i hx
  obtain ⟨rfl, h1, h2, h3⟩ := hx
  obtain rfl := Option.some.inj h
  have eg : ∀ args w, (callFunc 67 args).run Tryz.prog w = .ok (.enter 67 args) w := enters_of Tryz.func67 (by kernel_rfl) rfl
  refine sortFunc_calls (ρ := Tryz.sort66_ren) (k := 3) Tryz.sort66 rfl Tryz.isAgg47 Tryz.sizeOf47 ⟨_, Tryz.func66, by kernel_rfl, by kernel_rfl⟩ eg hitLt_swo (enc := HC.enc) (key := HC.key) (cf := cfH) (fun _ => rfl) (by decide) (fun x v hv => ?_) hitLt_cf cmpH_calls (fun e he => ?_) (fun e he w R us fp hv ho hl => ?_) (fun e he => ?_) (h2.imp fun {a b} hne => ?_) h3
  · simp only [HC.enc, List.mem_cons, List.not_mem_nil, or_false] at hv
    rcases hv with rfl | rfl | rfl <;> rfl
  · obtain ⟨d, k, s, rfl⟩ := h1 e he
    exact ⟨_, rfl⟩
  · obtain ⟨d, k, s, rfl⟩ := h1 e he
    simp only [V, Cs] at hv
    obtain ⟨us', e0, u1, us1, f1, f2, rfl, _, ⟨rfl, rfl⟩, ⟨u2, us2, f3, f4, rfl, _, ⟨rfl, rfl⟩, ⟨u3, us3, f5, f6, rfl, o3, ⟨rfl, rfl⟩, ⟨rfl, rfl⟩, _⟩, _⟩, _⟩ := hv
    have e1 : us = [.int .i64 d, .string ⟨k.toArray⟩, .int .i64 s] := by simpa using e0
    subst e1
    exact ⟨⟨d, k, s⟩, rfl, rfl⟩
  · obtain ⟨d, k, s, rfl⟩ := h1 e he
    simp only [PV.noR, PV.noRL, and_true]
  · rcases hitLt_tri (hitKey a) (hitKey b) with h | h | h
    · exact .inl h
    · exact absurd h hne
    · exact .inr h
theorem hitKey_pv (h : Hit) : hitKey h.pv = hk h := rfl
def sortH (l : List Hit) : List Hit := match l with
  | [] => []
  | h :: l => putHit (sortH l) h
theorem sortH_perm : ∀ l : List Hit, (sortH l).Perm l
  | [] => .rfl
  | h :: l => by rw [sortH]; exact (putHit_perm _ _).trans ((sortH_perm l).cons h)
theorem sortH_sorted : ∀ {l : List Hit}, l.Pairwise (fun a b => hk a ≠ hk b) → SortedH (sortH l)
  | [], _ => by simp [sortH, SortedH]
  | h :: l, hp => by
    rw [List.pairwise_cons] at hp
    rw [sortH]
    exact putHit_sorted (sortH_sorted hp.2) fun x hx => (hp.1 x ((sortH_perm l).mem_iff.1 hx)).symm
theorem sortedH_eq {l m : List Hit} (h : l.Perm m) (hl : SortedH l) (hm : SortedH m) : l = m :=
  sorted_eq (r := fun a b => hitLt (hk a) (hk b) = true) (fun a h => by rw [hitLt_irr] at h; cases h) (fun a b h1 h2 => by have := hitLt_trans h1 h2; rw [hitLt_irr] at this; cases this) h hl hm
theorem insBy_hit (h : Hit) : ∀ {l : List Hit}, (∀ x ∈ l, hk x ≠ hk h) → insBy hitLt hitKey h.pv (l.map Hit.pv) = (putHit l h).map Hit.pv
  | [], _ => by rw [putHit_is]; rfl
  | a :: l, hne => by
    have ih := insBy_hit h (l := l) fun x hx => hne x (by simp [hx])
    rw [putHit_is] at ih ⊢
    rw [List.map_cons, insBy, hitKey_pv, hitKey_pv]
    rcases hitLt_tri (hk h) (hk a) with k | k | k
    · have c : ahead h a = false := by
        rw [ahead_lt]
        cases c : hitLt (hk a) (hk h) with
        | false => rfl
        | true => have := hitLt_trans k c; rw [hitLt_irr] at this; cases this
      rw [if_pos k]
      simp only [List.takeWhile_cons, c, List.dropWhile_cons, List.nil_append, Bool.false_eq_true, if_false, List.map_cons]
    · exact absurd k.symm (hne a (by simp))
    · have c : ahead h a = true := by rw [ahead_lt]; exact k
      have k2 : hitLt (hk h) (hk a) = false := by
        cases c2 : hitLt (hk h) (hk a) with
        | false => rfl
        | true => have := hitLt_trans k c2; rw [hitLt_irr] at this; cases this
      rw [k2, if_neg (by simp), ih]
      simp only [List.takeWhile_cons, c, if_true, List.dropWhile_cons, List.cons_append, List.map_cons]
theorem sortBy_hit : ∀ {l : List Hit}, l.Pairwise (fun a b => hk a ≠ hk b) → sortBy hitLt hitKey (l.map Hit.pv) = (sortH l).map Hit.pv
  | [], _ => rfl
  | h :: l, hp => by
    rw [List.pairwise_cons] at hp
    rw [List.map_cons, sortBy, sortBy_hit hp.2, sortH, insBy_hit h fun x hx => (hp.1 x ((sortH_perm l).mem_iff.1 hx)).symm]
@[go_sem] theorem sortH_R (l : List Hit) (hd : l.Pairwise (fun a b => hk a ≠ hk b)) (hl : l.length ≤ 1099511627776) : R S0 66 [.slo 3 (l.map Hit.pv), .fn 67 []] = some ⟨[some (.slo 3 ((sortH l).map Hit.pv)), none], .tup []⟩ := by
  refine R_lib (Eq.trans (b := libSortH [.slo 3 (l.map Hit.pv), .fn 67 []]) (by kernel_rfl) ?_)
  have h1 : ∀ e ∈ l.map Hit.pv, IsHit e := fun e he => by
    obtain ⟨h, _, rfl⟩ := List.mem_map.1 he
    exact ⟨_, _, _, rfl⟩
  have h2 : (l.map Hit.pv).Pairwise fun a b => hitKey a ≠ hitKey b := List.pairwise_map.2 hd
  have h3 : (l.map Hit.pv).length ≤ 1099511627776 := by rw [List.length_map]; exact hl
  rw [libSortH, if_pos ⟨rfl, h1, h2, h3⟩, sortBy_hit hd]
theorem hitsL_ne {fl : List Field} {rows : List DRow} {q : Query} (hp : rows.Pairwise (fun a b => a.doc.key ≠ b.doc.key)) : (hitsL fl rows q).Pairwise (fun a b => hk a ≠ hk b) := by
  rw [hitsL, List.pairwise_map]
  refine (hp.sublist List.filter_sublist).imp fun {a b} h hc => h ?_
  simp only [hitOf, Go.Proofs.YtgnggcpcijcahaaGreatDoor.PVE.hk, Prod.mk.injEq] at hc
  exact hc.2
theorem rank_sort {fl : List Field} {rows : List DRow} {q : Query} (hp : rows.Pairwise (fun a b => a.doc.key ≠ b.doc.key)) : sortH (hitsL fl rows q) = rankTo fl rows q rows.length :=
  sortedH_eq ((sortH_perm _).trans rankTo_hits.symm) (sortH_sorted (hitsL_ne hp)) (rankTo_sorted hp _ (Nat.le_refl _))
end Go.Proofs.YtgnggcpcijcahaaGreatDoor.PVE
