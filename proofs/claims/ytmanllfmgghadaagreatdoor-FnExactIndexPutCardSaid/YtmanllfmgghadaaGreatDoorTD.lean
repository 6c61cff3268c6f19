/- The index: the program's entries. -/
import Derived.Test.YtmanllfmgghadaaGreatDoorTC
set_option linter.unusedVariables false
set_option linter.unusedSimpArgs false
set_option maxRecDepth 100000
namespace Go.Proofs.YtmanllfmgghadaaGreatDoor.PVE
open PV
def keyE (e : Entry) : Str × Str := (e.field, e.term)
theorem distE_iff {l : List Entry} : DistE l ↔ (l.map keyE).Nodup := List.pairwise_map.symm
theorem DistE.mword {l : List Entry} (h : DistE l) (f t : Str) (d a : Int) : DistE (mapWord l f t d a) := by
  rw [distE_iff] at h ⊢
  unfold mapWord
  split
  · rename_i j hj
    obtain ⟨h1, h2⟩ := entIx_lt hj
    have e : (l.set j ⟨f, t, addPost d a (l.getD j default).posts⟩).map keyE = l.map keyE := by
      rw [List.map_set]
      apply List.ext_getElem?
      intro i
      rw [List.getElem?_set]
      split
      · rename_i hij
        subst hij
        simp only [entEq, Bool.and_eq_true, decide_eq_true_eq, List.getD_eq_getElem?_getD, List.getElem?_eq_getElem h1, Option.getD_some] at h2
        rw [if_pos (by simpa using h1), List.getElem?_map, List.getElem?_eq_getElem h1]
        simp [keyE, h2.1, h2.2]
      · rfl
    rw [e]; exact h
  · rename_i hn
    rw [entIx, List.findIdx?_eq_none_iff] at hn
    rw [List.map_append, List.nodup_append]
    refine ⟨h, by simp, ?_⟩
    rintro x hx y hy rfl
    simp only [List.map_cons, List.map_nil, List.mem_singleton] at hy
    obtain ⟨e, he, hk⟩ := List.mem_map.1 hx
    have := hn e he
    rw [hy] at hk
    simp only [keyE, Prod.mk.injEq] at hk
    simp [entEq, hk.1, hk.2] at this
theorem DistE.mwords {l : List Entry} (h : DistE l) (f : Str) (id : Int) (ts : List Str) : ∀ k, DistE (mWordsTo f id ts l k)
  | 0 => h
  | k + 1 => by
    rw [mWordsTo]
    split
    · exact DistE.mwords h f id ts k
    · exact (DistE.mwords h f id ts k).mword _ _ _ _
theorem DistE.mcells {l : List Entry} (h : DistE l) (fl : List Field) (id : Int) (cs : List Cell) : ∀ k, DistE (mCellsTo fl id cs l k)
  | 0 => h
  | k + 1 => by
    rw [mCellsTo]
    split
    · exact (DistE.mcells h fl id cs k).mwords _ _ _ _
    · exact DistE.mcells h fl id cs k
theorem DistE.mrows (fl : List Field) (rows : List DRow) : ∀ k, DistE (mRowsTo fl rows k)
  | 0 => List.Pairwise.nil
  | k + 1 => (DistE.mrows fl rows k).mcells fl _ _ _
@[go_sem] theorem encM_snoc1 (l : List Entry) (f t : Str) (d a : Int) : encM l ++ [.agg [.str f, .str t], .slo 2 [.agg [.int .i64 d, .slo 1 [.int .i64 a]]]] = encM (l ++ [Entry.mk f t [Post.mk d [a]]]) := encM_snoc l f t [⟨d, [a]⟩]
@[go_sem] theorem Entry.snoc2 (l : List Entry) (a b : Str) (ps : List Post) : l.map Entry.pv ++ [.agg [.str a, .str b, .slo 2 (ps.map Post.pv)]] = (l ++ [Entry.mk a b ps]).map Entry.pv := by simp [Entry.pv]
theorem insE_perm (e : Entry) : ∀ l, (insE e l).Perm (e :: l)
  | [] => .rfl
  | x :: l => by
    rw [insE]
    split
    · exact .rfl
    · exact ((insE_perm e l).cons x).trans (.swap e x l)
theorem sortEnt_perm : ∀ l : List Entry, (sortEnt l).Perm l
  | [] => .rfl
  | e :: l => (insE_perm e _).trans ((sortEnt_perm l).cons e)
def SortedE (l : List Entry) : Prop := l.Pairwise fun a b => keyLt (keyE a) (keyE b) = true
theorem insE_sorted (e : Entry) : ∀ l : List Entry, SortedE l → (∀ x ∈ l, keyE e ≠ keyE x) → SortedE (insE e l)
  | [], _, _ => by simp [insE, SortedE]
  | x :: l, h, hc => by
    have h' := List.pairwise_cons.1 h
    rw [insE]
    split
    · rename_i hx
      refine List.pairwise_cons.2 ⟨fun y hy => ?_, h⟩
      rcases List.mem_cons.1 hy with rfl | hy
      · exact hx
      · exact keyLt_swo.trans _ _ _ hx (h'.1 y hy)
    · rename_i hx
      refine List.pairwise_cons.2 ⟨fun y hy => ?_, insE_sorted e l h'.2 fun y hy => hc y (by simp [hy])⟩
      rcases List.mem_cons.1 ((insE_perm e l).mem_iff.1 hy) with rfl | hy
      · exact (keyLt_tri (hc x (by simp))).resolve_left hx
      · exact h'.1 y hy
theorem sortEnt_sorted : ∀ l : List Entry, DistE l → SortedE (sortEnt l)
  | [], _ => by simp [sortEnt, SortedE]
  | e :: l, h => by
    have h' := List.pairwise_cons.1 h
    exact insE_sorted e _ (sortEnt_sorted l h'.2) fun x hx => h'.1 x ((sortEnt_perm l).mem_iff.1 hx)
theorem sortedE_eq {l m : List Entry} (hp : l.Perm m) (hl : SortedE l) (hm : SortedE m) : l = m :=
  Go.Proofs.YtmanllfmgghadaaGreatDoor.PVE.sorted_eq (r := fun a b => keyLt (keyE a) (keyE b) = true) (fun a h => by rw [keyLt_swo.irrefl] at h; cases h) (fun a b h1 h2 => by have := keyLt_swo.trans _ _ _ h1 h2; rw [keyLt_swo.irrefl] at this; cases this) hp hl hm
theorem DistE.perm {l m : List Entry} (h : DistE l) (hp : m.Perm l) : DistE m := by
  rw [distE_iff] at h ⊢
  exact (hp.map keyE).nodup_iff.2 h
theorem sortEnt_eq {l m : List Entry} (hp : l.Perm m) (hm : DistE m) : sortEnt l = sortEnt m :=
  sortedE_eq ((sortEnt_perm l).trans (hp.trans (sortEnt_perm m).symm)) (sortEnt_sorted l (hm.perm hp)) (sortEnt_sorted m hm)
def iterR (o : Option (Str × Str)) (l : List Entry) : PV := match o with
  | none => .mp 1 (encM l)
  | some p => .mp 2 (.agg [.str p.1, .str p.2] :: .undef :: encM l)
theorem entries_R (fl : List Field) (rows : List DRow) (hfl : fl.length ≤ 1099511627776) (hr : RowsSt rows) : R S0 124 [.sl (fl.map Field.pv), .sl (rows.map DRow.pvF)] = some ⟨[none, none], .slo 3 ((sortEnt (mRowsTo fl rows rows.length)).map Entry.pv)⟩ := by
  obtain ⟨hl, hrs⟩ := id hr
  refine go124 rfl ?_; simp only [go_sem, ↓reduceIte, Nat.reduceAdd, Nat.reduceSub, Nat.reduceEqDiff, Nat.reduceLT, Nat.reduceLeDiff, Nat.reduceMul, Int.reduceNeg, Int.reduceToNat, Int.reduceEq, Int.reduceLT, Int.reduceLE, reduceCtorEq, Tryz.f124]
  refine ends_for rows.length (by omega) (fun i _ => mkSt [(0, .sl (fl.map Field.pv)), (5, .own 0), (18, .sl (rows.map DRow.pvF)), (19, .int .i64 rows.length), (20, .int .i64 i)] [.mp 0 (encM (mRowsTo fl rows i))]) (fun _ _ => True) 0 () (by omega) trivial ?_ ?_
  · rintro i _ hi _ hw ih
    obtain ⟨r, hx, hg, _⟩ := drop_get hi default
    obtain ⟨_, hcl, hcs⟩ := hrs r (List.mem_of_getElem? hx)
    have hBi := EntB.mrows fl hr i (by omega)
    have e0 : mRowsTo fl rows (i + 1) = mCellsTo fl r.id r.doc.cells (mRowsTo fl rows i) r.doc.cells.length := by rw [mRowsTo, hg]
    have ih' := ih () trivial
    rw [e0] at ih'
    simp only [go_sem, ↓reduceIte, Nat.reduceAdd, Nat.reduceSub, Nat.reduceEqDiff, Nat.reduceLT, Nat.reduceLeDiff, Nat.reduceMul, Int.reduceNeg, Int.reduceToNat, Int.reduceEq, Int.reduceLT, Int.reduceLE, reduceCtorEq, hi, hw, hg, hx]
    refine ends_for r.doc.cells.length (by omega) (fun j _ => mkSt [(0, .sl (fl.map Field.pv)), (5, .own 0), (7, .addr 1 0 0), (18, .sl (rows.map DRow.pvF)), (19, .int .i64 rows.length), (20, .int .i64 i), (26, .sl (r.doc.cells.map Cell.pv)), (27, .int .i64 r.doc.cells.length), (28, .int .i64 j)] [.mp 0 (encM (mCellsTo fl r.id r.doc.cells (mRowsTo fl rows i) j)), .pto [.int .i64 r.id, .str r.doc.key, .sl (r.doc.cells.map Cell.pv)]]) (fun _ _ => True) 0 () (by omega) trivial ?_ ?_
    · rintro j _ hj _ hwj ihj
      obtain ⟨c, hcx, hcg, _⟩ := drop_get hj default
      obtain ⟨hc1, hc2⟩ := hcs c (List.mem_of_getElem? hcx)
      have hc1' : c.name.length ≤ 1099511627776 := by omega
      have hc2' : c.text.length ≤ 1099511627776 := by omega
      have hBj := hBi.mcells fl r.id r.doc.cells (fun c hc => (hcs c hc).2) j (by omega)
      have h2 := words_len2 c.text
      have ihj' := ihj () trivial
      by_cases hk : (fieldOf fl c.name).kind = 1
      case neg =>
        have e1 : mCellsTo fl r.id r.doc.cells (mRowsTo fl rows i) (j + 1) = mCellsTo fl r.id r.doc.cells (mRowsTo fl rows i) j := by rw [mCellsTo, hcg, if_neg hk]
        rw [e1] at ihj'
        simp only [go_sem, ↓reduceIte, Nat.reduceAdd, Nat.reduceSub, Nat.reduceEqDiff, Nat.reduceLT, Nat.reduceLeDiff, Nat.reduceMul, Int.reduceNeg, Int.reduceToNat, Int.reduceEq, Int.reduceLT, Int.reduceLE, reduceCtorEq, hj, hwj, hcg, hcx, hfl, hk]
        exact ihj'
      have e1 : mCellsTo fl r.id r.doc.cells (mRowsTo fl rows i) (j + 1) = mWordsTo c.name r.id (terms c.text) (mCellsTo fl r.id r.doc.cells (mRowsTo fl rows i) j) (terms c.text).length := by rw [mCellsTo, hcg, if_pos hk]
      rw [e1] at ihj'
      generalize mCellsTo fl r.id r.doc.cells (mRowsTo fl rows i) j = L0 at hBj ihj' ⊢
      simp only [go_sem, ↓reduceIte, Nat.reduceAdd, Nat.reduceSub, Nat.reduceEqDiff, Nat.reduceLT, Nat.reduceLeDiff, Nat.reduceMul, Int.reduceNeg, Int.reduceToNat, Int.reduceEq, Int.reduceLT, Int.reduceLE, reduceCtorEq, hj, hwj, hcg, hcx, hfl, eq_true hk, hc2']
      refine ends_for (terms c.text).length (by omega) (fun k _ => mkSt [(0, .sl (fl.map Field.pv)), (5, .own 0), (7, .addr 1 0 0), (9, .addr 2 0 0), (18, .sl (rows.map DRow.pvF)), (19, .int .i64 rows.length), (20, .int .i64 i), (26, .sl (r.doc.cells.map Cell.pv)), (27, .int .i64 r.doc.cells.length), (28, .int .i64 j), (40, .own 3), (41, .int .i64 (terms c.text).length), (42, .int .i64 k)] [.mp 0 (encM (mWordsTo c.name r.id (terms c.text) L0 k)), .pto [.int .i64 r.id, .str r.doc.key, .sl (r.doc.cells.map Cell.pv)], .pto [.str c.name, .str c.text], .slo 1 ((terms c.text).map .str)]) (fun _ _ => True) 0 () (by omega) trivial ?_ ?_
      · rintro k _ hkl _ hwk ihk
        obtain ⟨t, htx, htg, _⟩ := drop_get hkl default
        have ihk' := ihk () trivial
        by_cases h0 : t = []
        · have e2 : mWordsTo c.name r.id (terms c.text) L0 (k + 1) = mWordsTo c.name r.id (terms c.text) L0 k := by rw [mWordsTo, htg, if_pos h0]
          rw [e2] at ihk'
          simp only [go_sem, ↓reduceIte, Nat.reduceAdd, Nat.reduceSub, Nat.reduceEqDiff, Nat.reduceLT, Nat.reduceLeDiff, Nat.reduceMul, Int.reduceNeg, Int.reduceToNat, Int.reduceEq, Int.reduceLT, Int.reduceLE, reduceCtorEq, hkl, hwk, htg, htx, eq_true h0]
          exact ihk'
        have e2 : mWordsTo c.name r.id (terms c.text) L0 (k + 1) = mapWord (mWordsTo c.name r.id (terms c.text) L0 k) c.name t r.id k := by rw [mWordsTo, htg, if_neg h0]
        rw [e2] at ihk'
        have hBk := hBj.mwords c.name r.id (terms c.text) k
        generalize mWordsTo c.name r.id (terms c.text) L0 k = L at hBk ihk' ⊢
        have hm0 := mfind_enc c.name t L 0
        have hn1 : IntKind.i64.wrap (0 - 1) = -1 := rfl
        cases hix : entIx L c.name t with
        | none =>
          rw [hix] at hm0
          simp only [Option.map_none] at hm0
          have e3 : mapWord L c.name t r.id k = L ++ [⟨c.name, t, [⟨r.id, [(k : Int)]⟩]⟩] := by rw [mapWord, hix]
          rw [e3] at ihk'
          simp only [go_sem, ↓reduceIte, Nat.reduceAdd, Nat.reduceSub, Nat.reduceEqDiff, Nat.reduceLT, Nat.reduceLeDiff, Nat.reduceMul, Int.reduceNeg, Int.reduceToNat, Int.reduceEq, Int.reduceLT, Int.reduceLE, reduceCtorEq, hkl, hwk, htg, htx, h0, hm0, hn1]
          exact ihk'
        | some m =>
          obtain ⟨hml, hme⟩ := entIx_lt hix
          rw [hix] at hm0
          simp only [Option.map_some, Nat.zero_add] at hm0
          have hmx : L[m]? = some (L.getD m default) := by rw [List.getD_eq_getElem?_getD, List.getElem?_eq_getElem hml]; rfl
          obtain ⟨hne, hpl, hps⟩ := hBk.2 _ (List.mem_of_getElem? hmx)
          have e3 : mapWord L c.name t r.id k = L.set m ⟨c.name, t, addPost r.id k (L.getD m default).posts⟩ := by rw [mapWord, hix]
          rw [e3] at ihk'
          generalize (L.getD m default).posts = ps at hne hpl hps hm0 ihk'
          have hpos : 0 < ps.length := List.length_pos_iff.2 hne
          obtain ⟨p, hp, hpg, _⟩ := drop_get (l := ps) (i := ps.length - 1) (by omega) default
          have hat := hps p (List.mem_of_getElem? hp)
          have e4 : IntKind.i64.wrap ((ps.length : Int) - 1) = ((ps.length - 1 : Nat) : Int) := by rw [wrap_in (by omega) (by omega)]; omega
          have e5 : ps.length - 1 < ps.length := by omega
          have e6 : (0 : Int) ≤ ((ps.length - 1 : Nat) : Int) := by omega
          have hm2 := mfind_take c.name t L 0 m hix
          rw [Nat.zero_add] at hm2
          by_cases hd : p.doc = r.id
          · have hadd : addPost r.id k ps = ps.set (ps.length - 1) ⟨r.id, p.ats ++ [(k : Int)]⟩ := by rw [addPost, List.getLast?_eq_getElem?, hp]; simp [hd]
            rw [hadd] at ihk'
            have hset := mset_take L m c.name t (ps.set (ps.length - 1) ⟨r.id, p.ats ++ [(k : Int)]⟩) hml
            simp only [go_sem, ↓reduceIte, Nat.reduceAdd, Nat.reduceSub, Nat.reduceEqDiff, Nat.reduceLT, Nat.reduceLeDiff, Nat.reduceMul, Int.reduceNeg, Int.reduceToNat, Int.reduceEq, Int.reduceLT, Int.reduceLE, reduceCtorEq, hkl, hwk, htg, htx, h0, hm0, hm2, e4, e5, e6, hp, hpg, hd, hset]
            exact ⟨by omega, ihk'⟩
          · have hadd : addPost r.id k ps = ps ++ [⟨r.id, [(k : Int)]⟩] := by rw [addPost, List.getLast?_eq_getElem?, hp]; simp [hd]
            rw [hadd] at ihk'
            have hset := mset_take L m c.name t (ps ++ [⟨r.id, [(k : Int)]⟩]) hml
            simp only [go_sem, ↓reduceIte, Nat.reduceAdd, Nat.reduceSub, Nat.reduceEqDiff, Nat.reduceLT, Nat.reduceLeDiff, Nat.reduceMul, Int.reduceNeg, Int.reduceToNat, Int.reduceEq, Int.reduceLT, Int.reduceLE, reduceCtorEq, hkl, hwk, htg, htx, h0, hm0, hm2, e4, e5, e6, hp, hpg, hd, hset]
            exact ⟨by omega, ihk'⟩
      · rintro _ _
        simp only [go_sem, ↓reduceIte, Nat.reduceAdd, Nat.reduceSub, Nat.reduceEqDiff, Nat.reduceLT, Nat.reduceLeDiff, Nat.reduceMul, Int.reduceNeg, Int.reduceToNat, Int.reduceEq, Int.reduceLT, Int.reduceLE, reduceCtorEq, hwj]
        exact ihj'
    · rintro _ _
      simp only [go_sem, ↓reduceIte, Nat.reduceAdd, Nat.reduceSub, Nat.reduceEqDiff, Nat.reduceLT, Nat.reduceLeDiff, Nat.reduceMul, Int.reduceNeg, Int.reduceToNat, Int.reduceEq, Int.reduceLT, Int.reduceLE, reduceCtorEq, hw]
      exact ih'
  · rintro _ _
    have hB := EntB.mrows fl hr rows.length (Nat.le_refl _)
    have hD := DistE.mrows fl rows rows.length
    simp only [go_sem, ↓reduceIte, Nat.reduceAdd, Nat.reduceSub, Nat.reduceEqDiff, Nat.reduceLT, Nat.reduceLeDiff, Nat.reduceMul, Int.reduceNeg, Int.reduceToNat, Int.reduceEq, Int.reduceLT, Int.reduceLE, reduceCtorEq]
    generalize mRowsTo fl rows rows.length = L at hB hD ⊢
    refine ends_wh (fun x : Option (Str × Str) × List Entry × List Entry => x.2.1.length) (fun x => mkSt [(14, .own 0), (101, .own 1)] [.slo 3 (x.2.2.map Entry.pv), iterR x.1 x.2.1]) (fun x => (x.2.2 ++ x.2.1).Perm L) (none, L, []) (by simp) ?_
    rintro ⟨o, rest, out⟩ hP ihl
    simp only at hP
    have fin : rest = [] → sortEnt out = sortEnt L ∧ DistE out ∧ out.length ≤ 1099511627776 := by
      rintro rfl
      rw [List.append_nil] at hP
      exact ⟨sortEnt_eq hP hD, hD.perm hP, by have := hP.length_eq; have := hB.1; omega⟩
    have step : ∀ x l', (x, l') ∈ picks rest → out.length + 1 ≤ 1099511627776 ∧ l'.length < rest.length ∧ ((out ++ [x]) ++ l').Perm L := by
      intro x l' hx
      have h1 := picks_perm hx
      have h2 := h1.length_eq
      have h3 := hP.length_eq
      have h4 := hB.1
      simp only [List.length_append, List.length_cons] at h2 h3
      refine ⟨by omega, by omega, ?_⟩
      rw [List.append_assoc]
      exact (h1.append_left out).trans hP
    cases o with
    | none =>
      simp only [go_sem, ↓reduceIte, Nat.reduceAdd, Nat.reduceSub, Nat.reduceEqDiff, Nat.reduceLT, Nat.reduceLeDiff, Nat.reduceMul, Int.reduceNeg, Int.reduceToNat, Int.reduceEq, Int.reduceLT, Int.reduceLE, reduceCtorEq, iterR]
      refine ⟨fun hz => ?_, fun x l' hx => ?_⟩
      · obtain ⟨f1, f2, f3⟩ := fin hz
        have hS := sortE_R out f2 f3
        simp only [go_sem, ↓reduceIte, Nat.reduceAdd, Nat.reduceSub, Nat.reduceEqDiff, Nat.reduceLT, Nat.reduceLeDiff, Nat.reduceMul, Int.reduceNeg, Int.reduceToNat, Int.reduceEq, Int.reduceLT, Int.reduceLE, reduceCtorEq, hS]
        rw [f1]
      · obtain ⟨s1, s2, s3⟩ := step x l' hx
        exact ⟨by omega, ihl (some (x.field, x.term), l', out ++ [x]) s2 s3⟩
    | some p =>
      simp only [go_sem, ↓reduceIte, Nat.reduceAdd, Nat.reduceSub, Nat.reduceEqDiff, Nat.reduceLT, Nat.reduceLeDiff, Nat.reduceMul, Int.reduceNeg, Int.reduceToNat, Int.reduceEq, Int.reduceLT, Int.reduceLE, reduceCtorEq, iterR]
      refine ⟨fun hz => ?_, fun x l' hx => ?_⟩
      · obtain ⟨f1, f2, f3⟩ := fin hz
        have hS := sortE_R out f2 f3
        simp only [go_sem, ↓reduceIte, Nat.reduceAdd, Nat.reduceSub, Nat.reduceEqDiff, Nat.reduceLT, Nat.reduceLeDiff, Nat.reduceMul, Int.reduceNeg, Int.reduceToNat, Int.reduceEq, Int.reduceLT, Int.reduceLE, reduceCtorEq, hS]
        rw [f1]
      · obtain ⟨s1, s2, s3⟩ := step x l' hx
        exact ⟨by omega, ihl (some (x.field, x.term), l', out ++ [x]) s2 s3⟩
end Go.Proofs.YtmanllfmgghadaaGreatDoor.PVE
namespace Go.Proofs.YtmanllfmgghadaaGreatDoor.PVE
open PV
theorem entLt_key (f t : Str) (e : Entry) : entLt f t e = keyLt (keyE e) (f, t) := rfl
theorem entEq_key {f t : Str} {e : Entry} : entEq f t e = true ↔ keyE e = (f, t) := by simp [entEq, keyE]
theorem distE_inj : ∀ {l : List Entry}, DistE l → ∀ {x y : Entry}, x ∈ l → y ∈ l → keyE x = keyE y → x = y
  | [], _, x, y, hx, _, _ => by simp at hx
  | e :: l, h, x, y, hx, hy, hk => by
    have h' := List.pairwise_cons.1 h
    rcases List.mem_cons.1 hx with h1 | h1 <;> rcases List.mem_cons.1 hy with h2 | h2
    · rw [h1, h2]
    · rw [h1] at hk; exact absurd hk (h'.1 y h2)
    · rw [h2] at hk; exact absurd hk.symm (h'.1 x h1)
    · exact distE_inj h'.2 h1 h2 hk
theorem sorted_split (f t : Str) : ∀ ls : List Entry, SortedE ls → ∃ A B, ls = A ++ B ∧ entK ls f t = A.length ∧ (∀ a ∈ A, entLt f t a = true) ∧ ∀ b ∈ B, entLt f t b = false
  | [], _ => ⟨[], [], rfl, rfl, by simp, by simp⟩
  | x :: l, h => by
    have h' := List.pairwise_cons.1 h
    obtain ⟨A, B, h1, h2, h3, h4⟩ := sorted_split f t l h'.2
    cases hx : entLt f t x with
    | true =>
      refine ⟨x :: A, B, by rw [h1]; rfl, ?_, fun a ha => ?_, h4⟩
      · rw [entK, List.takeWhile_cons, if_pos hx, List.length_cons, List.length_cons]
        rw [entK] at h2; omega
      · rcases List.mem_cons.1 ha with rfl | ha
        · exact hx
        · exact h3 a ha
    | false =>
      refine ⟨[], x :: l, rfl, ?_, by simp, fun b hb => ?_⟩
      · rw [entK, List.takeWhile_cons, if_neg (by rw [hx]; simp)]
      · rcases List.mem_cons.1 hb with rfl | hb
        · exact hx
        · cases hc : entLt f t b with
          | false => rfl
          | true =>
            have := keyLt_swo.trans _ _ _ (h'.1 b hb) (by rw [entLt_key] at hc; exact hc)
            rw [entLt_key, this] at hx
            cases hx
theorem sortedE_keys {l m : List Entry} (h : SortedE l) (hk : l.map keyE = m.map keyE) : SortedE m := by
  have h1 : (l.map keyE).Pairwise fun a b => keyLt a b = true := List.pairwise_map.2 h
  rw [hk] at h1
  exact List.pairwise_map.1 h1
theorem sortedE_dist {l : List Entry} (h : SortedE l) : DistE l := h.imp fun {a b} hab hc => by
  rw [show keyE a = keyE b from hc, keyLt_swo.irrefl] at hab; cases hab
theorem word_both {ls lm : List Entry} (hs : SortedE ls) (hp : ls.Perm lm) (f t : Str) (d a : Int) : SortedE (wordE ls f t d a) ∧ (wordE ls f t d a).Perm (mapWord lm f t d a) := by
  have hdl := sortedE_dist hs
  have hdm := hdl.perm hp.symm
  obtain ⟨A, B, rfl, hk, hA, hB⟩ := sorted_split f t ls hs
  have hAno : ∀ x ∈ A, keyE x ≠ (f, t) := fun x hx he => by
    have := hA x hx
    rw [entLt_key, he, keyLt_swo.irrefl] at this; cases this
  by_cases hx : ∃ x ∈ A ++ B, keyE x = (f, t)
  · obtain ⟨x, hxm, hxk⟩ := hx
    have hxB : x ∈ B := (List.mem_append.1 hxm).resolve_left fun h => hAno x h hxk
    obtain ⟨b, B', rfl⟩ : ∃ b B', B = b :: B' := by
      cases B with
      | nil => simp at hxB
      | cons b B' => exact ⟨b, B', rfl⟩
    have hbx : x = b := by
      rcases List.mem_cons.1 hxB with h | h
      · exact h
      · have h1 := (List.pairwise_cons.1 (List.pairwise_append.1 hs).2.1).1 x h
        have h2 := hB b (by simp)
        rw [entLt_key, ← hxk, h1] at h2; cases h2
    subst hbx
    have hg : (A ++ x :: B')[entK (A ++ x :: B') f t]? = some x := by rw [hk]; simp
    have hT : entT (A ++ x :: B') f t = true := by rw [entT, hg]; exact entEq_key.2 hxk
    have hgd : (A ++ x :: B').getD (entK (A ++ x :: B') f t) default = x := by rw [List.getD_eq_getElem?_getD, hg]; rfl
    have hW : wordE (A ++ x :: B') f t d a = A ++ ⟨f, t, addPost d a x.posts⟩ :: B' := by
      rw [wordE, if_pos hT, hgd, hk, List.set_append_right _ _ (Nat.le_refl _), Nat.sub_self]; rfl
    have hke : keyE (⟨f, t, addPost d a x.posts⟩ : Entry) = keyE x := hxk.symm
    rw [hW]
    refine ⟨sortedE_keys hs (by simp only [List.map_append, List.map_cons, hke]), ?_⟩
    have hxl : x ∈ lm := hp.mem_iff.1 hxm
    cases hi : entIx lm f t with
    | none =>
      rw [entIx, List.findIdx?_eq_none_iff] at hi
      have := hi x hxl
      rw [entEq_key.2 hxk] at this; cases this
    | some m =>
      obtain ⟨hml, hme⟩ := entIx_lt hi
      have hy : lm.getD m default = x := by
        have hmem : lm.getD m default ∈ lm := by rw [List.getD_eq_getElem?_getD, List.getElem?_eq_getElem hml]; exact List.getElem_mem hml
        exact distE_inj hdm hmem hxl ((entEq_key.1 hme).trans hxk.symm)
      have hM : mapWord lm f t d a = lm.set m ⟨f, t, addPost d a x.posts⟩ := by rw [mapWord, hi]; simp only [hy]
      have hl : lm = lm.take m ++ x :: lm.drop (m + 1) := by
        have h1 : lm.drop m = x :: lm.drop (m + 1) := by rw [drop_getD hml default, hy]
        rw [← h1, List.take_append_drop]
      have hset : lm.set m ⟨f, t, addPost d a x.posts⟩ = lm.take m ++ ⟨f, t, addPost d a x.posts⟩ :: lm.drop (m + 1) := by
        rw [List.set_eq_take_append_cons_drop, if_pos hml]
      rw [hM, hset]
      have hp2 : (A ++ B').Perm (lm.take m ++ lm.drop (m + 1)) := by
        have h1 : (x :: (A ++ B')).Perm (x :: (lm.take m ++ lm.drop (m + 1))) := by
          refine List.perm_middle.symm.trans (hp.trans ?_)
          rw [hl]
          have : ∀ X Y : List Entry, (X ++ x :: Y).Perm (x :: (X ++ Y)) := fun X Y => List.perm_middle
          rw [← hl]
          conv => lhs; rw [hl]
          exact this _ _
        exact h1.cons_inv
      exact List.perm_middle.trans ((hp2.cons _).trans List.perm_middle.symm)
  · have hno : ∀ x ∈ A ++ B, keyE x ≠ (f, t) := fun x hxm hxk => hx ⟨x, hxm, hxk⟩
    have hT : entT (A ++ B) f t = false := by
      cases hc : entT (A ++ B) f t with
      | false => rfl
      | true =>
        obtain ⟨e, he, h1, h2⟩ := entT_get hc
        exact absurd (by rw [keyE, h1, h2]) (hno e (List.mem_of_getElem? he))
    have hi : entIx lm f t = none := by
      rw [entIx, List.findIdx?_eq_none_iff]
      intro x hxl
      cases hc : entEq f t x with
      | false => rfl
      | true => exact absurd (entEq_key.1 hc) (hno x (hp.mem_iff.2 hxl))
    have hW : wordE (A ++ B) f t d a = A ++ ⟨f, t, [⟨d, [a]⟩]⟩ :: B := by
      rw [wordE, if_neg (by rw [hT]; simp), hk]; simp
    have hM : mapWord lm f t d a = lm ++ [⟨f, t, [⟨d, [a]⟩]⟩] := by rw [mapWord, hi]
    rw [hW, hM]
    have hsp := List.pairwise_append.1 hs
    refine ⟨List.pairwise_append.2 ⟨hsp.1, List.pairwise_cons.2 ⟨fun b hb => ?_, hsp.2.1⟩, fun x hxA y hy => ?_⟩, ?_⟩
    · have h1 := hB b hb
      rw [entLt_key] at h1
      exact (keyLt_tri (hno b (by simp [hb])).symm).resolve_right fun h => by rw [h1] at h; cases h
    · rcases List.mem_cons.1 hy with rfl | hy
      · exact hA x hxA
      · exact hsp.2.2 x hxA y hy
    · exact List.perm_middle.trans ((hp.cons _).trans (List.perm_append_singleton _ _).symm)
theorem words_both {ls lm : List Entry} (hs : SortedE ls) (hp : ls.Perm lm) (f : Str) (id : Int) (ts : List Str) : ∀ k, SortedE (wordsTo f id ts ls k) ∧ (wordsTo f id ts ls k).Perm (mWordsTo f id ts lm k)
  | 0 => ⟨hs, hp⟩
  | k + 1 => by
    obtain ⟨h1, h2⟩ := words_both hs hp f id ts k
    rw [wordsTo, mWordsTo]
    split
    · exact ⟨h1, h2⟩
    · exact word_both h1 h2 _ _ _ _
theorem isText_kind (fl : List Field) (n : Str) : isText fl n = true ↔ (fieldOf fl n).kind = 1 := by
  simp only [isText, Bool.and_eq_true, decide_eq_true_eq]
  exact ⟨fun h => h.2, fun h => ⟨kindAny (by decide) h, h⟩⟩
theorem cells_both {ls lm : List Entry} (hs : SortedE ls) (hp : ls.Perm lm) (fl : List Field) (id : Int) (cs : List Cell) : ∀ k, SortedE (cellsTo fl id cs ls k) ∧ (cellsTo fl id cs ls k).Perm (mCellsTo fl id cs lm k)
  | 0 => ⟨hs, hp⟩
  | k + 1 => by
    obtain ⟨h1, h2⟩ := cells_both hs hp fl id cs k
    rw [cellsTo, mCellsTo]
    by_cases hk : (fieldOf fl (cs.getD k default).name).kind = 1
    · rw [if_pos ((isText_kind _ _).2 hk), if_pos hk]
      exact words_both h1 h2 _ _ _ _
    · rw [if_neg (fun h => hk ((isText_kind _ _).1 h)), if_neg hk]
      exact ⟨h1, h2⟩
theorem rows_both (fl : List Field) (rows : List DRow) : ∀ k, SortedE (madeTo fl rows k) ∧ (madeTo fl rows k).Perm (mRowsTo fl rows k)
  | 0 => ⟨List.Pairwise.nil, .rfl⟩
  | k + 1 => by
    obtain ⟨h1, h2⟩ := rows_both fl rows k
    exact cells_both h1 h2 fl _ _ _
theorem made_is (fl : List Field) (rows : List DRow) : sortEnt (mRowsTo fl rows rows.length) = madeE fl rows := by
  obtain ⟨h1, h2⟩ := rows_both fl rows rows.length
  have hd := DistE.mrows fl rows rows.length
  exact sortedE_eq ((sortEnt_perm _).trans h2.symm) (sortEnt_sorted _ hd) h1
@[go_sem] theorem implEntries_R (fl : List Field) (rows : List DRow) (hfl : fl.length ≤ 1099511627776) (hr : RowsSt rows) : R S0 124 [.sl (fl.map Field.pv), .sl (rows.map DRow.pvF)] = some ⟨[none, none], .slo 3 ((madeE fl rows).map Entry.pv)⟩ := by
  rw [entries_R fl rows hfl hr, made_is]
end Go.Proofs.YtmanllfmgghadaaGreatDoor.PVE
