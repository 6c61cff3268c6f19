/- Where a word is: the posts of an index, plain laws. -/
import Derived.Test.YtgnggcpcijcahaaGreatDoorT54
set_option linter.unusedVariables false
set_option linter.unusedSimpArgs false
set_option maxRecDepth 100000
namespace Go.Proofs.YtgnggcpcijcahaaGreatDoor.PVE
open PV Query
def docsAt (l : List Entry) (f t : Str) : List Int := match entIx l f t with
  | some j => (l.getD j default).posts.map (·.doc)
  | none => []
def addD (d : Int) (ds : List Int) : List Int := if ds.getLast? = some d then ds else ds ++ [d]
theorem addD_idem (d : Int) (ds : List Int) : addD d (addD d ds) = addD d ds := by
  by_cases h : ds.getLast? = some d
  · have e : addD d ds = ds := if_pos h
    rw [e, e]
  · have e : addD d ds = ds ++ [d] := if_neg h
    rw [e, addD, if_pos (by simp)]
theorem addPost_docs (d a : Int) (ps : List Post) : (addPost d a ps).map (·.doc) = addD d (ps.map (·.doc)) := by
  unfold addPost addD
  rw [List.getLast?_map]
  cases h : ps.getLast? with
  | none => simp
  | some p =>
    simp only [Option.map_some, Option.some.injEq]
    by_cases hd : p.doc = d
    · rw [if_pos hd, if_pos hd, List.map_set]
      refine List.ext_getElem? fun i => ?_
      rw [List.getElem?_set]
      split
      · rename_i hi
        subst hi
        rw [List.getLast?_eq_getElem?] at h
        have hlt : ps.length - 1 < ps.length := (List.getElem?_eq_some_iff.1 h).1
        rw [if_pos (by simpa using hlt), List.getElem?_map, h]; rfl
      · rfl
    · rw [if_neg hd, if_neg hd]; simp
theorem entIx_keys (l : List Entry) (f t : Str) : entIx l f t = (l.map keyE).findIdx? (fun k => decide (k = (f, t))) := by
  rw [entIx, List.findIdx?_map]
  congr 1
  funext e
  simp [entEq, keyE, Prod.mk.injEq]
theorem docsAt_mapWord (l : List Entry) (f t : Str) (d a : Int) (f2 t2 : Str) : docsAt (mapWord l f t d a) f2 t2 = if f2 = f ∧ t2 = t then addD d (docsAt l f t) else docsAt l f2 t2 := by
  cases hj : entIx l f t with
  | some j =>
    obtain ⟨hj1, hj2⟩ := entIx_lt hj
    have hg : l[j]? = some (l.getD j default) := by rw [List.getD_eq_getElem?_getD, List.getElem?_eq_getElem hj1]; rfl
    have hk : keyE (l.getD j default) = (f, t) := by simpa [entEq, keyE] using hj2
    have e1 : mapWord l f t d a = l.set j ⟨f, t, addPost d a (l.getD j default).posts⟩ := by rw [mapWord, hj]
    have e2 : (l.set j ⟨f, t, addPost d a (l.getD j default).posts⟩).map keyE = l.map keyE := by
      rw [List.map_set]
      refine List.ext_getElem? fun i => ?_
      rw [List.getElem?_set]
      split
      · rename_i hi
        subst hi
        rw [if_pos (by simpa using hj1), List.getElem?_map, hg, Option.map_some, hk]; rfl
      · rfl
    rw [e1]
    generalize hX : (⟨f, t, addPost d a (l.getD j default).posts⟩ : Entry) = X at *
    have e3 : entIx (l.set j X) f2 t2 = entIx l f2 t2 := by rw [entIx_keys, e2, ← entIx_keys]
    by_cases h : f2 = f ∧ t2 = t
    · obtain ⟨rfl, rfl⟩ := h
      have e4 : docsAt (l.set j X) f2 t2 = ((l.set j X).getD j default).posts.map (·.doc) := by rw [docsAt, e3, hj]
      have e5 : docsAt l f2 t2 = (l.getD j default).posts.map (·.doc) := by rw [docsAt, hj]
      rw [if_pos ⟨rfl, rfl⟩, e4, e5, ← addPost_docs d a, List.getD_eq_getElem?_getD, List.getElem?_set_self hj1, Option.getD_some, ← hX]
    · rw [if_neg h]
      cases h2 : entIx l f2 t2 with
      | none =>
        have e4 : docsAt (l.set j X) f2 t2 = [] := by rw [docsAt, e3, h2]
        have e5 : docsAt l f2 t2 = [] := by rw [docsAt, h2]
        rw [e4, e5]
      | some i =>
        obtain ⟨_, hi2⟩ := entIx_lt h2
        have hij : j ≠ i := by
          rintro rfl
          simp only [entEq, Bool.and_eq_true, decide_eq_true_eq] at hi2 hj2
          exact h ⟨hi2.1.symm.trans hj2.1, hi2.2.symm.trans hj2.2⟩
        have e4 : docsAt (l.set j X) f2 t2 = ((l.set j X).getD i default).posts.map (·.doc) := by rw [docsAt, e3, h2]
        have e5 : docsAt l f2 t2 = (l.getD i default).posts.map (·.doc) := by rw [docsAt, h2]
        rw [e4, e5, List.getD_eq_getElem?_getD, List.getElem?_set_ne hij, ← List.getD_eq_getElem?_getD]
  | none =>
    have e1 : mapWord l f t d a = l ++ [⟨f, t, [⟨d, [a]⟩]⟩] := by rw [mapWord, hj]
    rw [e1]
    by_cases h : f2 = f ∧ t2 = t
    · obtain ⟨rfl, rfl⟩ := h
      have e2 : entIx (l ++ [⟨f2, t2, [⟨d, [a]⟩]⟩]) f2 t2 = some l.length := by
        rw [entIx] at hj ⊢
        rw [List.findIdx?_append, hj]
        simp [List.findIdx?_cons, entEq]
      have e3 : docsAt l f2 t2 = [] := by rw [docsAt, hj]
      rw [if_pos ⟨rfl, rfl⟩, e3, docsAt, e2]
      simp [addD, List.getD_eq_getElem?_getD]
    · have e2 : entIx (l ++ [⟨f, t, [⟨d, [a]⟩]⟩]) f2 t2 = entIx l f2 t2 := by
        rw [entIx, entIx, List.findIdx?_append]
        have : entEq f2 t2 ⟨f, t, [⟨d, [a]⟩]⟩ = false := by
          simp only [entEq, Bool.and_eq_false_iff, decide_eq_false_iff_not]
          by_cases hf : f = f2
          · exact .inr fun ht => h ⟨hf.symm, ht.symm⟩
          · exact .inl hf
        simp [List.findIdx?_cons, this]
      rw [if_neg h]
      cases h2 : entIx l f2 t2 with
      | none =>
        have e5 : docsAt l f2 t2 = [] := by rw [docsAt, h2]
        rw [e5, docsAt, e2, h2]
      | some i =>
        obtain ⟨hi1, _⟩ := entIx_lt h2
        have e5 : docsAt l f2 t2 = (l.getD i default).posts.map (·.doc) := by rw [docsAt, h2]
        rw [e5, docsAt, e2, h2]
        simp only [List.getD_eq_getElem?_getD, List.getElem?_append_left hi1]
theorem docsAt_words (f : Str) (id : Int) (ts : List Str) (l : List Entry) (f2 t2 : Str) (h0 : t2 ≠ []) : ∀ k, k ≤ ts.length → docsAt (mWordsTo f id ts l k) f2 t2 = if f2 = f ∧ t2 ∈ ts.take k then addD id (docsAt l f2 t2) else docsAt l f2 t2
  | 0, _ => by simp [mWordsTo]
  | k + 1, hk => by
    have ih := docsAt_words f id ts l f2 t2 h0 k (by omega)
    obtain ⟨t, hx, hg, _⟩ := drop_get (l := ts) (i := k) (by omega) default
    rw [mWordsTo, hg, List.take_add_one, hx]
    simp only [List.mem_append, Option.toList, List.mem_singleton]
    split
    · rename_i h
      have hne : ¬ t2 = t := fun e => h0 (e.trans h)
      rw [ih]
      simp only [hne, or_false]
    · rename_i h
      rw [docsAt_mapWord]
      by_cases c : f2 = f ∧ t2 = t
      · obtain ⟨rfl, rfl⟩ := c
        rw [if_pos ⟨rfl, rfl⟩, if_pos ⟨rfl, .inr rfl⟩, ih]
        split
        · rw [addD_idem]
        · rfl
      · rw [if_neg c, ih]
        by_cases c2 : f2 = f ∧ t2 ∈ ts.take k
        · rw [if_pos c2, if_pos ⟨c2.1, .inl c2.2⟩]
        · rw [if_neg c2, if_neg]
          rintro ⟨h1, h2 | h2⟩
          · exact c2 ⟨h1, h2⟩
          · exact c ⟨h1, h2⟩
def hasIn (fl : List Field) (cs : List Cell) (f t : Str) : Bool := cs.any fun c => decide ((fieldOf fl c.name).kind = 1) && (decide (f = c.name) && decide (t ∈ terms c.text))
theorem docsAt_cells (fl : List Field) (id : Int) (cs : List Cell) (l : List Entry) (f t : Str) (h0 : t ≠ []) : ∀ k, k ≤ cs.length → docsAt (mCellsTo fl id cs l k) f t = if hasIn fl (cs.take k) f t = true then addD id (docsAt l f t) else docsAt l f t
  | 0, _ => by simp [mCellsTo, hasIn]
  | k + 1, hk => by
    have ih := docsAt_cells fl id cs l f t h0 k (by omega)
    obtain ⟨c, hx, hg, _⟩ := drop_get (l := cs) (i := k) (by omega) default
    have hs : hasIn fl (cs.take (k + 1)) f t = (hasIn fl (cs.take k) f t || (decide ((fieldOf fl c.name).kind = 1) && (decide (f = c.name) && decide (t ∈ terms c.text)))) := by
      rw [hasIn, List.take_add_one, hx, List.any_append]; simp [hasIn]
    rw [mCellsTo, hg, hs]
    split
    · rename_i h
      rw [docsAt_words _ _ _ _ _ _ h0 _ (Nat.le_refl _), List.take_length, ih, decide_eq_true h]
      by_cases c1 : f = c.name ∧ t ∈ terms c.text
      · rw [if_pos c1, decide_eq_true c1.1, decide_eq_true c1.2]
        simp only [Bool.and_true, Bool.or_true, if_true]
        split
        · rw [addD_idem]
        · rfl
      · have : (decide (f = c.name) && decide (t ∈ terms c.text)) = false := by
          simp only [Bool.and_eq_false_iff, decide_eq_false_iff_not]
          by_cases hf : f = c.name
          · exact .inr fun ht => c1 ⟨hf, ht⟩
          · exact .inl hf
        rw [if_neg c1, this]
        simp
    · rename_i h
      rw [ih, decide_eq_false h]
      simp
theorem docsAt_rows (fl : List Field) {rows : List DRow} (hp : rows.Pairwise (fun a b => a.id < b.id)) (f t : Str) (h0 : t ≠ []) : ∀ k, k ≤ rows.length → docsAt (mRowsTo fl rows k) f t = idsP (rows.take k) fun r => hasIn fl r.doc.cells f t
  | 0, _ => by simp [mRowsTo, docsAt, entIx, idsP]
  | k + 1, hk => by
    have ih := docsAt_rows fl hp f t h0 k (by omega)
    obtain ⟨r, hx, hg, _⟩ := drop_get (l := rows) (i := k) (by omega) default
    rw [mRowsTo, hg, docsAt_cells _ _ _ _ _ _ h0 _ (Nat.le_refl _), List.take_length, ih]
    have e : idsP (rows.take (k + 1)) (fun r => hasIn fl r.doc.cells f t) = idsP (rows.take k) (fun r => hasIn fl r.doc.cells f t) ++ (if hasIn fl r.doc.cells f t = true then [r.id] else []) := by
      rw [idsP, List.take_add_one, hx, List.filter_append, List.map_append, idsP]
      congr 1
      cases h : hasIn fl r.doc.cells f t <;> simp [h]
    rw [e]
    split
    · rw [addD, if_neg]
      intro hl
      have hm := List.mem_of_getLast? hl
      obtain ⟨r2, hr2, _, hid⟩ := idsP_mem.1 hm
      obtain ⟨j, hj, rfl⟩ := List.getElem_of_mem hr2
      have hj' : j < k := by simp only [List.length_take] at hj; omega
      have hk' : k < rows.length := by omega
      have := (List.pairwise_iff_getElem.1 hp) j k (by omega) hk' hj'
      rw [List.getElem?_eq_getElem hk'] at hx
      obtain rfl := Option.some.inj hx
      rw [List.getElem_take] at hid
      omega
    · simp
def postsF (ents : List Entry) (f t : Str) : List Post := (ents.filter (entEq f t)).flatMap (·.posts)
theorem filter_one {l : List Entry} (hd : DistE l) {f t : Str} : l.filter (entEq f t) = match entIx l f t with
  | some j => [l.getD j default]
  | none => [] := by
  cases h : entIx l f t with
  | none =>
    rw [entIx, List.findIdx?_eq_none_iff] at h
    simp only [List.filter_eq_nil_iff]
    intro e he hc
    rw [h e he] at hc; cases hc
  | some j =>
    obtain ⟨h1, h2⟩ := entIx_lt h
    have hx : l[j]? = some (l.getD j default) := by rw [List.getD_eq_getElem?_getD, List.getElem?_eq_getElem h1]; rfl
    have hm := List.mem_of_getElem? hx
    have hsub : ∀ e ∈ l.filter (entEq f t), e = l.getD j default := fun e he => by
      obtain ⟨e1, e2⟩ := List.mem_filter.1 he
      exact distE_inj hd e1 hm ((entEq_key.1 e2).trans (entEq_key.1 h2).symm)
    have hnd : (l.filter (entEq f t)).Pairwise fun a b => (a.field, a.term) ≠ (b.field, b.term) := hd.sublist List.filter_sublist
    have hin : l.getD j default ∈ l.filter (entEq f t) := List.mem_filter.2 ⟨hm, h2⟩
    generalize l.filter (entEq f t) = m at hsub hnd hin
    match m, hsub, hnd, hin with
    | [], _, _, hin => cases hin
    | [e], hsub, _, _ => simp only; rw [hsub e (by simp)]
    | e :: e2 :: m, hsub, hnd, _ =>
      have := (List.pairwise_cons.1 hnd).1 e2 (by simp)
      rw [hsub e (by simp), hsub e2 (by simp)] at this
      exact absurd rfl this
theorem postsF_docs {l : List Entry} (hd : DistE l) (f t : Str) : (postsF l f t).map (·.doc) = docsAt l f t := by
  rw [postsF, filter_one hd, docsAt]
  cases entIx l f t <;> simp
theorem made_docs {fl : List Field} {rows : List DRow} (hp : rows.Pairwise (fun a b => a.id < b.id)) {f t : Str} (h0 : t ≠ []) : (postsF (madeE fl rows) f t).map (·.doc) = idsP rows fun r => hasIn fl r.doc.cells f t := by
  obtain ⟨hs, hpm⟩ := rows_both fl rows rows.length
  have hd1 := sortedE_dist hs
  have hd2 := DistE.mrows fl rows rows.length
  have hfp : (madeTo fl rows rows.length).filter (entEq f t) = (mRowsTo fl rows rows.length).filter (entEq f t) := by
    have hpf := hpm.filter (entEq f t)
    rw [filter_one hd1, filter_one hd2] at hpf ⊢
    cases h1 : entIx (madeTo fl rows rows.length) f t <;> cases h2 : entIx (mRowsTo fl rows rows.length) f t <;> rw [h1, h2] at hpf <;> simp only at hpf ⊢
    · have := hpf.length_eq; simp at this
    · have := hpf.length_eq; simp at this
    · exact List.perm_singleton.1 hpf
  have e : postsF (madeE fl rows) f t = postsF (mRowsTo fl rows rows.length) f t := by rw [postsF, madeE, hfp, postsF]
  rw [e, postsF_docs hd2, docsAt_rows fl hp f t h0 _ (Nat.le_refl _), List.take_length]
theorem meets_has {fl : List Field} {d : Doc} (hf : fieldsOk fl = true) {f t : Str} (h0 : f ≠ []) (hT : Trm t) : meetsM fl d (wordQ f t) = hasIn fl d.cells f t := by
  rw [Bool.eq_iff_iff, leaf_cell hf (.inl rfl), hasIn, List.any_eq_true]
  constructor
  · rintro ⟨c, h1, h2, h3⟩
    simp only [looksAt, Bool.and_eq_true, decide_eq_true_eq, Bool.or_eq_true] at h2
    refine ⟨c, h1, ?_⟩
    simp only [Bool.and_eq_true, decide_eq_true_eq]
    exact ⟨h2.1, h2.2.resolve_left h0, (times_wordQ hT).1 h3⟩
  · rintro ⟨c, h1, h2⟩
    simp only [Bool.and_eq_true, decide_eq_true_eq] at h2
    refine ⟨c, h1, ?_, (times_wordQ hT).2 h2.2.2⟩
    simp only [looksAt, Bool.and_eq_true, decide_eq_true_eq, Bool.or_eq_true]
    exact ⟨h2.1, .inr h2.2.1⟩
end Go.Proofs.YtgnggcpcijcahaaGreatDoor.PVE
