/- The index: the program's entries, collected in a map. -/
import Derived.Test.YtjagjfjhinlgiaaGreatDoorT32
set_option linter.unusedVariables false
set_option linter.unusedSimpArgs false
set_option maxRecDepth 100000
namespace Go.Proofs.YtjagjfjhinlgiaaGreatDoor.PVE
open PV
section
variable {C : Nat → List PV → Option Ans} {E : Env} {st : St}
@[go_sem] theorem o_makeMap {t : Nat} : opR C E st (.makeMap t none) = mkMapE E st t := rfl
@[go_sem] theorem o_lookup {t : Nat} {x y : Operand} : opR C E st (.lookup t x y false) = lookE E st t (ev E st x) (ev E st y) := rfl
@[go_sem] theorem o_mapUpdate {t : Nat} {x y z : Operand} : opR C E st (.mapUpdate t x y z) = updE E st t (ev E st x) (ev E st y) (ev E st z) := rfl
@[go_sem] theorem o_range {t : Nat} {x : Operand} : opR C E st (.range t x) = rangeE E st t (ev E st x) := rfl
@[go_sem] theorem o_entry {x : Operand} : opR C E st (.entry x) = entryE st (ev E st x) := rfl
end
attribute [go_sem] mkMapE lookE lookV updE updV msetO rangeE entryE keyOk nextV
@[go_sem] theorem mpLeft_1 {es : List PV} : mpLeft (0 + 1) es = es := rfl
@[go_sem] theorem mpLeft_2 {k v : PV} {es : List PV} : mpLeft (1 + 1) (k :: v :: es) = es := rfl
/-- A map's entries: keys and values side by side. -/
def encM : List Entry → List PV
  | [] => []
  | e :: l => .agg [.str e.field, .str e.term] :: .slo 2 (e.posts.map Post.pv) :: encM l
theorem encM_free : ∀ l, PV.freeL (encM l)
  | [] => by simp [encM, PV.freeL]
  | e :: l => by simp [encM, PV.freeL, PV.free, enc_freeL, encM_free l]
@[go_sem] theorem encM_freeL (l : List Entry) : PV.freeL (encM l) = True := eq_true (encM_free l)
def entIx (l : List Entry) (f t : Str) : Option Nat := l.findIdx? (entEq f t)
theorem mfind_enc (f t : Str) : ∀ (l : List Entry) (i : Nat), mfind [2, 2] [.str f, .str t] (encM l) i = some ((entIx l f t).map fun j => (i + j, .slo 2 ((l.getD j default).posts.map Post.pv)))
  | [], i => rfl
  | e :: l, i => by
    have ih := mfind_enc f t l (i + 1)
    rw [encM, mfind]
    have he : eqCells [2, 2] [.str f, .str t] [.str e.field, .str e.term] = some (decide (f = e.field) && (decide (t = e.term) && true)) := rfl
    rw [he]
    simp only [Bool.and_true]
    have hq : (decide (f = e.field) && decide (t = e.term)) = entEq f t e := by unfold entEq; congr 1 <;> simp [eq_comm]
    rw [hq, entIx, List.findIdx?_cons]
    cases h : entEq f t e with
    | true => simp
    | false =>
      simp only [Bool.false_eq_true, if_false]
      rw [ih, entIx]
      cases List.findIdx? (entEq f t) l with
      | none => rfl
      | some j => simp [Nat.add_comm, Nat.add_left_comm]
theorem mfind_take (f t : Str) : ∀ (l : List Entry) (i j : Nat), entIx l f t = some j → mfind [2, 2] [.str f, .str t] (mtake (encM l) j) i = some (some (i + j, .undef))
  | [], i, j, h => by simp [entIx] at h
  | e :: l, i, j, h => by
    have hq : (decide (f = e.field) && decide (t = e.term)) = entEq f t e := by unfold entEq; congr 1 <;> simp [eq_comm]
    have he : eqCells [2, 2] [.str f, .str t] [.str e.field, .str e.term] = some (entEq f t e) := by rw [← hq]; show some (decide (f = e.field) && (decide (t = e.term) && true)) = _; rw [Bool.and_true]
    rw [entIx, List.findIdx?_cons] at h
    cases hc : entEq f t e with
    | true =>
      rw [hc] at h he
      simp only [if_true, Option.some.injEq] at h
      subst h
      rw [encM, mtake, mfind, he]
      simp
    | false =>
      rw [hc] at h he
      simp only [Bool.false_eq_true, if_false, Option.map_eq_some_iff] at h
      obtain ⟨k, hk, rfl⟩ := h
      rw [encM, mtake, mfind, he]
      simp only [Bool.false_eq_true, if_false]
      rw [mfind_take f t l (i + 1) k hk]
      simp [Nat.add_comm, Nat.add_left_comm]
theorem mset_take : ∀ (l : List Entry) (j : Nat) (f t : Str) (ps : List Post), j < l.length → mset (mtake (encM l) j) j (.agg [.str f, .str t]) (.slo 2 (ps.map Post.pv)) = encM (l.set j ⟨f, t, ps⟩)
  | [], j, f, t, ps, h => by simp at h
  | e :: l, 0, f, t, ps, _ => rfl
  | e :: l, j + 1, f, t, ps, h => by
    rw [encM, mtake, mset, mset_take l j f t ps (by simpa using h)]
    rfl
theorem encM_snoc (l : List Entry) (f t : Str) (ps : List Post) : encM l ++ [.agg [.str f, .str t], .slo 2 (ps.map Post.pv)] = encM (l ++ [⟨f, t, ps⟩]) := by
  induction l with
  | nil => rfl
  | cons e l ih => simp only [encM, List.cons_append, ih]
theorem entIx_lt {l : List Entry} {f t : Str} {j : Nat} (h : entIx l f t = some j) : j < l.length ∧ entEq f t (l.getD j default) = true := by
  rw [entIx, List.findIdx?_eq_some_iff_getElem] at h
  obtain ⟨h1, h2, _⟩ := h
  exact ⟨h1, by rw [List.getD_eq_getElem?_getD, List.getElem?_eq_getElem h1]; exact h2⟩
def mapWord (l : List Entry) (f t : Str) (d a : Int) : List Entry := match entIx l f t with
  | some j => l.set j ⟨f, t, addPost d a (l.getD j default).posts⟩
  | none => l ++ [⟨f, t, [⟨d, [a]⟩]⟩]
theorem EntB.mword {n : Nat} {l : List Entry} (h : EntB n l) (f t : Str) (d a : Int) : EntB (n + 1) (mapWord l f t d a) := by
  obtain ⟨h1, h2⟩ := id h
  unfold mapWord
  split
  · rename_i j hj
    obtain ⟨hj1, _⟩ := entIx_lt hj
    have hg : l[j]? = some (l.getD j default) := by rw [List.getD_eq_getElem?_getD, List.getElem?_eq_getElem hj1]; rfl
    refine ⟨by rw [List.length_set]; omega, fun e he => ?_⟩
    rcases List.mem_or_eq_of_mem_set he with he | rfl
    · exact (h.mono (Nat.le_succ _)).2 e he
    · have hx2 := h2 _ (List.mem_of_getElem? hg)
      exact addPost_b hx2.2.1 hx2.2.2
  · refine ⟨by simp; omega, fun e he => ?_⟩
    rcases List.mem_append.1 he with he | he
    · exact (h.mono (Nat.le_succ _)).2 e he
    · simp at he; subst he; simp
def mWordsTo (f : Str) (id : Int) (ts : List Str) (l : List Entry) : Nat → List Entry
  | 0 => l
  | k + 1 => if ts.getD k default = [] then mWordsTo f id ts l k else mapWord (mWordsTo f id ts l k) f (ts.getD k default) id k
def mCellsTo (fl : List Field) (id : Int) (cs : List Cell) (l : List Entry) : Nat → List Entry
  | 0 => l
  | k + 1 => if (fieldOf fl (cs.getD k default).name).kind = 1 then mWordsTo (cs.getD k default).name id (terms (cs.getD k default).text) (mCellsTo fl id cs l k) (terms (cs.getD k default).text).length else mCellsTo fl id cs l k
def mRowsTo (fl : List Field) (rows : List DRow) : Nat → List Entry
  | 0 => []
  | k + 1 => mCellsTo fl (rows.getD k default).id (rows.getD k default).doc.cells (mRowsTo fl rows k) (rows.getD k default).doc.cells.length
theorem EntB.mwords {n : Nat} {l : List Entry} (h : EntB n l) (f : Str) (id : Int) (ts : List Str) : ∀ k, EntB (n + k) (mWordsTo f id ts l k)
  | 0 => h
  | k + 1 => by
    have ih := EntB.mwords h f id ts k
    rw [mWordsTo]
    split
    · exact ih.mono (by omega)
    · exact ih.mword _ _ _ _
theorem EntB.mcells {n : Nat} {l : List Entry} (h : EntB n l) (fl : List Field) (id : Int) (cs : List Cell) (hc : ∀ c ∈ cs, c.text.length ≤ 1000) : ∀ k, k ≤ cs.length → EntB (n + 1001 * k) (mCellsTo fl id cs l k)
  | 0, _ => h
  | k + 1, hk => by
    have ih := EntB.mcells h fl id cs hc k (by omega)
    obtain ⟨c, hx, hg, _⟩ := drop_get (l := cs) (i := k) (by omega) default
    have h1 := hc c (List.mem_of_getElem? hx)
    have h2 := words_len2 c.text
    rw [mCellsTo, hg]
    split
    · exact (ih.mwords _ _ _ _).mono (by omega)
    · exact ih.mono (by omega)
theorem EntB.mrows (fl : List Field) {rows : List DRow} (h : RowsSt rows) : ∀ k, k ≤ rows.length → EntB (1001000 * k) (mRowsTo fl rows k)
  | 0, _ => ⟨Nat.zero_le _, fun e he => by simp [mRowsTo] at he⟩
  | k + 1, hk => by
    obtain ⟨r, hx, hg, _⟩ := drop_get (l := rows) (i := k) (by omega) default
    have hr := h.2 r (List.mem_of_getElem? hx)
    rw [mRowsTo, hg]
    exact ((EntB.mrows fl h k (by omega)).mcells fl r.id r.doc.cells (fun c hc => (hr.2.2 c hc).2) _ (Nat.le_refl _)).mono (by have := hr.2.1; omega)
/-- One of the entries, and the others. -/
def picks : List Entry → List (Entry × List Entry)
  | [] => []
  | e :: l => (e, l) :: (picks l).map fun x => (x.1, e :: x.2)
theorem picks_perm : ∀ {l : List Entry} {x : Entry} {l' : List Entry}, (x, l') ∈ picks l → (x :: l').Perm l
  | [], x, l', h => by simp [picks] at h
  | e :: l, x, l', h => by
    simp only [picks, List.mem_cons, List.mem_map, Prod.mk.injEq] at h
    rcases h with ⟨rfl, rfl⟩ | ⟨⟨y, m⟩, hm, rfl, rfl⟩
    · exact .rfl
    · exact (List.Perm.swap e y m).trans ((picks_perm hm).cons e)
theorem pick_enc : ∀ l : List Entry, pickKV (encM l) = (picks l).map fun x => (.agg [.str x.1.field, .str x.1.term], .slo 2 (x.1.posts.map Post.pv), encM x.2)
  | [] => rfl
  | e :: l => by
    rw [encM, pickKV, pick_enc l, picks, List.map_cons, List.map_map, List.map_map]
    rfl
section
variable {S : Sys} {F : Fx} {T : Nat → PV} {St' : Nat → Option Root} {N : Nat} {ks : List Fr} {rr : Ans} {all : Array Oper} {lo : List Oper} {d r : Nat}
@[go_sem] theorem nxtE_enc (l : List Entry) : nxtE S F (some (nextO ⟨T, St', N⟩ r (encM l))) (some d) all lo ⟨T, St', N⟩ ks rr =
    ((l = [] → Ends S F (.ops all lo ⟨upd T d (.tup [.bool false]), St', N⟩ ks) rr) ∧ ∀ x l', (x, l') ∈ picks l → Ends S F (.ops all lo ⟨upd T d (.tup [.bool true, .undef, .undef]), applyStore St' [] [(r, ⟨.mp 2 (.agg [.str x.field, .str x.term] :: .slo 2 (x.posts.map Post.pv) :: encM l'), []⟩)], N⟩ ks) rr) := by
  refine propext ?_
  cases l with
  | nil =>
    have e : nextO ⟨T, St', N⟩ r (encM []) = [⟨.tup [.bool false], [], [], N⟩] := rfl
    rw [e]
    simp only [nxtE, List.mem_singleton, forall_eq, picks, List.not_mem_nil, false_implies, implies_true, and_true, ne_eq, reduceCtorEq, not_false_eq_true, true_and, true_implies]
    exact Iff.rfl
  | cons e l =>
    have e1 : nextO ⟨T, St', N⟩ r (encM (e :: l)) = (picks (e :: l)).map fun x => ⟨.tup [.bool true, .undef, .undef], [], [(r, ⟨.mp 2 (.agg [.str x.1.field, .str x.1.term] :: .slo 2 (x.1.posts.map Post.pv) :: encM x.2), []⟩)], N⟩ := by
      have e0 : ∀ es : List PV, es ≠ [] → nextO ⟨T, St', N⟩ r es = (pickKV es).map fun x => (⟨.tup [.bool true, .undef, .undef], [], [(r, ⟨.mp 2 (x.1 :: x.2.1 :: x.2.2), []⟩)], N⟩ : Eff) := by
        intro es h
        cases es with
        | nil => exact absurd rfl h
        | cons k es => rfl
      rw [e0 _ (by simp [encM]), pick_enc, List.map_map]
      rfl
    rw [e1]
    simp only [nxtE, List.mem_map, reduceCtorEq, false_implies, true_and]
    constructor
    · rintro ⟨_, h⟩ x l' hx
      exact h _ ⟨(x, l'), hx, rfl⟩
    · intro h
      refine ⟨by simp [picks], ?_⟩
      rintro _ ⟨⟨x, l'⟩, hx, rfl⟩
      exact h x l' hx
end
/-! ### The entries, sorted -/
def insE (e : Entry) : List Entry → List Entry
  | [] => [e]
  | x :: l => if keyLt (e.field, e.term) (x.field, x.term) = true then e :: x :: l else x :: insE e l
def sortEnt : List Entry → List Entry
  | [] => []
  | e :: l => insE e (sortEnt l)
theorem entKey_pv (e : Entry) : entKey e.pv = (e.field, e.term) := rfl
theorem insBy_pv (e : Entry) : ∀ l : List Entry, insBy keyLt entKey e.pv (l.map Entry.pv) = (insE e l).map Entry.pv
  | [] => rfl
  | x :: l => by
    rw [List.map_cons, insBy, insE, entKey_pv, entKey_pv, insBy_pv e l]
    split <;> rfl
theorem sortBy_pv : ∀ l : List Entry, sortBy keyLt entKey (l.map Entry.pv) = (sortEnt l).map Entry.pv
  | [] => rfl
  | e :: l => by rw [List.map_cons, sortBy, sortBy_pv l, insBy_pv, sortEnt]
def DistE (l : List Entry) : Prop := l.Pairwise fun a b => (a.field, a.term) ≠ (b.field, b.term)
theorem isEnt_pv (e : Entry) : IsEnt e.pv := ⟨e.field, e.term, e.posts.map Post.pv, rfl, by rw [enc_noRL]; trivial⟩
theorem sortE_R (l : List Entry) (hd : DistE l) (hl : l.length ≤ 1099511627776) : R S0 95 [.slo 3 (l.map Entry.pv), .fn 96 []] = some ⟨[some (.slo 3 ((sortEnt l).map Entry.pv)), none], .tup []⟩ := by
  refine R_lib (Eq.trans (b := libSortE [.slo 3 (l.map Entry.pv), .fn 96 []]) (by kernel_rfl) ?_)
  rw [libSortE, if_pos, sortBy_pv]
  refine ⟨rfl, fun e he => ?_, ?_, by simpa using hl⟩
  · obtain ⟨x, _, rfl⟩ := List.mem_map.1 he
    exact isEnt_pv x
  · exact List.pairwise_map.2 hd
end Go.Proofs.YtjagjfjhinlgiaaGreatDoor.PVE
