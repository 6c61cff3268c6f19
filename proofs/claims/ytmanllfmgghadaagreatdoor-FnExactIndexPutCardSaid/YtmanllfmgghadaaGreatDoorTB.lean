/- The index: the reference's entries. -/
import Derived.Test.YtmanllfmgghadaaGreatDoorT19
import Derived.Test.YtmanllfmgghadaaGreatDoorT16
set_option linter.unusedVariables false
set_option linter.unusedSimpArgs false
set_option maxRecDepth 100000
namespace Go.Proofs.YtmanllfmgghadaaGreatDoor.PVE
open PV
structure Post where
  doc : Int
  ats : List Int
  deriving Inhabited
def Post.pv (p : Post) : PV := .agg [.int .i64 p.doc, .slo 1 (p.ats.map (.int .i64))]
def Post.pvF (p : Post) : PV := .agg [.int .i64 p.doc, .sl (p.ats.map (.int .i64))]
structure Entry where
  field : Str
  term : Str
  posts : List Post
  deriving Inhabited
def Entry.pv (e : Entry) : PV := .agg [.str e.field, .str e.term, .slo 2 (e.posts.map Post.pv)]
def Entry.pvF (e : Entry) : PV := .agg [.str e.field, .str e.term, .sl (e.posts.map Post.pvF)]
structure DRow where
  id : Int
  doc : Doc
  deriving Inhabited
def DRow.pv (r : DRow) : PV := .agg [.int .i64 r.id, .str r.doc.key, .slo 2 (r.doc.cells.map Cell.pv)]
def DRow.pvF (r : DRow) : PV := .agg [.int .i64 r.id, .str r.doc.key, .sl (r.doc.cells.map Cell.pv)]
instance : Enc Post.pv 2 := ⟨fun _ => by simp only [Post.pv, PV.free, PV.freeL, enc_freeL, and_self], fun _ => by simp only [Post.pv, PV.okr, PV.okrL, PV.free, enc_freeL, and_self], fun _ => rfl⟩
instance : Enc Post.pvF 2 := ⟨fun _ => by simp only [Post.pvF, PV.free, PV.freeL, enc_freeL, and_self], fun _ => by simp only [Post.pvF, PV.okr, PV.okrL, PV.free, enc_freeL, and_self], fun _ => rfl⟩
instance : EncN Post.pv := ⟨fun _ => by simp only [Post.pv, PV.noR, PV.noRL, enc_noRL, and_self]⟩
instance : EncS Post.pv Post.pvF := ⟨fun _ => by simp only [Post.pv, Post.pvF, PV.strip, PV.stripL, enc_stripL]⟩
instance : EncS Post.pvF Post.pvF := ⟨fun _ => rfl⟩
instance : EncF Post.pvF := ⟨fun _ => rfl⟩
instance : EncA Post.pv := ⟨fun _ => ⟨_, rfl⟩⟩
instance : Enc Entry.pv 3 := ⟨fun _ => by simp only [Entry.pv, PV.free, PV.freeL, enc_freeL, and_self], fun _ => by simp only [Entry.pv, PV.okr, PV.okrL, PV.free, enc_freeL, and_self], fun _ => rfl⟩
instance : Enc Entry.pvF 3 := ⟨fun _ => by simp only [Entry.pvF, PV.free, PV.freeL, enc_freeL, and_self], fun _ => by simp only [Entry.pvF, PV.okr, PV.okrL, PV.free, enc_freeL, and_self], fun _ => rfl⟩
instance : EncN Entry.pv := ⟨fun _ => by simp only [Entry.pv, PV.noR, PV.noRL, enc_noRL, and_self]⟩
instance : EncS Entry.pv Entry.pvF := ⟨fun _ => by simp only [Entry.pv, Entry.pvF, PV.strip, PV.stripL, enc_stripL]⟩
instance : EncS Entry.pvF Entry.pvF := ⟨fun _ => rfl⟩
instance : EncF Entry.pvF := ⟨fun _ => rfl⟩
instance : EncA Entry.pv := ⟨fun _ => ⟨_, rfl⟩⟩
instance : Enc DRow.pv 3 := ⟨fun _ => by simp only [DRow.pv, PV.free, PV.freeL, enc_freeL, and_self], fun _ => by simp only [DRow.pv, PV.okr, PV.okrL, PV.free, enc_freeL, and_self], fun _ => rfl⟩
instance : Enc DRow.pvF 3 := ⟨fun _ => by simp only [DRow.pvF, PV.free, PV.freeL, enc_freeL, and_self], fun _ => by simp only [DRow.pvF, PV.okr, PV.okrL, PV.free, enc_freeL, and_self], fun _ => rfl⟩
instance : EncN DRow.pv := ⟨fun _ => by simp only [DRow.pv, PV.noR, PV.noRL, enc_noRL, and_self]⟩
instance : EncS DRow.pv DRow.pvF := ⟨fun _ => by simp only [DRow.pv, DRow.pvF, PV.strip, PV.stripL, enc_stripL]⟩
instance : EncS DRow.pvF DRow.pvF := ⟨fun _ => rfl⟩
instance : EncF DRow.pvF := ⟨fun _ => rfl⟩
instance : EncA DRow.pv := ⟨fun _ => ⟨_, rfl⟩⟩
@[go_sem] theorem Post.cells (p : Post) : p.pv.cells = [.int .i64 p.doc, .slo 1 (p.ats.map (.int .i64))] := rfl
@[go_sem] theorem Post.cellsF (p : Post) : p.pvF.cells = [.int .i64 p.doc, .sl (p.ats.map (.int .i64))] := rfl
@[go_sem] theorem Entry.cells (e : Entry) : e.pv.cells = [.str e.field, .str e.term, .slo 2 (e.posts.map Post.pv)] := rfl
@[go_sem] theorem Entry.cellsF (e : Entry) : e.pvF.cells = [.str e.field, .str e.term, .sl (e.posts.map Post.pvF)] := rfl
@[go_sem] theorem DRow.cells (r : DRow) : r.pv.cells = [.int .i64 r.id, .str r.doc.key, .slo 2 (r.doc.cells.map Cell.pv)] := rfl
@[go_sem] theorem DRow.cellsF (r : DRow) : r.pvF.cells = [.int .i64 r.id, .str r.doc.key, .sl (r.doc.cells.map Cell.pv)] := rfl
@[go_sem] theorem Post.re (p : Post) (off : Nat) (cs : List PV) : p.pv.reElem off cs = .agg (PV.putCells [.int .i64 p.doc, .slo 1 (p.ats.map (.int .i64))] off cs) := rfl
@[go_sem] theorem Entry.re (e : Entry) (off : Nat) (cs : List PV) : e.pv.reElem off cs = .agg (PV.putCells [.str e.field, .str e.term, .slo 2 (e.posts.map Post.pv)] off cs) := rfl
@[go_sem] theorem DRow.re (r : DRow) (off : Nat) (cs : List PV) : r.pv.reElem off cs = .agg (PV.putCells [.int .i64 r.id, .str r.doc.key, .slo 2 (r.doc.cells.map Cell.pv)] off cs) := rfl
theorem ints_snoc (l : List Int) (a : Int) : l.map (PV.int .i64) ++ [.int .i64 a] = (l ++ [a]).map (.int .i64) := by simp
@[go_sem] theorem Post.setf (l : List Post) (i : Nat) (d : Int) (xs : List Int) : (l.map Post.pv).set i (.agg [.int .i64 d, .slo 1 (xs.map (.int .i64))]) = (l.set i ⟨d, xs⟩).map Post.pv := by rw [List.map_set]; rfl
@[go_sem] theorem Post.snoc (l : List Post) (d : Int) (a : Int) : l.map Post.pv ++ [.agg [.int .i64 d, .slo 1 [.int .i64 a]]] = (l ++ [Post.mk d [a]]).map Post.pv := by simp [Post.pv]
@[go_sem] theorem Entry.setf (l : List Entry) (i : Nat) (a b : Str) (ps : List Post) : (l.map Entry.pv).set i (.agg [.str a, .str b, .slo 2 (ps.map Post.pv)]) = (l.set i ⟨a, b, ps⟩).map Entry.pv := by rw [List.map_set]; rfl
@[go_sem] theorem Entry.mid (l m : List Entry) (a b : Str) (d : Int) (x : Int) : l.map Entry.pv ++ .agg [.str a, .str b, .slo 2 [.agg [.int .i64 d, .slo 1 [.int .i64 x]]]] :: m.map Entry.pv = (l ++ Entry.mk a b [Post.mk d [x]] :: m).map Entry.pv := by simp [Entry.pv, Post.pv]
def entLt (f t : Str) (e : Entry) : Bool := Op.bytesLess e.field f || (decide (e.field = f) && Op.bytesLess e.term t)
def entEq (f t : Str) (e : Entry) : Bool := decide (e.field = f) && decide (e.term = t)
def entK (l : List Entry) (f t : Str) : Nat := (l.takeWhile (entLt f t)).length
def entT (l : List Entry) (f t : Str) : Bool := match l[entK l f t]? with
  | some e => entEq f t e
  | none => false
theorem tw_all {α : Type} {p : α → Bool} : ∀ {l : List α} {i : Nat}, (∀ y ∈ l.take i, p y = true) → i ≤ l.length → i ≤ (l.takeWhile p).length
  | [], i, _, h => by simpa using h
  | x :: l, 0, _, _ => Nat.zero_le _
  | x :: l, i + 1, h, hi => by
    rw [List.takeWhile_cons, if_pos (h x (by simp))]
    have := tw_all (l := l) (i := i) (fun y hy => h y (by simp [hy])) (by simpa using hi)
    simp only [List.length_cons]; omega
theorem tw_at {α : Type} {p : α → Bool} : ∀ {l : List α} {i : Nat} {x : α}, (∀ y ∈ l.take i, p y = true) → l[i]? = some x → p x = false → (l.takeWhile p).length = i
  | [], i, x, _, h, _ => by simp at h
  | y :: l, 0, x, _, h, hx => by
    simp at h; subst h
    rw [List.takeWhile_cons, if_neg (by simp [hx])]; rfl
  | y :: l, i + 1, x, h, hg, hx => by
    rw [List.takeWhile_cons, if_pos (h y (by simp))]
    have := tw_at (l := l) (i := i) (fun z hz => h z (by simp [hz])) (by simpa using hg) hx
    simp only [List.length_cons]; omega
theorem tw_end {α : Type} {p : α → Bool} {l : List α} (h : ∀ y ∈ l, p y = true) : (l.takeWhile p).length = l.length := by
  have h1 := tw_all (p := p) (l := l) (i := l.length) (fun y hy => h y (List.mem_of_mem_take hy)) (Nat.le_refl _)
  have h2 := (List.takeWhile_sublist (l := l) p).length_le
  omega
theorem take_stepT {α : Type} {p : α → Bool} {l : List α} {i : Nat} {x : α} (h : ∀ y ∈ l.take i, p y = true) (hx : l[i]? = some x) (hp : p x = true) : ∀ y ∈ l.take (i + 1), p y = true := by
  intro y hy
  rw [List.take_add_one, hx] at hy
  rcases List.mem_append.1 hy with hy | hy
  · exact h y hy
  · simp at hy; subst hy; exact hp
@[go_sem] theorem l4At_R (l : List Entry) (f t : Str) (hl : l.length ≤ 1099511627776) : R S0 253 [.sl (l.map Entry.pvF), .str f, .str t] = some ⟨[none, none, none], .tup [.int .i64 (entK l f t), .bool (entT l f t)]⟩ := by
  refine go253 rfl ?_; simp only [go_sem, ↓reduceIte, Nat.reduceAdd, Nat.reduceSub, Nat.reduceEqDiff, Nat.reduceLT, Nat.reduceLeDiff, Nat.reduceMul, Int.reduceNeg, Int.reduceToNat, Int.reduceEq, Int.reduceLT, Int.reduceLE, reduceCtorEq, Tryz.f253]
  refine ends_for l.length (by omega) (fun i _ => mkSt [(0, .sl (l.map Entry.pvF)), (1, .str f), (2, .str t), (8, .int .i64 i)] []) (fun i _ => ∀ y ∈ l.take i, entLt f t y = true) 0 () (by omega) (by simp) ?_ ?_
  · rintro i _ hi hI hw ih
    obtain ⟨x, hx, hg, hd⟩ := drop_get hi default
    cases h1 : Op.bytesLess x.field f with
    | true =>
      have hL : entLt f t x = true := by simp [entLt, h1]
      simp only [go_sem, ↓reduceIte, Nat.reduceAdd, Nat.reduceSub, Nat.reduceEqDiff, Nat.reduceLT, Nat.reduceLeDiff, Nat.reduceMul, Int.reduceNeg, Int.reduceToNat, Int.reduceEq, Int.reduceLT, Int.reduceLE, reduceCtorEq, hi, hw, hg, hx, h1]
      exact ih () (take_stepT hI hx hL)
    | false =>
      by_cases h2 : x.field = f
      · have h2t := eq_true h2
        cases h3 : Op.bytesLess x.term t with
        | true =>
          have hL : entLt f t x = true := by simp [entLt, h2, h3]
          simp only [go_sem, ↓reduceIte, Nat.reduceAdd, Nat.reduceSub, Nat.reduceEqDiff, Nat.reduceLT, Nat.reduceLeDiff, Nat.reduceMul, Int.reduceNeg, Int.reduceToNat, Int.reduceEq, Int.reduceLT, Int.reduceLE, reduceCtorEq, hi, hw, hg, hx, h1, h2t, h3]
          exact ih () (take_stepT hI hx hL)
        | false =>
          have hL : entLt f t x = false := by simp [entLt, h1, h3]
          have hk : entK l f t = i := tw_at hI hx hL
          by_cases h4 : x.term = t
          · have hT : entT l f t = true := by rw [entT, hk, hx]; simp [entEq, h2, h4]
            simp only [go_sem, ↓reduceIte, Nat.reduceAdd, Nat.reduceSub, Nat.reduceEqDiff, Nat.reduceLT, Nat.reduceLeDiff, Nat.reduceMul, Int.reduceNeg, Int.reduceToNat, Int.reduceEq, Int.reduceLT, Int.reduceLE, reduceCtorEq, hi, hw, hg, hx, h1, h2t, h3, eq_true h4, hk, hT]
          · have hT : entT l f t = false := by rw [entT, hk, hx]; simp [entEq, h4]
            simp only [go_sem, ↓reduceIte, Nat.reduceAdd, Nat.reduceSub, Nat.reduceEqDiff, Nat.reduceLT, Nat.reduceLeDiff, Nat.reduceMul, Int.reduceNeg, Int.reduceToNat, Int.reduceEq, Int.reduceLT, Int.reduceLE, reduceCtorEq, hi, hw, hg, hx, h1, h2t, h3, h4, hk, hT]
      · have hL : entLt f t x = false := by simp [entLt, h1, h2]
        have hk : entK l f t = i := tw_at hI hx hL
        have hT : entT l f t = false := by rw [entT, hk, hx]; simp [entEq, h2]
        simp only [go_sem, ↓reduceIte, Nat.reduceAdd, Nat.reduceSub, Nat.reduceEqDiff, Nat.reduceLT, Nat.reduceLeDiff, Nat.reduceMul, Int.reduceNeg, Int.reduceToNat, Int.reduceEq, Int.reduceLT, Int.reduceLE, reduceCtorEq, hi, hw, hg, hx, h1, h2, hk, hT]
  · rintro _ hI
    rw [List.take_length] at hI
    have hk : entK l f t = l.length := tw_end hI
    have hT : entT l f t = false := by rw [entT, hk, List.getElem?_eq_none (Nat.le_refl _)]
    simp only [go_sem, ↓reduceIte, Nat.reduceAdd, Nat.reduceSub, Nat.reduceEqDiff, Nat.reduceLT, Nat.reduceLeDiff, Nat.reduceMul, Int.reduceNeg, Int.reduceToNat, Int.reduceEq, Int.reduceLT, Int.reduceLE, reduceCtorEq, hk, hT]
def addPost (d a : Int) (ps : List Post) : List Post := match ps.getLast? with
  | some p => if p.doc = d then ps.set (ps.length - 1) ⟨p.doc, p.ats ++ [a]⟩ else ps ++ [⟨d, [a]⟩]
  | none => ps ++ [⟨d, [a]⟩]
def wordE (l : List Entry) (f t : Str) (d a : Int) : List Entry :=
  if entT l f t = true then l.set (entK l f t) ⟨f, t, addPost d a (l.getD (entK l f t) default).posts⟩
  else l.take (entK l f t) ++ [⟨f, t, [⟨d, [a]⟩]⟩] ++ l.drop (entK l f t)
def EntB (n : Nat) (l : List Entry) : Prop := l.length ≤ n ∧ ∀ e ∈ l, e.posts ≠ [] ∧ e.posts.length ≤ n ∧ ∀ p ∈ e.posts, p.ats.length ≤ n
theorem entK_le (l : List Entry) (f t : Str) : entK l f t ≤ l.length := (List.takeWhile_sublist _).length_le
theorem entT_get {l : List Entry} {f t : Str} (h : entT l f t = true) : ∃ e, l[entK l f t]? = some e ∧ e.field = f ∧ e.term = t := by
  unfold entT at h
  split at h
  · rename_i e he
    simp only [entEq, Bool.and_eq_true, decide_eq_true_eq] at h
    exact ⟨e, he, h.1, h.2⟩
  · cases h
theorem l4Word_R (l : List Entry) (f t : Str) (d a : Int) (n : Nat) (hB : EntB n l) (hn : n + 1 ≤ 1099511627776) : R S0 222 [.slo 3 (l.map Entry.pv), .str f, .str t, .int .i64 d, .int .i64 a] = some ⟨[none, none, none, none, none], .slo 3 ((wordE l f t d a).map Entry.pv)⟩ := by
  obtain ⟨hl, hes⟩ := id hB
  have hlb : l.length ≤ 1099511627776 := by omega
  have hk := entK_le l f t
  cases hT : entT l f t with
  | false =>
    have hdr : (l.drop (entK l f t)).take (l.length - entK l f t) = l.drop (entK l f t) := List.take_of_length_le (by simp)
    have e1 : (0 : Int) ≤ (entK l f t : Int) := by omega
    have e2 : (entK l f t : Int) ≤ (l.length : Int) := by omega
    refine go222 rfl ?_; simp only [go_sem, ↓reduceIte, Nat.reduceAdd, Nat.reduceSub, Nat.reduceEqDiff, Nat.reduceLT, Nat.reduceLeDiff, Nat.reduceMul, Int.reduceNeg, Int.reduceToNat, Int.reduceEq, Int.reduceLT, Int.reduceLE, reduceCtorEq, Tryz.f222, hlb, hT, hk, hdr, e1, e2]
    refine ⟨by rw [List.length_take]; omega, by rw [List.length_take]; omega, by rw [List.length_take, List.length_drop]; omega, by decide +kernel, ?_⟩
    rw [wordE, if_neg (by rw [hT]; simp), List.append_assoc]; rfl
  | true =>
    obtain ⟨x, hx, hxf, hxt⟩ := entT_get hT
    have hkl : entK l f t < l.length := (List.getElem?_eq_some_iff.1 hx).1
    have hg : l.getD (entK l f t) default = x := by rw [List.getD_eq_getElem?_getD, hx]; rfl
    obtain ⟨hne, hpl, hps⟩ := hes x (List.mem_of_getElem? hx)
    have hpos : 0 < x.posts.length := List.length_pos_iff.2 hne
    obtain ⟨p, hp, hpg, _⟩ := drop_get (l := x.posts) (i := x.posts.length - 1) (by omega) default
    have e1 : (0 : Int) ≤ (entK l f t : Int) := by omega
    have e3 : IntKind.i64.wrap ((x.posts.length : Int) - 1) = ((x.posts.length - 1 : Nat) : Int) := by rw [wrap_in (by omega) (by omega)]; omega
    have e4 : x.posts.length - 1 < x.posts.length := by omega
    have e5 : x.field = f := hxf
    have hat := hps p (List.mem_of_getElem? hp)
    by_cases hd : p.doc = d
    · have hadd : addPost d a x.posts = x.posts.set (x.posts.length - 1) ⟨d, p.ats ++ [a]⟩ := by rw [addPost, List.getLast?_eq_getElem?, hp]; simp [hd]
      refine go222 rfl ?_; simp only [go_sem, ↓reduceIte, Nat.reduceAdd, Nat.reduceSub, Nat.reduceEqDiff, Nat.reduceLT, Nat.reduceLeDiff, Nat.reduceMul, Int.reduceNeg, Int.reduceToNat, Int.reduceEq, Int.reduceLT, Int.reduceLE, reduceCtorEq, Tryz.f222, hlb, hT, hk, hkl, hx, hg, e1, e3, e4, hp, hpg, hd]
      refine ⟨by omega, ?_⟩
      rw [wordE, if_pos hT, hg, hadd, hxf, hxt]
    · have hadd : addPost d a x.posts = x.posts ++ [⟨d, [a]⟩] := by rw [addPost, List.getLast?_eq_getElem?, hp]; simp [hd]
      refine go222 rfl ?_; simp only [go_sem, ↓reduceIte, Nat.reduceAdd, Nat.reduceSub, Nat.reduceEqDiff, Nat.reduceLT, Nat.reduceLeDiff, Nat.reduceMul, Int.reduceNeg, Int.reduceToNat, Int.reduceEq, Int.reduceLT, Int.reduceLE, reduceCtorEq, Tryz.f222, hlb, hT, hk, hkl, hx, hg, e1, e3, e4, hp, hpg, hd]
      refine ⟨by omega, ?_⟩
      rw [wordE, if_pos hT, hg, hadd, hxf, hxt]
theorem EntB.mono {n m : Nat} {l : List Entry} (h : EntB n l) (hm : n ≤ m) : EntB m l := ⟨Nat.le_trans h.1 hm, fun e he => ⟨(h.2 e he).1, Nat.le_trans (h.2 e he).2.1 hm, fun p hp => Nat.le_trans ((h.2 e he).2.2 p hp) hm⟩⟩
theorem addPost_b {n : Nat} {d a : Int} {ps : List Post} (h1 : ps.length ≤ n) (h2 : ∀ p ∈ ps, p.ats.length ≤ n) : addPost d a ps ≠ [] ∧ (addPost d a ps).length ≤ n + 1 ∧ ∀ p ∈ addPost d a ps, p.ats.length ≤ n + 1 := by
  unfold addPost
  split
  · rename_i p hp
    have hpm : p ∈ ps := List.mem_of_getLast? hp
    split
    · refine ⟨?_, by rw [List.length_set]; omega, fun q hq => ?_⟩
      · intro he
        have := congrArg List.length he
        simp only [List.length_set, List.length_nil] at this
        have := List.length_pos_of_mem hpm
        omega
      · rcases List.mem_or_eq_of_mem_set hq with hq | rfl
        · have := h2 q hq; omega
        · have := h2 p hpm; simp; omega
    · refine ⟨by simp, by simp; omega, fun q hq => ?_⟩
      rcases List.mem_append.1 hq with hq | hq
      · have := h2 q hq; omega
      · simp at hq; subst hq; simp
  · refine ⟨by simp, by simp; omega, fun q hq => ?_⟩
    rcases List.mem_append.1 hq with hq | hq
    · have := h2 q hq; omega
    · simp at hq; subst hq; simp
theorem EntB.word {n : Nat} {l : List Entry} (h : EntB n l) (f t : Str) (d a : Int) : EntB (n + 1) (wordE l f t d a) := by
  obtain ⟨h1, h2⟩ := id h
  unfold wordE
  split
  · rename_i hT
    obtain ⟨x, hx, hxf, hxt⟩ := entT_get hT
    have hg : l.getD (entK l f t) default = x := by rw [List.getD_eq_getElem?_getD, hx]; rfl
    refine ⟨by rw [List.length_set]; omega, fun e he => ?_⟩
    rcases List.mem_or_eq_of_mem_set he with he | rfl
    · exact (h.mono (Nat.le_succ _)).2 e he
    · have hx2 := h2 x (List.mem_of_getElem? hx)
      simp only [hg]
      exact addPost_b hx2.2.1 hx2.2.2
  · refine ⟨by simp only [List.length_append, List.length_take, List.length_drop, List.length_cons, List.length_nil]; omega, fun e he => ?_⟩
    rcases List.mem_append.1 he with he | he
    · rcases List.mem_append.1 he with he | he
      · exact (h.mono (Nat.le_succ _)).2 e (List.mem_of_mem_take he)
      · simp at he; subst he; simp
    · exact (h.mono (Nat.le_succ _)).2 e (List.mem_of_mem_drop he)
def wordsTo (f : Str) (id : Int) (ts : List Str) (l : List Entry) : Nat → List Entry
  | 0 => l
  | k + 1 => if ts.getD k default = [] then wordsTo f id ts l k else wordE (wordsTo f id ts l k) f (ts.getD k default) id k
theorem EntB.words {n : Nat} {l : List Entry} (h : EntB n l) (f : Str) (id : Int) (ts : List Str) : ∀ k, EntB (n + k) (wordsTo f id ts l k)
  | 0 => h
  | k + 1 => by
    have ih := EntB.words h f id ts k
    rw [wordsTo]
    split
    · exact ih.mono (by omega)
    · exact ih.word _ _ _ _
def isText (fl : List Field) (n : Str) : Bool := (fl.any fun f => f.name = n) && decide ((fieldOf fl n).kind = 1)
def cellsTo (fl : List Field) (id : Int) (cs : List Cell) (l : List Entry) : Nat → List Entry
  | 0 => l
  | k + 1 => if isText fl (cs.getD k default).name = true then wordsTo (cs.getD k default).name id (terms (cs.getD k default).text) (cellsTo fl id cs l k) (terms (cs.getD k default).text).length else cellsTo fl id cs l k
def docE (fl : List Field) (r : DRow) (l : List Entry) : List Entry := cellsTo fl r.id r.doc.cells l r.doc.cells.length
theorem EntB.cells {n : Nat} {l : List Entry} (h : EntB n l) (fl : List Field) (id : Int) (cs : List Cell) (hc : ∀ c ∈ cs, c.text.length ≤ 1000) : ∀ k, k ≤ cs.length → EntB (n + 1001 * k) (cellsTo fl id cs l k)
  | 0, _ => h
  | k + 1, hk => by
    have ih := EntB.cells h fl id cs hc k (by omega)
    obtain ⟨c, hx, hg, _⟩ := drop_get (l := cs) (i := k) (by omega) default
    have h1 := hc c (List.mem_of_getElem? hx)
    have h2 := words_len2 c.text
    rw [cellsTo, hg]
    split
    · exact (ih.words _ _ _ _).mono (by omega)
    · exact ih.mono (by omega)
theorem EntB.doc {n : Nat} {l : List Entry} (h : EntB n l) (fl : List Field) (r : DRow) (hr : DSt 1000 r.doc) : EntB (n + 1001000) (docE fl r l) := (h.cells fl r.id r.doc.cells (fun c hc => (hr.2.2 c hc).2) _ (Nat.le_refl _)).mono (by have := hr.2.1; omega)
theorem l4Doc_R (fl : List Field) (l : List Entry) (r : DRow) (n : Nat) (hfl : fl.length ≤ 1099511627776) (hB : EntB n l) (hn : n + 1001001 ≤ 1099511627776) (hr : DSt 1000 r.doc) : R S0 177 [.sl (fl.map Field.pv), .slo 3 (l.map Entry.pv), .agg [.int .i64 r.id, .str r.doc.key, .sl (r.doc.cells.map Cell.pv)]] = some ⟨[none, none, none], .slo 3 ((docE fl r l).map Entry.pv)⟩ := by
  obtain ⟨hk, hcl, hcs⟩ := id hr
  refine go177 rfl ?_; simp only [go_sem, ↓reduceIte, Nat.reduceAdd, Nat.reduceSub, Nat.reduceEqDiff, Nat.reduceLT, Nat.reduceLeDiff, Nat.reduceMul, Int.reduceNeg, Int.reduceToNat, Int.reduceEq, Int.reduceLT, Int.reduceLE, reduceCtorEq, Tryz.f177]
  refine ends_for r.doc.cells.length (by omega) (fun i _ => mkSt [(0, .sl (fl.map Field.pv)), (1, .own 0), (5, .addr 1 0 0), (7, .int .i64 i)] [.slo 3 ((cellsTo fl r.id r.doc.cells l i).map Entry.pv), .pto [.int .i64 r.id, .str r.doc.key, .sl (r.doc.cells.map Cell.pv)]]) (fun _ _ => True) 0 () (by omega) trivial ?_ ?_
  · rintro i _ hi _ hw ih
    obtain ⟨c, hx, hg, _⟩ := drop_get hi default
    obtain ⟨hc1, hc2⟩ := hcs c (List.mem_of_getElem? hx)
    have hc1' : c.name.length ≤ 1099511627776 := by omega
    have hc2' : c.text.length ≤ 1099511627776 := by omega
    have hBi := hB.cells fl r.id r.doc.cells (fun c hc => (hcs c hc).2) i (by omega)
    have h2 := words_len2 c.text
    cases ht : isText fl c.name with
    | false =>
      have e : cellsTo fl r.id r.doc.cells l (i + 1) = cellsTo fl r.id r.doc.cells l i := by rw [cellsTo, hg, if_neg (by rw [ht]; simp)]
      have ht' : ((fl.any fun f => f.name = c.name) && decide ((fieldOf fl c.name).kind = 1)) = false := ht
      have ih' := ih () trivial
      rw [e] at ih'
      simp only [go_sem, ↓reduceIte, Nat.reduceAdd, Nat.reduceSub, Nat.reduceEqDiff, Nat.reduceLT, Nat.reduceLeDiff, Nat.reduceMul, Int.reduceNeg, Int.reduceToNat, Int.reduceEq, Int.reduceLT, Int.reduceLE, reduceCtorEq, hi, hw, hg, hx, hfl, ht']
      exact ih'
    | true =>
      have e : cellsTo fl r.id r.doc.cells l (i + 1) = wordsTo c.name r.id (terms c.text) (cellsTo fl r.id r.doc.cells l i) (terms c.text).length := by rw [cellsTo, hg, if_pos ht]
      have ht' : ((fl.any fun f => f.name = c.name) && decide ((fieldOf fl c.name).kind = 1)) = true := ht
      have ih' := ih () trivial
      rw [e] at ih'
      simp only [go_sem, ↓reduceIte, Nat.reduceAdd, Nat.reduceSub, Nat.reduceEqDiff, Nat.reduceLT, Nat.reduceLeDiff, Nat.reduceMul, Int.reduceNeg, Int.reduceToNat, Int.reduceEq, Int.reduceLT, Int.reduceLE, reduceCtorEq, hi, hw, hg, hx, hfl, hc2', ht']
      refine ends_for (terms c.text).length (by omega) (fun j _ => mkSt [(0, .sl (fl.map Field.pv)), (1, .own 0), (5, .addr 1 0 0), (7, .int .i64 i), (8, .own 2), (9, .int .i64 j)] [.slo 3 ((wordsTo c.name r.id (terms c.text) (cellsTo fl r.id r.doc.cells l i) j).map Entry.pv), .pto [.int .i64 r.id, .str r.doc.key, .sl (r.doc.cells.map Cell.pv)], .slo 1 ((terms c.text).map .str)]) (fun _ _ => True) 0 () (by omega) trivial ?_ ?_
      · rintro j _ hj _ hwj ihj
        obtain ⟨t, htx, htg, _⟩ := drop_get hj default
        have ihj' := ihj () trivial
        by_cases h0 : t = []
        · have e2 : wordsTo c.name r.id (terms c.text) (cellsTo fl r.id r.doc.cells l i) (j + 1) = wordsTo c.name r.id (terms c.text) (cellsTo fl r.id r.doc.cells l i) j := by rw [wordsTo, htg, if_pos h0]
          rw [e2] at ihj'
          simp only [go_sem, ↓reduceIte, Nat.reduceAdd, Nat.reduceSub, Nat.reduceEqDiff, Nat.reduceLT, Nat.reduceLeDiff, Nat.reduceMul, Int.reduceNeg, Int.reduceToNat, Int.reduceEq, Int.reduceLT, Int.reduceLE, reduceCtorEq, hj, hwj, htg, htx, eq_true h0, hi, hg, hx]
          exact ihj'
        · have e2 : wordsTo c.name r.id (terms c.text) (cellsTo fl r.id r.doc.cells l i) (j + 1) = wordE (wordsTo c.name r.id (terms c.text) (cellsTo fl r.id r.doc.cells l i) j) c.name t r.id j := by rw [wordsTo, htg, if_neg h0]
          rw [e2] at ihj'
          have hW := l4Word_R (wordsTo c.name r.id (terms c.text) (cellsTo fl r.id r.doc.cells l i) j) c.name t r.id j _ (hBi.words c.name r.id (terms c.text) j) (by omega)
          simp only [go_sem, ↓reduceIte, Nat.reduceAdd, Nat.reduceSub, Nat.reduceEqDiff, Nat.reduceLT, Nat.reduceLeDiff, Nat.reduceMul, Int.reduceNeg, Int.reduceToNat, Int.reduceEq, Int.reduceLT, Int.reduceLE, reduceCtorEq, hj, hwj, htg, htx, h0, hi, hg, hx, hW]
          exact ⟨by decide +kernel, ihj'⟩
      · rintro _ _
        simp only [go_sem, ↓reduceIte, Nat.reduceAdd, Nat.reduceSub, Nat.reduceEqDiff, Nat.reduceLT, Nat.reduceLeDiff, Nat.reduceMul, Int.reduceNeg, Int.reduceToNat, Int.reduceEq, Int.reduceLT, Int.reduceLE, reduceCtorEq, hw]
        exact ih'
  · rintro _ _
    simp only [go_sem, ↓reduceIte, Nat.reduceAdd, Nat.reduceSub, Nat.reduceEqDiff, Nat.reduceLT, Nat.reduceLeDiff, Nat.reduceMul, Int.reduceNeg, Int.reduceToNat, Int.reduceEq, Int.reduceLT, Int.reduceLE, reduceCtorEq]
    rfl
def madeTo (fl : List Field) (rows : List DRow) : Nat → List Entry
  | 0 => []
  | k + 1 => docE fl (rows.getD k default) (madeTo fl rows k)
def madeE (fl : List Field) (rows : List DRow) : List Entry := madeTo fl rows rows.length
def RowsSt (rows : List DRow) : Prop := rows.length ≤ 1000 ∧ ∀ r ∈ rows, DSt 1000 r.doc
theorem EntB.made (fl : List Field) {rows : List DRow} (h : RowsSt rows) : ∀ k, k ≤ rows.length → EntB (1001000 * k) (madeTo fl rows k)
  | 0, _ => ⟨Nat.zero_le _, fun e he => by simp [madeTo] at he⟩
  | k + 1, hk => by
    obtain ⟨r, hx, hg, _⟩ := drop_get (l := rows) (i := k) (by omega) default
    rw [madeTo, hg]
    exact ((EntB.made fl h k (by omega)).doc fl r (h.2 r (List.mem_of_getElem? hx))).mono (by omega)
@[go_sem] theorem l4Made_R (fl : List Field) (rows : List DRow) (hfl : fl.length ≤ 1099511627776) (hr : RowsSt rows) : R S0 117 [.sl (fl.map Field.pv), .sl (rows.map DRow.pvF)] = some ⟨[none, none], .slo 3 ((madeE fl rows).map Entry.pv)⟩ := by
  obtain ⟨hl, hrs⟩ := id hr
  refine go117 rfl ?_; simp only [go_sem, ↓reduceIte, Nat.reduceAdd, Nat.reduceSub, Nat.reduceEqDiff, Nat.reduceLT, Nat.reduceLeDiff, Nat.reduceMul, Int.reduceNeg, Int.reduceToNat, Int.reduceEq, Int.reduceLT, Int.reduceLE, reduceCtorEq, Tryz.f117]
  refine ends_for rows.length (by omega) (fun i _ => mkSt [(0, .sl (fl.map Field.pv)), (1, .sl (rows.map DRow.pvF)), (5, .own 0), (6, .int .i64 i)] [.slo 3 ((madeTo fl rows i).map Entry.pv)]) (fun _ _ => True) 0 () (by omega) trivial ?_ ?_
  · rintro i _ hi _ hw ih
    obtain ⟨r, hx, hg, _⟩ := drop_get hi default
    have hD := l4Doc_R fl (madeTo fl rows i) r _ hfl (EntB.made fl hr i (by omega)) (by omega) (hrs r (List.mem_of_getElem? hx))
    have e : madeTo fl rows (i + 1) = docE fl r (madeTo fl rows i) := by rw [madeTo, hg]
    have ih' := ih () trivial
    rw [e] at ih'
    simp only [go_sem, ↓reduceIte, Nat.reduceAdd, Nat.reduceSub, Nat.reduceEqDiff, Nat.reduceLT, Nat.reduceLeDiff, Nat.reduceMul, Int.reduceNeg, Int.reduceToNat, Int.reduceEq, Int.reduceLT, Int.reduceLE, reduceCtorEq, hi, hw, hg, hx, hD]
    exact ih'
  · rintro _ _
    simp only [go_sem, ↓reduceIte, Nat.reduceAdd, Nat.reduceSub, Nat.reduceEqDiff, Nat.reduceLT, Nat.reduceLeDiff, Nat.reduceMul, Int.reduceNeg, Int.reduceToNat, Int.reduceEq, Int.reduceLT, Int.reduceLE, reduceCtorEq]
    rfl
end Go.Proofs.YtmanllfmgghadaaGreatDoor.PVE
namespace Go.Proofs.YtmanllfmgghadaaGreatDoor.PVE
open PV
deriving instance DecidableEq for Post, Entry
@[go_sem] theorem l4Ints_R (a b : List Int) (ha : a.length ≤ 1099511627776) (hb : b.length ≤ 1099511627776) : R S0 176 [.sl (a.map (.int .i64)), .sl (b.map (.int .i64))] = some ⟨[none, none], .bool (decide (a = b))⟩ := by
  by_cases h : a.length = b.length
  · have h2 : (a.length : Int) = b.length := by omega
    refine go176 rfl ?_; simp only [go_sem, ↓reduceIte, Nat.reduceAdd, Nat.reduceSub, Nat.reduceEqDiff, Nat.reduceLT, Nat.reduceLeDiff, Nat.reduceMul, Int.reduceNeg, Int.reduceToNat, Int.reduceEq, Int.reduceLT, Int.reduceLE, reduceCtorEq, Tryz.f176, h2]
    refine ends_for b.length (by omega) (fun i _ => mkSt [(0, .sl (a.map (.int .i64))), (1, .sl (b.map (.int .i64))), (5, .int .i64 i)] []) (fun i _ => a.take i = b.take i) 0 () (by omega) rfl ?_ ?_
    · rintro i _ hi hI hw ih
      obtain ⟨y, hy, hg, _⟩ := drop_get hi default
      have hia : i < a.length := by omega
      obtain ⟨x, hx, hgx, _⟩ := drop_get hia default
      have h3 : (i : Int) < (a.length : Int) := by omega
      by_cases he : x = y
      · subst he
        simp only [go_sem, ↓reduceIte, Nat.reduceAdd, Nat.reduceSub, Nat.reduceEqDiff, Nat.reduceLT, Nat.reduceLeDiff, Nat.reduceMul, Int.reduceNeg, Int.reduceToNat, Int.reduceEq, Int.reduceLT, Int.reduceLE, reduceCtorEq, hi, h2, hw, hg, hia, hgx, hx, hy]
        exact ih () (by rw [List.take_add_one, List.take_add_one, hx, hy, hI])
      · have hne : ¬ a = b := by
          rintro rfl
          rw [hx] at hy
          exact he (Option.some.inj hy)
        simp only [go_sem, ↓reduceIte, Nat.reduceAdd, Nat.reduceSub, Nat.reduceEqDiff, Nat.reduceLT, Nat.reduceLeDiff, Nat.reduceMul, Int.reduceNeg, Int.reduceToNat, Int.reduceEq, Int.reduceLT, Int.reduceLE, reduceCtorEq, hi, h2, hw, hg, hia, hgx, he, hx, hy]
        rw [decide_eq_false hne]
    · rintro _ hI
      rw [List.take_length, List.take_of_length_le (by omega)] at hI
      simp only [go_sem, ↓reduceIte, Nat.reduceAdd, Nat.reduceSub, Nat.reduceEqDiff, Nat.reduceLT, Nat.reduceLeDiff, Nat.reduceMul, Int.reduceNeg, Int.reduceToNat, Int.reduceEq, Int.reduceLT, Int.reduceLE, reduceCtorEq, h2]
      rw [decide_eq_true hI]
  · have h2 : ¬ (a.length : Int) = b.length := by omega
    have hne : ¬ a = b := fun e => h (by rw [e])
    refine go176 rfl ?_; simp only [go_sem, ↓reduceIte, Nat.reduceAdd, Nat.reduceSub, Nat.reduceEqDiff, Nat.reduceLT, Nat.reduceLeDiff, Nat.reduceMul, Int.reduceNeg, Int.reduceToNat, Int.reduceEq, Int.reduceLT, Int.reduceLE, reduceCtorEq, Tryz.f176, h2]
    rw [decide_eq_false hne]
def EntSm (l : List Entry) : Prop := l.length ≤ 1099511627776 ∧ ∀ e ∈ l, e.posts.length ≤ 1099511627776 ∧ ∀ p ∈ e.posts, p.ats.length ≤ 1099511627776
@[go_sem] theorem l4Same_R (a b : List Entry) (ha : EntSm a) (hb : EntSm b) : R S0 116 [.sl (a.map Entry.pvF), .sl (b.map Entry.pvF)] = some ⟨[none, none], .bool (decide (a = b))⟩ := by
  obtain ⟨ha1, ha2⟩ := id ha
  obtain ⟨hb1, hb2⟩ := id hb
  by_cases h : a.length = b.length
  case neg =>
    have h2 : ¬ (a.length : Int) = b.length := by omega
    have hne : ¬ a = b := fun e => h (by rw [e])
    refine go116 rfl ?_; simp only [go_sem, ↓reduceIte, Nat.reduceAdd, Nat.reduceSub, Nat.reduceEqDiff, Nat.reduceLT, Nat.reduceLeDiff, Nat.reduceMul, Int.reduceNeg, Int.reduceToNat, Int.reduceEq, Int.reduceLT, Int.reduceLE, reduceCtorEq, Tryz.f116, h2]
    rw [decide_eq_false hne]
  have h2 : (a.length : Int) = b.length := by omega
  refine go116 rfl ?_; simp only [go_sem, ↓reduceIte, Nat.reduceAdd, Nat.reduceSub, Nat.reduceEqDiff, Nat.reduceLT, Nat.reduceLeDiff, Nat.reduceMul, Int.reduceNeg, Int.reduceToNat, Int.reduceEq, Int.reduceLT, Int.reduceLE, reduceCtorEq, Tryz.f116, h2]
  refine ends_for b.length (by omega) (fun i _ => mkSt [(0, .sl (a.map Entry.pvF)), (1, .sl (b.map Entry.pvF)), (5, .int .i64 i)] []) (fun i _ => a.take i = b.take i) 0 () (by omega) rfl ?_ ?_
  · rintro i _ hi hI hw ih
    obtain ⟨y, hy, hg, _⟩ := drop_get hi default
    have hia : i < a.length := by omega
    obtain ⟨x, hx, hgx, _⟩ := drop_get hia default
    obtain ⟨hx1, hx2⟩ := ha2 x (List.mem_of_getElem? hx)
    obtain ⟨hy1, hy2⟩ := hb2 y (List.mem_of_getElem? hy)
    have hne : ¬ x = y → ¬ a = b := by
      rintro he rfl
      rw [hx] at hy
      exact he (Option.some.inj hy)
    by_cases e1 : x.field = y.field
    case neg =>
      have hn := hne (fun e => e1 (by rw [e]))
      simp only [go_sem, ↓reduceIte, Nat.reduceAdd, Nat.reduceSub, Nat.reduceEqDiff, Nat.reduceLT, Nat.reduceLeDiff, Nat.reduceMul, Int.reduceNeg, Int.reduceToNat, Int.reduceEq, Int.reduceLT, Int.reduceLE, reduceCtorEq, hi, h2, hw, hg, hia, hgx, hx, hy, e1]
      rw [decide_eq_false hn]
    have e1t := eq_true e1
    by_cases e2 : x.term = y.term
    case neg =>
      have hn := hne (fun e => e2 (by rw [e]))
      simp only [go_sem, ↓reduceIte, Nat.reduceAdd, Nat.reduceSub, Nat.reduceEqDiff, Nat.reduceLT, Nat.reduceLeDiff, Nat.reduceMul, Int.reduceNeg, Int.reduceToNat, Int.reduceEq, Int.reduceLT, Int.reduceLE, reduceCtorEq, hi, h2, hw, hg, hia, hgx, hx, hy, e1t, e2]
      rw [decide_eq_false hn]
    have e2t := eq_true e2
    by_cases e3 : x.posts.length = y.posts.length
    case neg =>
      have hn := hne (fun e => e3 (by rw [e]))
      have e3' : ¬ (x.posts.length : Int) = y.posts.length := by omega
      simp only [go_sem, ↓reduceIte, Nat.reduceAdd, Nat.reduceSub, Nat.reduceEqDiff, Nat.reduceLT, Nat.reduceLeDiff, Nat.reduceMul, Int.reduceNeg, Int.reduceToNat, Int.reduceEq, Int.reduceLT, Int.reduceLE, reduceCtorEq, hi, h2, hw, hg, hia, hgx, hx, hy, e1t, e2t, e3']
      rw [decide_eq_false hn]
    have e3' : (x.posts.length : Int) = y.posts.length := by omega
    simp only [go_sem, ↓reduceIte, Nat.reduceAdd, Nat.reduceSub, Nat.reduceEqDiff, Nat.reduceLT, Nat.reduceLeDiff, Nat.reduceMul, Int.reduceNeg, Int.reduceToNat, Int.reduceEq, Int.reduceLT, Int.reduceLE, reduceCtorEq, hi, h2, hw, hg, hia, hgx, hx, hy, e1t, e2t, e3']
    refine ends_for y.posts.length (by omega) (fun k _ => mkSt [(0, .sl (a.map Entry.pvF)), (1, .sl (b.map Entry.pvF)), (5, .int .i64 i), (6, .int .i64 k)] []) (fun k _ => x.posts.take k = y.posts.take k) 0 () (by omega) rfl ?_ ?_
    · rintro k _ hk hJ hwk ihk
      obtain ⟨q, hq, hgq, _⟩ := drop_get hk default
      have hka : k < x.posts.length := by omega
      obtain ⟨p, hp, hgp, _⟩ := drop_get hka default
      have hp2 := hx2 p (List.mem_of_getElem? hp)
      have hq2 := hy2 q (List.mem_of_getElem? hq)
      have hne2 : ¬ p = q → ¬ a = b := by
        intro he
        refine hne ?_
        rintro rfl
        rw [hp] at hq
        exact he (Option.some.inj hq)
      by_cases e4 : p.doc = q.doc
      case neg =>
        have hn := hne2 (fun e => e4 (by rw [e]))
        simp only [go_sem, ↓reduceIte, Nat.reduceAdd, Nat.reduceSub, Nat.reduceEqDiff, Nat.reduceLT, Nat.reduceLeDiff, Nat.reduceMul, Int.reduceNeg, Int.reduceToNat, Int.reduceEq, Int.reduceLT, Int.reduceLE, reduceCtorEq, hi, h2, hk, hwk, hg, hia, hgx, hx, hy, hgq, hka, hgp, hp, hq, e3', e4]
        rw [decide_eq_false hn]
      have e4t := eq_true e4
      by_cases e5 : p.ats = q.ats
      case neg =>
        have hn := hne2 (fun e => e5 (by rw [e]))
        simp only [go_sem, ↓reduceIte, Nat.reduceAdd, Nat.reduceSub, Nat.reduceEqDiff, Nat.reduceLT, Nat.reduceLeDiff, Nat.reduceMul, Int.reduceNeg, Int.reduceToNat, Int.reduceEq, Int.reduceLT, Int.reduceLE, reduceCtorEq, hi, h2, hk, hwk, hg, hia, hgx, hx, hy, hgq, hka, hgp, hp, hq, e3', e4t, e5, hp2, hq2]
        rw [decide_eq_false hn]
      have e5t := eq_true e5
      simp only [go_sem, ↓reduceIte, Nat.reduceAdd, Nat.reduceSub, Nat.reduceEqDiff, Nat.reduceLT, Nat.reduceLeDiff, Nat.reduceMul, Int.reduceNeg, Int.reduceToNat, Int.reduceEq, Int.reduceLT, Int.reduceLE, reduceCtorEq, hi, h2, hk, hwk, hg, hia, hgx, hx, hy, hgq, hka, hgp, hp, hq, e3', e4t, e5t, hp2, hq2]
      refine ihk () ?_
      have : p = q := by cases p; cases q; simp at e4 e5; simp [e4, e5]
      rw [List.take_add_one, List.take_add_one, hp, hq, hJ, this]
    · rintro _ hJ
      rw [List.take_length, List.take_of_length_le (by omega)] at hJ
      have hxy : x = y := by cases x; cases y; simp at e1 e2 hJ; simp [e1, e2, hJ]
      simp only [go_sem, ↓reduceIte, Nat.reduceAdd, Nat.reduceSub, Nat.reduceEqDiff, Nat.reduceLT, Nat.reduceLeDiff, Nat.reduceMul, Int.reduceNeg, Int.reduceToNat, Int.reduceEq, Int.reduceLT, Int.reduceLE, reduceCtorEq, hi, h2, hw, hg, hia, hgx, hx, hy, e3']
      exact ih () (by rw [List.take_add_one, List.take_add_one, hx, hy, hI, hxy])
  · rintro _ hI
    rw [List.take_length, List.take_of_length_le (by omega)] at hI
    simp only [go_sem, ↓reduceIte, Nat.reduceAdd, Nat.reduceSub, Nat.reduceEqDiff, Nat.reduceLT, Nat.reduceLeDiff, Nat.reduceMul, Int.reduceNeg, Int.reduceToNat, Int.reduceEq, Int.reduceLT, Int.reduceLE, reduceCtorEq, h2]
    rw [decide_eq_true hI]
def keyIx (rows : List DRow) (k : Str) : Int := if (rows.any fun r => r.doc.key = k) = true then (rows.findIdx (fun r => r.doc.key = k) : Nat) else -1
@[go_sem] theorem l4Key_R (rows : List DRow) (k : Str) (hl : rows.length ≤ 1099511627776) : R S0 67 [.sl (rows.map DRow.pvF), .str k] = some ⟨[none, none], .int .i64 (keyIx rows k)⟩ := by
  refine go67 rfl ?_; simp only [go_sem, ↓reduceIte, Nat.reduceAdd, Nat.reduceSub, Nat.reduceEqDiff, Nat.reduceLT, Nat.reduceLeDiff, Nat.reduceMul, Int.reduceNeg, Int.reduceToNat, Int.reduceEq, Int.reduceLT, Int.reduceLE, reduceCtorEq, Tryz.f67]
  refine ends_for rows.length (by omega) (fun i _ => mkSt [(0, .sl (rows.map DRow.pvF)), (1, .str k), (5, .int .i64 i)] []) (fun i _ => ∀ y ∈ rows.take i, decide (y.doc.key = k) = false) 0 () (by omega) (by simp) ?_ ?_
  · rintro i _ hi hI hw ih
    obtain ⟨x, hx, hg, hd⟩ := drop_get hi default
    by_cases h : x.doc.key = k
    · have := (look_at (p := fun r : DRow => decide (r.doc.key = k)) hI hx (by simpa using h)).2
      have e : keyIx rows k = i := by rw [keyIx, if_pos this.2, this.1]
      simp only [go_sem, ↓reduceIte, Nat.reduceAdd, Nat.reduceSub, Nat.reduceEqDiff, Nat.reduceLT, Nat.reduceLeDiff, Nat.reduceMul, Int.reduceNeg, Int.reduceToNat, Int.reduceEq, Int.reduceLT, Int.reduceLE, reduceCtorEq, hi, hw, hg, hx, eq_true h, e]
    · simp only [go_sem, ↓reduceIte, Nat.reduceAdd, Nat.reduceSub, Nat.reduceEqDiff, Nat.reduceLT, Nat.reduceLeDiff, Nat.reduceMul, Int.reduceNeg, Int.reduceToNat, Int.reduceEq, Int.reduceLT, Int.reduceLE, reduceCtorEq, hi, hw, hg, hx, h]
      exact ih () (take_step hI hx (by simpa using h))
  · rintro _ hI
    rw [List.take_length] at hI
    have := (look_no (p := fun r : DRow => decide (r.doc.key = k)) hI).2
    have e : keyIx rows k = -1 := by rw [keyIx, if_neg (by rw [this]; simp)]
    simp only [go_sem, ↓reduceIte, Nat.reduceAdd, Nat.reduceSub, Nat.reduceEqDiff, Nat.reduceLT, Nat.reduceLeDiff, Nat.reduceMul, Int.reduceNeg, Int.reduceToNat, Int.reduceEq, Int.reduceLT, Int.reduceLE, reduceCtorEq, e]
@[go_sem] theorem DRow.snocF (l : List DRow) (i : Int) (k : Str) (cs : List Cell) : l.map DRow.pvF ++ [.agg [.int .i64 i, .str k, .sl (cs.map Cell.pv)]] = (l ++ [DRow.mk i (Doc.mk k cs)]).map DRow.pvF := by simp [DRow.pvF]
@[go_sem] theorem DRow.snoc (l : List DRow) (i : Int) (k : Str) (cs : List Cell) : l.map DRow.pv ++ [.agg [.int .i64 i, .str k, .slo 2 (cs.map Cell.pv)]] = (l ++ [DRow.mk i (Doc.mk k cs)]).map DRow.pv := by simp [DRow.pv]
def lessKey (rows : List DRow) (k : Str) : List DRow := rows.filter fun r => !decide (r.doc.key = k)
@[go_sem] theorem l4Without_R (rows : List DRow) (k : Str) (hl : rows.length ≤ 1099511627776) : R S0 82 [.sl (rows.map DRow.pvF), .str k] = some ⟨[none, none], .slo 3 ((lessKey rows k).map DRow.pvF)⟩ := by
  refine go82 rfl ?_; simp only [go_sem, ↓reduceIte, Nat.reduceAdd, Nat.reduceSub, Nat.reduceEqDiff, Nat.reduceLT, Nat.reduceLeDiff, Nat.reduceMul, Int.reduceNeg, Int.reduceToNat, Int.reduceEq, Int.reduceLT, Int.reduceLE, reduceCtorEq, Tryz.f82]
  refine ends_for rows.length (by omega) (fun i _ => mkSt [(0, .sl (rows.map DRow.pvF)), (1, .str k), (5, .own 0), (6, .int .i64 i)] [.slo 3 ((lessKey (rows.take i) k).map DRow.pvF)]) (fun _ _ => True) 0 () (by omega) trivial ?_ ?_
  · rintro i _ hi _ hw ih
    obtain ⟨x, hx, hg, hd⟩ := drop_get hi default
    have hle : (lessKey (rows.take i) k).length ≤ 1099511627776 := by
      have := List.length_filter_le (fun r : DRow => !decide (r.doc.key = k)) (rows.take i)
      rw [lessKey]; simp only [List.length_take] at this; omega
    have ih' := ih () trivial
    by_cases h : x.doc.key = k
    · have e : lessKey (rows.take (i + 1)) k = lessKey (rows.take i) k := by rw [lessKey, List.take_add_one, hx, List.filter_append]; simp [h, lessKey]
      rw [e] at ih'
      simp only [go_sem, ↓reduceIte, Nat.reduceAdd, Nat.reduceSub, Nat.reduceEqDiff, Nat.reduceLT, Nat.reduceLeDiff, Nat.reduceMul, Int.reduceNeg, Int.reduceToNat, Int.reduceEq, Int.reduceLT, Int.reduceLE, reduceCtorEq, hi, hw, hg, hx, eq_true h]
      exact ih'
    · have e : lessKey (rows.take (i + 1)) k = lessKey (rows.take i) k ++ [DRow.mk x.id (Doc.mk x.doc.key x.doc.cells)] := by rw [lessKey, List.take_add_one, hx, List.filter_append]; simp [h, lessKey]
      rw [e] at ih'
      simp only [go_sem, ↓reduceIte, Nat.reduceAdd, Nat.reduceSub, Nat.reduceEqDiff, Nat.reduceLT, Nat.reduceLeDiff, Nat.reduceMul, Int.reduceNeg, Int.reduceToNat, Int.reduceEq, Int.reduceLT, Int.reduceLE, reduceCtorEq, hi, hw, hg, hx, h]
      exact ⟨by omega, ih'⟩
  · rintro _ _
    simp only [go_sem, ↓reduceIte, Nat.reduceAdd, Nat.reduceSub, Nat.reduceEqDiff, Nat.reduceLT, Nat.reduceLeDiff, Nat.reduceMul, Int.reduceNeg, Int.reduceToNat, Int.reduceEq, Int.reduceLT, Int.reduceLE, reduceCtorEq]
    rw [List.take_length]
@[go_sem] theorem l4Build_R (fl : List Field) (rows : List DRow) (nx : Int) (hfl : fl.length ≤ 1099511627776) (hr : RowsSt rows) : R S0 83 [.sl (fl.map Field.pv), .sl (rows.map DRow.pvF), .int .i64 nx] = some ⟨[none, none, none], .agg [.slo 3 (fl.map Field.pv), .slo 3 (rows.map DRow.pv), .slo 3 ((madeE fl rows).map Entry.pv), .int .i64 nx]⟩ := by
  obtain ⟨hl, hrs⟩ := id hr
  refine go83 rfl ?_; simp only [go_sem, ↓reduceIte, Nat.reduceAdd, Nat.reduceSub, Nat.reduceEqDiff, Nat.reduceLT, Nat.reduceLeDiff, Nat.reduceMul, Int.reduceNeg, Int.reduceToNat, Int.reduceEq, Int.reduceLT, Int.reduceLE, reduceCtorEq, Tryz.f83]
  refine ⟨by omega, ?_⟩
  refine ends_for rows.length (by omega) (fun i _ => mkSt [(1, .sl (rows.map DRow.pvF)), (6, .addr 0 0 0), (7, .addr 1 0 0), (8, .int .i64 i)] [.pto [.slo 3 [], .slo 3 [], .slo 3 [], .int .i64 0], .pto [.slo 3 (fl.map Field.pv), .slo 3 ((rows.take i).map DRow.pv), .slo 3 [], .int .i64 nx]]) (fun _ _ => True) 0 () (by omega) trivial ?_ ?_
  · rintro i _ hi _ hw ih
    obtain ⟨x, hx, hg, hd⟩ := drop_get hi default
    obtain ⟨_, hxc, _⟩ := hrs x (List.mem_of_getElem? hx)
    have ih' := ih () trivial
    have e : rows.take (i + 1) = rows.take i ++ [DRow.mk x.id (Doc.mk x.doc.key x.doc.cells)] := by rw [List.take_add_one, hx]; rfl
    have hlt : (rows.take i).length ≤ 1000 := by simp; omega
    rw [e] at ih'
    simp only [go_sem, ↓reduceIte, Nat.reduceAdd, Nat.reduceSub, Nat.reduceEqDiff, Nat.reduceLT, Nat.reduceLeDiff, Nat.reduceMul, Int.reduceNeg, Int.reduceToNat, Int.reduceEq, Int.reduceLT, Int.reduceLE, reduceCtorEq, hi, hw, hg, hx]
    exact ⟨by omega, by omega, by decide +kernel, ih'⟩
  · rintro _ _
    rw [List.take_length]
    simp only [go_sem, ↓reduceIte, Nat.reduceAdd, Nat.reduceSub, Nat.reduceEqDiff, Nat.reduceLT, Nat.reduceLeDiff, Nat.reduceMul, Int.reduceNeg, Int.reduceToNat, Int.reduceEq, Int.reduceLT, Int.reduceLE, reduceCtorEq, hfl, hr]
end Go.Proofs.YtmanllfmgghadaaGreatDoor.PVE
namespace Go.Proofs.YtmanllfmgghadaaGreatDoor.PVE
open PV
def rowB (x : Bool × DRow) : PV := if x.1 = true then x.2.pv else x.2.pvF
def rowF (x : Bool × DRow) : PV := x.2.pvF
theorem rowB_cases (x : Bool × DRow) : rowB x = x.2.pv ∨ rowB x = x.2.pvF := by
  obtain ⟨b, r⟩ := x
  cases b
  · exact .inr rfl
  · exact .inl rfl
instance : Enc rowB 3 := ⟨fun x => by rcases rowB_cases x with h | h <;> rw [h] <;> exact Enc.free _, fun x => by rcases rowB_cases x with h | h <;> rw [h] <;> exact Enc.okr _, fun x => by rcases rowB_cases x with h | h <;> rw [h] <;> rfl⟩
instance : EncS rowB rowF := ⟨fun x => by rcases rowB_cases x with h | h <;> rw [h] <;> exact EncS.strip _⟩
@[go_sem] theorem rowF_map (l : List (Bool × DRow)) : l.map rowF = (l.map (fun x => x.2)).map DRow.pvF := by rw [List.map_map]; rfl
@[go_sem] theorem rowB_snoc (l : List DRow) (i : Int) (k : Str) (cs : List Cell) : l.map DRow.pvF ++ [.agg [.int .i64 i, .str k, .slo 2 (cs.map Cell.pv)]] = (l.map (fun r => (false, r)) ++ [(true, DRow.mk i (Doc.mk k cs))]).map rowB := by
  rw [List.map_append, List.map_map]; rfl
@[go_sem] theorem rowB_snoc0 (l : List (Bool × DRow)) (i : Int) (k : Str) : l.map rowB ++ [.agg [.int .i64 i, .str k, .slo 2 []]] = (l ++ [(true, DRow.mk i (Doc.mk k []))]).map rowB := by
  rw [List.map_append]; rfl
def RowsS (n k : Nat) (rows : List DRow) : Prop := rows.length ≤ n ∧ ∀ r ∈ rows, DSt k r.doc
theorem RowsS.st {n k : Nat} {rows : List DRow} (h : RowsS n k rows) (hn : n ≤ 1000) (hk : k ≤ 1000) : RowsSt rows := ⟨Nat.le_trans h.1 hn, fun r hr => ⟨(h.2 r hr).1, Nat.le_trans (h.2 r hr).2.1 hk, (h.2 r hr).2.2⟩⟩
theorem EntB.sm {n : Nat} {l : List Entry} (h : EntB n l) (hn : n ≤ 1099511627776) : EntSm l := ⟨Nat.le_trans h.1 hn, fun e he => ⟨Nat.le_trans (h.2 e he).2.1 hn, fun p hp => Nat.le_trans ((h.2 e he).2.2 p hp) hn⟩⟩
theorem made_sm (fl : List Field) {rows : List DRow} (h : RowsSt rows) : EntSm (madeE fl rows) := (EntB.made fl h rows.length (Nat.le_refl _)).sm (by have := h.1; omega)
theorem EntSm.sub {l m : List Entry} (h : EntSm l) (hs : m.Sublist l) : EntSm m := ⟨Nat.le_trans hs.length_le h.1, fun e he => h.2 e (hs.subset he)⟩
end Go.Proofs.YtmanllfmgghadaaGreatDoor.PVE
namespace Go.Proofs.YtmanllfmgghadaaGreatDoor.PVE
open PV Query
def RowsM (rows : List DRow) : Prop := rows.length ≤ 1099511627776 ∧ ∀ r ∈ rows, DSm r.doc
theorem RowsS.sm {n k : Nat} {rows : List DRow} (h : RowsS n k rows) (hn : n ≤ 1000) (hk : k ≤ 1000) : RowsM rows := ⟨by have := h.1; omega, fun r hr => (h.2 r hr).sm hk⟩
def rowOkS (fl : List Field) (rows : List DRow) (nx : Int) (i : Nat) : Bool := docOk fl (rows.getD i default).doc && decide (keyIx rows (rows.getD i default).doc.key = i) && inB (rows.getD i default).id 0 (nx - 1) && (decide (i = 0) || decide ((rows.getD (i - 1) default).id < (rows.getD i default).id))
def rowsOkTo (fl : List Field) (rows : List DRow) (nx : Int) : Nat → Bool
  | 0 => true
  | k + 1 => rowsOkTo fl rows nx k && rowOkS fl rows nx k
def indexOkS (fl : List Field) (rows : List DRow) (ents : List Entry) (nx : Int) : Bool := rowsOkTo fl rows nx rows.length && (fieldsOk fl && decide (rows.length ≤ 8) && inB nx 0 999999999 && decide (madeE fl rows = ents))
theorem rowsOkTo_all {fl : List Field} {rows : List DRow} {nx : Int} : ∀ {k : Nat}, rowsOkTo fl rows nx k = true ↔ ∀ i, i < k → rowOkS fl rows nx i = true
  | 0 => by simp [rowsOkTo]
  | k + 1 => by
    rw [rowsOkTo, Bool.and_eq_true, rowsOkTo_all (k := k)]
    constructor
    · rintro ⟨h1, h2⟩ i hi
      rcases Nat.lt_succ_iff_lt_or_eq.1 hi with h | rfl
      · exact h1 i h
      · exact h2
    · exact fun h => ⟨fun i hi => h i (by omega), h k (by omega)⟩
theorem rowsOkTo_no {fl : List Field} {rows : List DRow} {nx : Int} {k i : Nat} (hi : i < k) (h : rowOkS fl rows nx i = false) : rowsOkTo fl rows nx k = false := by
  cases hc : rowsOkTo fl rows nx k with
  | false => rfl
  | true => rw [rowsOkTo_all.1 hc i hi] at h; cases h
theorem docOk_st {fl : List Field} {d : Doc} (h : docOk fl d = true) : DSt 4 d := by
  obtain ⟨_, h2, h3⟩ := docOk_parts h
  simp only [docOk, Bool.and_eq_true, docForm, decide_eq_true_eq] at h
  have := nameOk_len h.1.2.1.2
  exact ⟨by omega, h2, fun c hc => by have := h3 c hc; omega⟩
theorem rowsOk_st {fl : List Field} {rows : List DRow} {nx : Int} (h : rowsOkTo fl rows nx rows.length = true) (hl : rows.length ≤ 8) : RowsS 8 4 rows := by
  refine ⟨hl, fun r hr => ?_⟩
  obtain ⟨i, hi, rfl⟩ := List.getElem_of_mem hr
  have := rowsOkTo_all.1 h i hi
  simp only [rowOkS, Bool.and_eq_true, List.getD_eq_getElem?_getD, List.getElem?_eq_getElem hi, Option.getD_some] at this
  exact docOk_st this.1.1.1
@[go_sem] theorem specIndexOk_R (fl : List Field) (rows : List DRow) (ents : List Entry) (nx : Int) (hfl : FSm fl) (hr : RowsM rows) (he : EntSm ents) (hn : -9223372036854775808 ≤ nx ∧ nx ≤ 9223372036854775807) : R S0 53 [.agg [.sl (fl.map Field.pv), .sl (rows.map DRow.pvF), .sl (ents.map Entry.pvF), .int .i64 nx]] = some ⟨[none], .bool (indexOkS fl rows ents nx)⟩ := by
  obtain ⟨hrl, hrs⟩ := id hr
  obtain ⟨hfl1, _⟩ := id hfl
  by_cases hmin : nx = -9223372036854775808
  · subst hmin
    have hnx : IntKind.i64.wrap (-9223372036854775808 - 1) = 9223372036854775807 := by decide +kernel
    have c3f : inB (-9223372036854775808) 0 999999999 = false := by decide
    have hno : indexOkS fl rows ents (-9223372036854775808) = false := by rw [indexOkS, c3f]; simp
    refine go53 rfl ?_; simp only [go_sem, ↓reduceIte, Nat.reduceAdd, Nat.reduceSub, Nat.reduceEqDiff, Nat.reduceLT, Nat.reduceLeDiff, Nat.reduceMul, Int.reduceNeg, Int.reduceToNat, Int.reduceEq, Int.reduceLT, Int.reduceLE, reduceCtorEq, Tryz.f53]
    refine ends_for rows.length (by omega) (fun i _ => mkSt [(1, .addr 0 0 0), (3, .int .i64 i)] [.pto [.sl (fl.map Field.pv), .sl (rows.map DRow.pvF), .sl (ents.map Entry.pvF), .int .i64 (-9223372036854775808)]]) (fun _ _ => True) 0 () (by omega) trivial ?_ ?_
    · rintro i _ hi - hw ih
      obtain ⟨r, hx, hg, _⟩ := drop_get hi default
      have hds := hrs r (List.mem_of_getElem? hx)
      have ih' := ih () trivial
      cases c1 : docOk fl r.doc with
      | false => simp only [go_sem, ↓reduceIte, Nat.reduceAdd, Nat.reduceSub, Nat.reduceEqDiff, Nat.reduceLT, Nat.reduceLeDiff, Nat.reduceMul, Int.reduceNeg, Int.reduceToNat, Int.reduceEq, Int.reduceLT, Int.reduceLE, reduceCtorEq, hi, hw, hg, hx, hfl, hds, hrl, hnx, c1, hno]
      | true =>
        by_cases c2 : keyIx rows r.doc.key = i
        case neg => simp only [go_sem, ↓reduceIte, Nat.reduceAdd, Nat.reduceSub, Nat.reduceEqDiff, Nat.reduceLT, Nat.reduceLeDiff, Nat.reduceMul, Int.reduceNeg, Int.reduceToNat, Int.reduceEq, Int.reduceLT, Int.reduceLE, reduceCtorEq, hi, hw, hg, hx, hfl, hds, hrl, hnx, c1, c2, hno]
        cases c3 : inB r.id 0 9223372036854775807 with
        | false => simp only [go_sem, ↓reduceIte, Nat.reduceAdd, Nat.reduceSub, Nat.reduceEqDiff, Nat.reduceLT, Nat.reduceLeDiff, Nat.reduceMul, Int.reduceNeg, Int.reduceToNat, Int.reduceEq, Int.reduceLT, Int.reduceLE, reduceCtorEq, hi, hw, hg, hx, hfl, hds, hrl, hnx, c1, c2, c3, hno]
        | true =>
          by_cases c4 : i = 0
          · have g0 : ¬ (0 : Int) < (i : Int) := by omega
            simp only [go_sem, ↓reduceIte, Nat.reduceAdd, Nat.reduceSub, Nat.reduceEqDiff, Nat.reduceLT, Nat.reduceLeDiff, Nat.reduceMul, Int.reduceNeg, Int.reduceToNat, Int.reduceEq, Int.reduceLT, Int.reduceLE, reduceCtorEq, hi, hw, hg, hx, hfl, hds, hrl, hnx, c1, c2, c3, g0]
            exact ih'
          · have g0 : (0 : Int) < (i : Int) := by omega
            have hi1 : IntKind.i64.wrap ((i : Int) - 1) = ((i - 1 : Nat) : Int) := by rw [wrap_in (by omega) (by omega)]; omega
            have hlt : i - 1 < rows.length := by omega
            obtain ⟨y, hy1, hy2, _⟩ := drop_get hlt default
            by_cases c5 : r.id ≤ y.id
            · simp only [go_sem, ↓reduceIte, Nat.reduceAdd, Nat.reduceSub, Nat.reduceEqDiff, Nat.reduceLT, Nat.reduceLeDiff, Nat.reduceMul, Int.reduceNeg, Int.reduceToNat, Int.reduceEq, Int.reduceLT, Int.reduceLE, reduceCtorEq, hi, hw, hg, hx, hfl, hds, hrl, hnx, c1, c2, c3, g0, hi1, hlt, hy1, hy2, c5, hno]
            · simp only [go_sem, ↓reduceIte, Nat.reduceAdd, Nat.reduceSub, Nat.reduceEqDiff, Nat.reduceLT, Nat.reduceLeDiff, Nat.reduceMul, Int.reduceNeg, Int.reduceToNat, Int.reduceEq, Int.reduceLT, Int.reduceLE, reduceCtorEq, hi, hw, hg, hx, hfl, hds, hrl, hnx, c1, c2, c3, g0, hi1, hlt, hy1, hy2, c5]
              exact ih'
    · rintro _ -
      cases c1 : fieldsOk fl with
      | false => simp only [go_sem, ↓reduceIte, Nat.reduceAdd, Nat.reduceSub, Nat.reduceEqDiff, Nat.reduceLT, Nat.reduceLeDiff, Nat.reduceMul, Int.reduceNeg, Int.reduceToNat, Int.reduceEq, Int.reduceLT, Int.reduceLE, reduceCtorEq, hfl, c1, hno]
      | true =>
        by_cases c2 : (rows.length : Int) ≤ 8
        · simp only [go_sem, ↓reduceIte, Nat.reduceAdd, Nat.reduceSub, Nat.reduceEqDiff, Nat.reduceLT, Nat.reduceLeDiff, Nat.reduceMul, Int.reduceNeg, Int.reduceToNat, Int.reduceEq, Int.reduceLT, Int.reduceLE, reduceCtorEq, hfl, c1, c2, c3f, hno]
        · simp only [go_sem, ↓reduceIte, Nat.reduceAdd, Nat.reduceSub, Nat.reduceEqDiff, Nat.reduceLT, Nat.reduceLeDiff, Nat.reduceMul, Int.reduceNeg, Int.reduceToNat, Int.reduceEq, Int.reduceLT, Int.reduceLE, reduceCtorEq, hfl, c1, c2, hno]
  have hnx : IntKind.i64.wrap (nx - 1) = nx - 1 := wrap_in (by omega) (by omega)
  refine go53 rfl ?_; simp only [go_sem, ↓reduceIte, Nat.reduceAdd, Nat.reduceSub, Nat.reduceEqDiff, Nat.reduceLT, Nat.reduceLeDiff, Nat.reduceMul, Int.reduceNeg, Int.reduceToNat, Int.reduceEq, Int.reduceLT, Int.reduceLE, reduceCtorEq, Tryz.f53]
  refine ends_for rows.length (by omega) (fun i _ => mkSt [(1, .addr 0 0 0), (3, .int .i64 i)] [.pto [.sl (fl.map Field.pv), .sl (rows.map DRow.pvF), .sl (ents.map Entry.pvF), .int .i64 nx]]) (fun i _ => rowsOkTo fl rows nx i = true) 0 () (by omega) rfl ?_ ?_
  · rintro i _ hi hI hw ih
    obtain ⟨r, hx, hg, _⟩ := drop_get hi default
    have hds := hrs r (List.mem_of_getElem? hx)
    have hno : rowOkS fl rows nx i = false → indexOkS fl rows ents nx = false := fun h => by rw [indexOkS, rowsOkTo_no hi h]; rfl
    have hi1 : IntKind.i64.wrap ((i : Int) - 1) = (i : Int) - 1 := wrap_in (by omega) (by omega)
    cases c1 : docOk fl r.doc with
    | false =>
      have hn := hno (by rw [rowOkS, hg, c1]; rfl)
      simp only [go_sem, ↓reduceIte, Nat.reduceAdd, Nat.reduceSub, Nat.reduceEqDiff, Nat.reduceLT, Nat.reduceLeDiff, Nat.reduceMul, Int.reduceNeg, Int.reduceToNat, Int.reduceEq, Int.reduceLT, Int.reduceLE, reduceCtorEq, hi, hw, hg, hx, hfl, hds, hrl, hnx, c1, hn]
    | true =>
      by_cases c2 : keyIx rows r.doc.key = i
      case neg =>
        have hn := hno (by rw [rowOkS, hg, decide_eq_false c2]; simp)
        simp only [go_sem, ↓reduceIte, Nat.reduceAdd, Nat.reduceSub, Nat.reduceEqDiff, Nat.reduceLT, Nat.reduceLeDiff, Nat.reduceMul, Int.reduceNeg, Int.reduceToNat, Int.reduceEq, Int.reduceLT, Int.reduceLE, reduceCtorEq, hi, hw, hg, hx, hfl, hds, hrl, hnx, c1, c2, hn]
      have c2t := eq_true c2
      cases c3 : inB r.id 0 (nx - 1) with
      | false =>
        have hn := hno (by rw [rowOkS, hg, c3]; simp)
        simp only [go_sem, ↓reduceIte, Nat.reduceAdd, Nat.reduceSub, Nat.reduceEqDiff, Nat.reduceLT, Nat.reduceLeDiff, Nat.reduceMul, Int.reduceNeg, Int.reduceToNat, Int.reduceEq, Int.reduceLT, Int.reduceLE, reduceCtorEq, hi, hw, hg, hx, hfl, hds, hrl, hnx, c1, c2, c3, hn]
      | true =>
        by_cases c4 : i = 0
        · have hy : rowOkS fl rows nx i = true := by rw [rowOkS, hg, c1, c3, decide_eq_true c2, decide_eq_true c4]; rfl
          have ih' := ih () (by rw [rowsOkTo, hI, hy]; rfl)
          have g0 : ¬ (0 : Int) < (i : Int) := by omega
          simp only [go_sem, ↓reduceIte, Nat.reduceAdd, Nat.reduceSub, Nat.reduceEqDiff, Nat.reduceLT, Nat.reduceLeDiff, Nat.reduceMul, Int.reduceNeg, Int.reduceToNat, Int.reduceEq, Int.reduceLT, Int.reduceLE, reduceCtorEq, hi, hw, hg, hx, hfl, hds, hrl, hnx, c1, c2, c3, g0]
          exact ih'
        · have g0 : (0 : Int) < (i : Int) := by omega
          have hi1 : IntKind.i64.wrap ((i : Int) - 1) = ((i - 1 : Nat) : Int) := by rw [wrap_in (by omega) (by omega)]; omega
          have hlt : i - 1 < rows.length := by omega
          obtain ⟨y, hy1, hy2, _⟩ := drop_get hlt default
          by_cases c5 : y.id < r.id
          · have hy : rowOkS fl rows nx i = true := by rw [rowOkS, hg, hy2, c1, c3, decide_eq_true c2, decide_eq_true c5]; simp
            have ih' := ih () (by rw [rowsOkTo, hI, hy]; rfl)
            have c5' : ¬ r.id ≤ y.id := by omega
            simp only [go_sem, ↓reduceIte, Nat.reduceAdd, Nat.reduceSub, Nat.reduceEqDiff, Nat.reduceLT, Nat.reduceLeDiff, Nat.reduceMul, Int.reduceNeg, Int.reduceToNat, Int.reduceEq, Int.reduceLT, Int.reduceLE, reduceCtorEq, hi, hw, hg, hx, hfl, hds, hrl, hnx, c1, c2, c3, g0, hi1, hlt, hy1, hy2, c5']
            exact ih'
          · have hn := hno (by rw [rowOkS, hg, hy2, c1, c3, decide_eq_true c2, decide_eq_false c5, decide_eq_false c4]; rfl)
            have c5' : r.id ≤ y.id := by omega
            simp only [go_sem, ↓reduceIte, Nat.reduceAdd, Nat.reduceSub, Nat.reduceEqDiff, Nat.reduceLT, Nat.reduceLeDiff, Nat.reduceMul, Int.reduceNeg, Int.reduceToNat, Int.reduceEq, Int.reduceLT, Int.reduceLE, reduceCtorEq, hi, hw, hg, hx, hfl, hds, hrl, hnx, c1, c2, c3, g0, hi1, hlt, hy1, hy2, c5', hn]
  · rintro _ hI
    cases c1 : fieldsOk fl with
    | false =>
      have hn : indexOkS fl rows ents nx = false := by rw [indexOkS, c1]; simp
      simp only [go_sem, ↓reduceIte, Nat.reduceAdd, Nat.reduceSub, Nat.reduceEqDiff, Nat.reduceLT, Nat.reduceLeDiff, Nat.reduceMul, Int.reduceNeg, Int.reduceToNat, Int.reduceEq, Int.reduceLT, Int.reduceLE, reduceCtorEq, hfl, c1, hn]
    | true =>
      by_cases c2 : rows.length ≤ 8
      case neg =>
        have hn : indexOkS fl rows ents nx = false := by rw [indexOkS, decide_eq_false c2]; simp
        have c2' : ¬ (rows.length : Int) ≤ 8 := by omega
        simp only [go_sem, ↓reduceIte, Nat.reduceAdd, Nat.reduceSub, Nat.reduceEqDiff, Nat.reduceLT, Nat.reduceLeDiff, Nat.reduceMul, Int.reduceNeg, Int.reduceToNat, Int.reduceEq, Int.reduceLT, Int.reduceLE, reduceCtorEq, hfl, c1, c2', hn]
      have c2' : (rows.length : Int) ≤ 8 := by omega
      cases c3 : inB nx 0 999999999 with
      | false =>
        have hn : indexOkS fl rows ents nx = false := by rw [indexOkS, c3]; simp
        simp only [go_sem, ↓reduceIte, Nat.reduceAdd, Nat.reduceSub, Nat.reduceEqDiff, Nat.reduceLT, Nat.reduceLeDiff, Nat.reduceMul, Int.reduceNeg, Int.reduceToNat, Int.reduceEq, Int.reduceLT, Int.reduceLE, reduceCtorEq, hfl, c1, c2', c3, hn]
      | true =>
        have hst := (rowsOk_st hI c2).st (by omega) (by omega)
        have hms := made_sm fl hst
        have hn : indexOkS fl rows ents nx = decide (madeE fl rows = ents) := by rw [indexOkS, hI, c1, c3, decide_eq_true c2]; simp
        simp only [go_sem, ↓reduceIte, Nat.reduceAdd, Nat.reduceSub, Nat.reduceEqDiff, Nat.reduceLT, Nat.reduceLeDiff, Nat.reduceMul, Int.reduceNeg, Int.reduceToNat, Int.reduceEq, Int.reduceLT, Int.reduceLE, reduceCtorEq, hfl, hfl1, c1, c2', c3, hst, hms, he, hn]
        decide +kernel
def findS (fl : List Field) (rows : List DRow) (q : Query) : List Int := (rows.filter fun r => meetsM fl r.doc q).map (·.id)
@[go_sem] theorem ints_snoc1 (l : List Int) (a : Int) : l.map (PV.int .i64) ++ [.int .i64 a] = (l ++ [a]).map (.int .i64) := ints_snoc l a
end Go.Proofs.YtmanllfmgghadaaGreatDoor.PVE
namespace Go.Proofs.YtmanllfmgghadaaGreatDoor.PVE
open PV Query
def leafScore (fl : List Field) (rows : List DRow) (d : Doc) (q : Query) : Nat := if (findS fl rows q).length = 0 then 0 else weightN fl d q * (100 * rows.length / (findS fl rows q).length)
mutual
def scoreN (fl : List Field) (rows : List DRow) (d : Doc) : Query → Nat | .mk k f t lo hi p => if k = 7 ∨ k = 8 then scoreL fl rows d p else if k = 2 ∨ k = 3 ∨ k = 4 then leafScore fl rows d (.mk k f t lo hi p) else 0
def scoreL (fl : List Field) (rows : List DRow) (d : Doc) : List Query → Nat
  | [] => 0
  | q :: qs => scoreN fl rows d q + scoreL fl rows d qs
end
structure Hit where
  doc : Int
  key : Str
  score : Int
  deriving Inhabited, DecidableEq
def Hit.pv (h : Hit) : PV := .agg [.int .i64 h.doc, .str h.key, .int .i64 h.score]
instance : Enc Hit.pv 3 := ⟨fun _ => by simp only [Hit.pv, PV.free, PV.freeL, and_self], fun _ => by simp only [Hit.pv, PV.okr, PV.okrL, and_self], fun _ => rfl⟩
instance : EncF Hit.pv := ⟨fun _ => rfl⟩
instance : EncN Hit.pv := ⟨fun _ => by simp only [Hit.pv, PV.noR, PV.noRL, and_self]⟩
instance : EncS Hit.pv Hit.pv := ⟨fun _ => rfl⟩
@[go_sem] theorem Hit.cells (h : Hit) : h.pv.cells = [.int .i64 h.doc, .str h.key, .int .i64 h.score] := rfl
@[go_sem] theorem Hit.mid (l m : List Hit) (a : Int) (k : Str) (s : Int) : l.map Hit.pv ++ .agg [.int .i64 a, .str k, .int .i64 s] :: m.map Hit.pv = (l ++ Hit.mk a k s :: m).map Hit.pv := by simp [Hit.pv]
def ahead (h x : Hit) : Bool := decide (h.score < x.score) || (decide (x.score = h.score) && Op.bytesLess x.key h.key)
end Go.Proofs.YtmanllfmgghadaaGreatDoor.PVE
