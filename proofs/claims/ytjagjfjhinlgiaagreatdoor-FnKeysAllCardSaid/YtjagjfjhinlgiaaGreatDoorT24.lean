/- The index: the reference's entries. -/
import Derived.Test.YtjagjfjhinlgiaaGreatDoorT19
import Derived.Test.YtjagjfjhinlgiaaGreatDoorT16
set_option linter.unusedVariables false
set_option linter.unusedSimpArgs false
set_option maxRecDepth 100000
namespace Go.Proofs.YtjagjfjhinlgiaaGreatDoor.PVE
open PV
structure Post where
  doc : Int
  ats : List Int
  deriving Inhabited
def Post.pv (p : Post) : PV := .agg [.int .i64 p.doc, .slo 1 (p.ats.map (.int .i64))]
def Post.pvF (p : Post) : PV := .agg [.int .i64 p.doc, .sl (p.ats.map (.int .i64))]
structure Entry where
  field : Str
  term : Str
  posts : List Post
  deriving Inhabited
def Entry.pv (e : Entry) : PV := .agg [.str e.field, .str e.term, .slo 2 (e.posts.map Post.pv)]
def Entry.pvF (e : Entry) : PV := .agg [.str e.field, .str e.term, .sl (e.posts.map Post.pvF)]
structure DRow where
  id : Int
  doc : Doc
  deriving Inhabited
def DRow.pv (r : DRow) : PV := .agg [.int .i64 r.id, .str r.doc.key, .slo 2 (r.doc.cells.map Cell.pv)]
def DRow.pvF (r : DRow) : PV := .agg [.int .i64 r.id, .str r.doc.key, .sl (r.doc.cells.map Cell.pv)]
instance : Enc Post.pv 2 := ⟨fun _ => by simp only [Post.pv, PV.free, PV.freeL, enc_freeL, and_self], fun _ => by simp only [Post.pv, PV.okr, PV.okrL, PV.free, enc_freeL, and_self], fun _ => rfl⟩
instance : Enc Post.pvF 2 := ⟨fun _ => by simp only [Post.pvF, PV.free, PV.freeL, enc_freeL, and_self], fun _ => by simp only [Post.pvF, PV.okr, PV.okrL, PV.free, enc_freeL, and_self], fun _ => rfl⟩
instance : EncN Post.pv := ⟨fun _ => by simp only [Post.pv, PV.noR, PV.noRL, enc_noRL, and_self]⟩
instance : EncS Post.pv Post.pvF := ⟨fun _ => by simp only [Post.pv, Post.pvF, PV.strip, PV.stripL, enc_stripL]⟩
instance : EncS Post.pvF Post.pvF := ⟨fun _ => rfl⟩
instance : EncF Post.pvF := ⟨fun _ => rfl⟩
instance : EncA Post.pv := ⟨fun _ => ⟨_, rfl⟩⟩
instance : Enc Entry.pv 3 := ⟨fun _ => by simp only [Entry.pv, PV.free, PV.freeL, enc_freeL, and_self], fun _ => by simp only [Entry.pv, PV.okr, PV.okrL, PV.free, enc_freeL, and_self], fun _ => rfl⟩
instance : Enc Entry.pvF 3 := ⟨fun _ => by simp only [Entry.pvF, PV.free, PV.freeL, enc_freeL, and_self], fun _ => by simp only [Entry.pvF, PV.okr, PV.okrL, PV.free, enc_freeL, and_self], fun _ => rfl⟩
instance : EncN Entry.pv := ⟨fun _ => by simp only [Entry.pv, PV.noR, PV.noRL, enc_noRL, and_self]⟩
instance : EncS Entry.pv Entry.pvF := ⟨fun _ => by simp only [Entry.pv, Entry.pvF, PV.strip, PV.stripL, enc_stripL]⟩
instance : EncS Entry.pvF Entry.pvF := ⟨fun _ => rfl⟩
instance : EncF Entry.pvF := ⟨fun _ => rfl⟩
instance : EncA Entry.pv := ⟨fun _ => ⟨_, rfl⟩⟩
instance : Enc DRow.pv 3 := ⟨fun _ => by simp only [DRow.pv, PV.free, PV.freeL, enc_freeL, and_self], fun _ => by simp only [DRow.pv, PV.okr, PV.okrL, PV.free, enc_freeL, and_self], fun _ => rfl⟩
instance : Enc DRow.pvF 3 := ⟨fun _ => by simp only [DRow.pvF, PV.free, PV.freeL, enc_freeL, and_self], fun _ => by simp only [DRow.pvF, PV.okr, PV.okrL, PV.free, enc_freeL, and_self], fun _ => rfl⟩
instance : EncN DRow.pv := ⟨fun _ => by simp only [DRow.pv, PV.noR, PV.noRL, enc_noRL, and_self]⟩
instance : EncS DRow.pv DRow.pvF := ⟨fun _ => by simp only [DRow.pv, DRow.pvF, PV.strip, PV.stripL, enc_stripL]⟩
instance : EncS DRow.pvF DRow.pvF := ⟨fun _ => rfl⟩
instance : EncF DRow.pvF := ⟨fun _ => rfl⟩
instance : EncA DRow.pv := ⟨fun _ => ⟨_, rfl⟩⟩
@[go_sem] theorem Post.cells (p : Post) : p.pv.cells = [.int .i64 p.doc, .slo 1 (p.ats.map (.int .i64))] := rfl
@[go_sem] theorem Post.cellsF (p : Post) : p.pvF.cells = [.int .i64 p.doc, .sl (p.ats.map (.int .i64))] := rfl
@[go_sem] theorem Entry.cells (e : Entry) : e.pv.cells = [.str e.field, .str e.term, .slo 2 (e.posts.map Post.pv)] := rfl
@[go_sem] theorem Entry.cellsF (e : Entry) : e.pvF.cells = [.str e.field, .str e.term, .sl (e.posts.map Post.pvF)] := rfl
@[go_sem] theorem DRow.cells (r : DRow) : r.pv.cells = [.int .i64 r.id, .str r.doc.key, .slo 2 (r.doc.cells.map Cell.pv)] := rfl
@[go_sem] theorem DRow.cellsF (r : DRow) : r.pvF.cells = [.int .i64 r.id, .str r.doc.key, .sl (r.doc.cells.map Cell.pv)] := rfl
@[go_sem] theorem Post.re (p : Post) (off : Nat) (cs : List PV) : p.pv.reElem off cs = .agg (PV.putCells [.int .i64 p.doc, .slo 1 (p.ats.map (.int .i64))] off cs) := rfl
@[go_sem] theorem Entry.re (e : Entry) (off : Nat) (cs : List PV) : e.pv.reElem off cs = .agg (PV.putCells [.str e.field, .str e.term, .slo 2 (e.posts.map Post.pv)] off cs) := rfl
@[go_sem] theorem DRow.re (r : DRow) (off : Nat) (cs : List PV) : r.pv.reElem off cs = .agg (PV.putCells [.int .i64 r.id, .str r.doc.key, .slo 2 (r.doc.cells.map Cell.pv)] off cs) := rfl
theorem ints_snoc (l : List Int) (a : Int) : l.map (PV.int .i64) ++ [.int .i64 a] = (l ++ [a]).map (.int .i64) := by simp
theorem ints_one (a : Int) : [PV.int .i64 a] = [a].map (.int .i64) := rfl
@[go_sem] theorem Post.setf (l : List Post) (i : Nat) (d : Int) (xs : List Int) : (l.map Post.pv).set i (.agg [.int .i64 d, .slo 1 (xs.map (.int .i64))]) = (l.set i ⟨d, xs⟩).map Post.pv := by rw [List.map_set]; rfl
@[go_sem] theorem Post.snoc (l : List Post) (d : Int) (a : Int) : l.map Post.pv ++ [.agg [.int .i64 d, .slo 1 [.int .i64 a]]] = (l ++ [Post.mk d [a]]).map Post.pv := by simp [Post.pv]
@[go_sem] theorem Entry.setf (l : List Entry) (i : Nat) (a b : Str) (ps : List Post) : (l.map Entry.pv).set i (.agg [.str a, .str b, .slo 2 (ps.map Post.pv)]) = (l.set i ⟨a, b, ps⟩).map Entry.pv := by rw [List.map_set]; rfl
@[go_sem] theorem Entry.mid (l m : List Entry) (a b : Str) (d : Int) (x : Int) : l.map Entry.pv ++ .agg [.str a, .str b, .slo 2 [.agg [.int .i64 d, .slo 1 [.int .i64 x]]]] :: m.map Entry.pv = (l ++ Entry.mk a b [Post.mk d [x]] :: m).map Entry.pv := by simp [Entry.pv, Post.pv]
/-! ### Where an entry stands -/
def entLt (f t : Str) (e : Entry) : Bool := Op.bytesLess e.field f || (decide (e.field = f) && Op.bytesLess e.term t)
def entEq (f t : Str) (e : Entry) : Bool := decide (e.field = f) && decide (e.term = t)
def entK (l : List Entry) (f t : Str) : Nat := (l.takeWhile (entLt f t)).length
def entT (l : List Entry) (f t : Str) : Bool := match l[entK l f t]? with
  | some e => entEq f t e
  | none => false
theorem tw_all {α : Type} {p : α → Bool} : ∀ {l : List α} {i : Nat}, (∀ y ∈ l.take i, p y = true) → i ≤ l.length → i ≤ (l.takeWhile p).length
  | [], i, _, h => by simpa using h
  | x :: l, 0, _, _ => Nat.zero_le _
  | x :: l, i + 1, h, hi => by
    rw [List.takeWhile_cons, if_pos (h x (by simp))]
    have := tw_all (l := l) (i := i) (fun y hy => h y (by simp [hy])) (by simpa using hi)
    simp only [List.length_cons]; omega
theorem tw_at {α : Type} {p : α → Bool} : ∀ {l : List α} {i : Nat} {x : α}, (∀ y ∈ l.take i, p y = true) → l[i]? = some x → p x = false → (l.takeWhile p).length = i
  | [], i, x, _, h, _ => by simp at h
  | y :: l, 0, x, _, h, hx => by
    simp at h; subst h
    rw [List.takeWhile_cons, if_neg (by simp [hx])]; rfl
  | y :: l, i + 1, x, h, hg, hx => by
    rw [List.takeWhile_cons, if_pos (h y (by simp))]
    have := tw_at (l := l) (i := i) (fun z hz => h z (by simp [hz])) (by simpa using hg) hx
    simp only [List.length_cons]; omega
theorem tw_end {α : Type} {p : α → Bool} {l : List α} (h : ∀ y ∈ l, p y = true) : (l.takeWhile p).length = l.length := by
  have h1 := tw_all (p := p) (l := l) (i := l.length) (fun y hy => h y (List.mem_of_mem_take hy)) (Nat.le_refl _)
  have h2 := (List.takeWhile_sublist (l := l) p).length_le
  omega
theorem take_stepT {α : Type} {p : α → Bool} {l : List α} {i : Nat} {x : α} (h : ∀ y ∈ l.take i, p y = true) (hx : l[i]? = some x) (hp : p x = true) : ∀ y ∈ l.take (i + 1), p y = true := by
  intro y hy
  rw [List.take_add_one, hx] at hy
  rcases List.mem_append.1 hy with hy | hy
  · exact h y hy
  · simp at hy; subst hy; exact hp
@[go_sem] theorem l4At_R (l : List Entry) (f t : Str) (hl : l.length ≤ 1099511627776) : R S0 178 [.sl (l.map Entry.pvF), .str f, .str t] = some ⟨[none, none, none], .tup [.int .i64 (entK l f t), .bool (entT l f t)]⟩ := by
  refine go178 rfl ?_; simp only [go_sem, ↓reduceIte, Nat.reduceAdd, Nat.reduceSub, Nat.reduceEqDiff, Nat.reduceLT, Nat.reduceLeDiff, Nat.reduceMul, Int.reduceNeg, Int.reduceToNat, Int.reduceEq, Int.reduceLT, Int.reduceLE, reduceCtorEq, Tryz.f178]
  refine ends_for l.length (by omega) (fun i _ => mkSt [(0, .sl (l.map Entry.pvF)), (1, .str f), (2, .str t), (8, .int .i64 i)] []) (fun i _ => ∀ y ∈ l.take i, entLt f t y = true) 0 () (by omega) (by simp) ?_ ?_
  · rintro i _ hi hI hw ih
    obtain ⟨x, hx, hg, hd⟩ := drop_get hi default
    cases h1 : Op.bytesLess x.field f with
    | true =>
      have hL : entLt f t x = true := by simp [entLt, h1]
      simp only [go_sem, ↓reduceIte, Nat.reduceAdd, Nat.reduceSub, Nat.reduceEqDiff, Nat.reduceLT, Nat.reduceLeDiff, Nat.reduceMul, Int.reduceNeg, Int.reduceToNat, Int.reduceEq, Int.reduceLT, Int.reduceLE, reduceCtorEq, hi, hw, hg, hx, h1]
      exact ih () (take_stepT hI hx hL)
    | false =>
      by_cases h2 : x.field = f
      · have h2t := eq_true h2
        cases h3 : Op.bytesLess x.term t with
        | true =>
          have hL : entLt f t x = true := by simp [entLt, h2, h3]
          simp only [go_sem, ↓reduceIte, Nat.reduceAdd, Nat.reduceSub, Nat.reduceEqDiff, Nat.reduceLT, Nat.reduceLeDiff, Nat.reduceMul, Int.reduceNeg, Int.reduceToNat, Int.reduceEq, Int.reduceLT, Int.reduceLE, reduceCtorEq, hi, hw, hg, hx, h1, h2t, h3]
          exact ih () (take_stepT hI hx hL)
        | false =>
          have hL : entLt f t x = false := by simp [entLt, h1, h3]
          have hk : entK l f t = i := tw_at hI hx hL
          by_cases h4 : x.term = t
          · have hT : entT l f t = true := by rw [entT, hk, hx]; simp [entEq, h2, h4]
            simp only [go_sem, ↓reduceIte, Nat.reduceAdd, Nat.reduceSub, Nat.reduceEqDiff, Nat.reduceLT, Nat.reduceLeDiff, Nat.reduceMul, Int.reduceNeg, Int.reduceToNat, Int.reduceEq, Int.reduceLT, Int.reduceLE, reduceCtorEq, hi, hw, hg, hx, h1, h2t, h3, eq_true h4, hk, hT]
          · have hT : entT l f t = false := by rw [entT, hk, hx]; simp [entEq, h4]
            simp only [go_sem, ↓reduceIte, Nat.reduceAdd, Nat.reduceSub, Nat.reduceEqDiff, Nat.reduceLT, Nat.reduceLeDiff, Nat.reduceMul, Int.reduceNeg, Int.reduceToNat, Int.reduceEq, Int.reduceLT, Int.reduceLE, reduceCtorEq, hi, hw, hg, hx, h1, h2t, h3, h4, hk, hT]
      · have hL : entLt f t x = false := by simp [entLt, h1, h2]
        have hk : entK l f t = i := tw_at hI hx hL
        have hT : entT l f t = false := by rw [entT, hk, hx]; simp [entEq, h2]
        simp only [go_sem, ↓reduceIte, Nat.reduceAdd, Nat.reduceSub, Nat.reduceEqDiff, Nat.reduceLT, Nat.reduceLeDiff, Nat.reduceMul, Int.reduceNeg, Int.reduceToNat, Int.reduceEq, Int.reduceLT, Int.reduceLE, reduceCtorEq, hi, hw, hg, hx, h1, h2, hk, hT]
  · rintro _ hI
    rw [List.take_length] at hI
    have hk : entK l f t = l.length := tw_end hI
    have hT : entT l f t = false := by rw [entT, hk, List.getElem?_eq_none (Nat.le_refl _)]
    simp only [go_sem, ↓reduceIte, Nat.reduceAdd, Nat.reduceSub, Nat.reduceEqDiff, Nat.reduceLT, Nat.reduceLeDiff, Nat.reduceMul, Int.reduceNeg, Int.reduceToNat, Int.reduceEq, Int.reduceLT, Int.reduceLE, reduceCtorEq, hk, hT]
/-! ### A word is put in -/
def addPost (d a : Int) (ps : List Post) : List Post := match ps.getLast? with
  | some p => if p.doc = d then ps.set (ps.length - 1) ⟨p.doc, p.ats ++ [a]⟩ else ps ++ [⟨d, [a]⟩]
  | none => ps ++ [⟨d, [a]⟩]
def wordE (l : List Entry) (f t : Str) (d a : Int) : List Entry :=
  if entT l f t = true then l.set (entK l f t) ⟨f, t, addPost d a (l.getD (entK l f t) default).posts⟩
  else l.take (entK l f t) ++ [⟨f, t, [⟨d, [a]⟩]⟩] ++ l.drop (entK l f t)
/-- No list is longer than n, and each entry has a post. -/
def EntB (n : Nat) (l : List Entry) : Prop := l.length ≤ n ∧ ∀ e ∈ l, e.posts ≠ [] ∧ e.posts.length ≤ n ∧ ∀ p ∈ e.posts, p.ats.length ≤ n
theorem entK_le (l : List Entry) (f t : Str) : entK l f t ≤ l.length := (List.takeWhile_sublist _).length_le
theorem entT_get {l : List Entry} {f t : Str} (h : entT l f t = true) : ∃ e, l[entK l f t]? = some e ∧ e.field = f ∧ e.term = t := by
  unfold entT at h
  split at h
  · rename_i e he
    simp only [entEq, Bool.and_eq_true, decide_eq_true_eq] at h
    exact ⟨e, he, h.1, h.2⟩
  · cases h
theorem l4Word_R (l : List Entry) (f t : Str) (d a : Int) (n : Nat) (hB : EntB n l) (hn : n + 1 ≤ 1099511627776) : R S0 144 [.slo 3 (l.map Entry.pv), .str f, .str t, .int .i64 d, .int .i64 a] = some ⟨[none, none, none, none, none], .slo 3 ((wordE l f t d a).map Entry.pv)⟩ := by
  obtain ⟨hl, hes⟩ := id hB
  have hlb : l.length ≤ 1099511627776 := by omega
  have hk := entK_le l f t
  cases hT : entT l f t with
  | false =>
    have hdr : (l.drop (entK l f t)).take (l.length - entK l f t) = l.drop (entK l f t) := List.take_of_length_le (by simp)
    have e1 : (0 : Int) ≤ (entK l f t : Int) := by omega
    have e2 : (entK l f t : Int) ≤ (l.length : Int) := by omega
    refine go144 rfl ?_; simp only [go_sem, ↓reduceIte, Nat.reduceAdd, Nat.reduceSub, Nat.reduceEqDiff, Nat.reduceLT, Nat.reduceLeDiff, Nat.reduceMul, Int.reduceNeg, Int.reduceToNat, Int.reduceEq, Int.reduceLT, Int.reduceLE, reduceCtorEq, Tryz.f144, hlb, hT, hk, hdr, e1, e2]
    refine ⟨by rw [List.length_take]; omega, by rw [List.length_take]; omega, by rw [List.length_take, List.length_drop]; omega, by decide +kernel, ?_⟩
    rw [wordE, if_neg (by rw [hT]; simp), List.append_assoc]; rfl
  | true =>
    obtain ⟨x, hx, hxf, hxt⟩ := entT_get hT
    have hkl : entK l f t < l.length := (List.getElem?_eq_some_iff.1 hx).1
    have hg : l.getD (entK l f t) default = x := by rw [List.getD_eq_getElem?_getD, hx]; rfl
    obtain ⟨hne, hpl, hps⟩ := hes x (List.mem_of_getElem? hx)
    have hpos : 0 < x.posts.length := List.length_pos_iff.2 hne
    obtain ⟨p, hp, hpg, _⟩ := drop_get (l := x.posts) (i := x.posts.length - 1) (by omega) default
    have e1 : (0 : Int) ≤ (entK l f t : Int) := by omega
    have e3 : IntKind.i64.wrap ((x.posts.length : Int) - 1) = ((x.posts.length - 1 : Nat) : Int) := by rw [wrap_in (by omega) (by omega)]; omega
    have e4 : x.posts.length - 1 < x.posts.length := by omega
    have e5 : x.field = f := hxf
    have hat := hps p (List.mem_of_getElem? hp)
    by_cases hd : p.doc = d
    · have hadd : addPost d a x.posts = x.posts.set (x.posts.length - 1) ⟨d, p.ats ++ [a]⟩ := by rw [addPost, List.getLast?_eq_getElem?, hp]; simp [hd]
      refine go144 rfl ?_; simp only [go_sem, ↓reduceIte, Nat.reduceAdd, Nat.reduceSub, Nat.reduceEqDiff, Nat.reduceLT, Nat.reduceLeDiff, Nat.reduceMul, Int.reduceNeg, Int.reduceToNat, Int.reduceEq, Int.reduceLT, Int.reduceLE, reduceCtorEq, Tryz.f144, hlb, hT, hk, hkl, hx, hg, e1, e3, e4, hp, hpg, hd]
      refine ⟨by omega, ?_⟩
      rw [wordE, if_pos hT, hg, hadd, hxf, hxt]
    · have hadd : addPost d a x.posts = x.posts ++ [⟨d, [a]⟩] := by rw [addPost, List.getLast?_eq_getElem?, hp]; simp [hd]
      refine go144 rfl ?_; simp only [go_sem, ↓reduceIte, Nat.reduceAdd, Nat.reduceSub, Nat.reduceEqDiff, Nat.reduceLT, Nat.reduceLeDiff, Nat.reduceMul, Int.reduceNeg, Int.reduceToNat, Int.reduceEq, Int.reduceLT, Int.reduceLE, reduceCtorEq, Tryz.f144, hlb, hT, hk, hkl, hx, hg, e1, e3, e4, hp, hpg, hd]
      refine ⟨by omega, ?_⟩
      rw [wordE, if_pos hT, hg, hadd, hxf, hxt]
theorem EntB.mono {n m : Nat} {l : List Entry} (h : EntB n l) (hm : n ≤ m) : EntB m l := ⟨Nat.le_trans h.1 hm, fun e he => ⟨(h.2 e he).1, Nat.le_trans (h.2 e he).2.1 hm, fun p hp => Nat.le_trans ((h.2 e he).2.2 p hp) hm⟩⟩
theorem addPost_b {n : Nat} {d a : Int} {ps : List Post} (h1 : ps.length ≤ n) (h2 : ∀ p ∈ ps, p.ats.length ≤ n) : addPost d a ps ≠ [] ∧ (addPost d a ps).length ≤ n + 1 ∧ ∀ p ∈ addPost d a ps, p.ats.length ≤ n + 1 := by
  unfold addPost
  split
  · rename_i p hp
    have hpm : p ∈ ps := List.mem_of_getLast? hp
    split
    · refine ⟨?_, by rw [List.length_set]; omega, fun q hq => ?_⟩
      · intro he
        have := congrArg List.length he
        simp only [List.length_set, List.length_nil] at this
        have := List.length_pos_of_mem hpm
        omega
      · rcases List.mem_or_eq_of_mem_set hq with hq | rfl
        · have := h2 q hq; omega
        · have := h2 p hpm; simp; omega
    · refine ⟨by simp, by simp; omega, fun q hq => ?_⟩
      rcases List.mem_append.1 hq with hq | hq
      · have := h2 q hq; omega
      · simp at hq; subst hq; simp
  · refine ⟨by simp, by simp; omega, fun q hq => ?_⟩
    rcases List.mem_append.1 hq with hq | hq
    · have := h2 q hq; omega
    · simp at hq; subst hq; simp
theorem EntB.word {n : Nat} {l : List Entry} (h : EntB n l) (f t : Str) (d a : Int) : EntB (n + 1) (wordE l f t d a) := by
  obtain ⟨h1, h2⟩ := id h
  unfold wordE
  split
  · rename_i hT
    obtain ⟨x, hx, hxf, hxt⟩ := entT_get hT
    have hg : l.getD (entK l f t) default = x := by rw [List.getD_eq_getElem?_getD, hx]; rfl
    refine ⟨by rw [List.length_set]; omega, fun e he => ?_⟩
    rcases List.mem_or_eq_of_mem_set he with he | rfl
    · exact (h.mono (Nat.le_succ _)).2 e he
    · have hx2 := h2 x (List.mem_of_getElem? hx)
      simp only [hg]
      exact addPost_b hx2.2.1 hx2.2.2
  · refine ⟨by simp only [List.length_append, List.length_take, List.length_drop, List.length_cons, List.length_nil]; omega, fun e he => ?_⟩
    rcases List.mem_append.1 he with he | he
    · rcases List.mem_append.1 he with he | he
      · exact (h.mono (Nat.le_succ _)).2 e (List.mem_of_mem_take he)
      · simp at he; subst he; simp
    · exact (h.mono (Nat.le_succ _)).2 e (List.mem_of_mem_drop he)
/-! ### A text's words, a document's texts, the documents -/
def wordsTo (f : Str) (id : Int) (ts : List Str) (l : List Entry) : Nat → List Entry
  | 0 => l
  | k + 1 => if ts.getD k default = [] then wordsTo f id ts l k else wordE (wordsTo f id ts l k) f (ts.getD k default) id k
theorem EntB.words {n : Nat} {l : List Entry} (h : EntB n l) (f : Str) (id : Int) (ts : List Str) : ∀ k, EntB (n + k) (wordsTo f id ts l k)
  | 0 => h
  | k + 1 => by
    have ih := EntB.words h f id ts k
    rw [wordsTo]
    split
    · exact ih.mono (by omega)
    · exact ih.word _ _ _ _
def isText (fl : List Field) (n : Str) : Bool := (fl.any fun f => f.name = n) && decide ((fieldOf fl n).kind = 1)
def cellsTo (fl : List Field) (id : Int) (cs : List Cell) (l : List Entry) : Nat → List Entry
  | 0 => l
  | k + 1 => if isText fl (cs.getD k default).name = true then wordsTo (cs.getD k default).name id (terms (cs.getD k default).text) (cellsTo fl id cs l k) (terms (cs.getD k default).text).length else cellsTo fl id cs l k
def docE (fl : List Field) (r : DRow) (l : List Entry) : List Entry := cellsTo fl r.id r.doc.cells l r.doc.cells.length
theorem EntB.cells {n : Nat} {l : List Entry} (h : EntB n l) (fl : List Field) (id : Int) (cs : List Cell) (hc : ∀ c ∈ cs, c.text.length ≤ 1000) : ∀ k, k ≤ cs.length → EntB (n + 1001 * k) (cellsTo fl id cs l k)
  | 0, _ => h
  | k + 1, hk => by
    have ih := EntB.cells h fl id cs hc k (by omega)
    obtain ⟨c, hx, hg, _⟩ := drop_get (l := cs) (i := k) (by omega) default
    have h1 := hc c (List.mem_of_getElem? hx)
    have h2 := words_len2 c.text
    rw [cellsTo, hg]
    split
    · exact (ih.words _ _ _ _).mono (by omega)
    · exact ih.mono (by omega)
theorem EntB.doc {n : Nat} {l : List Entry} (h : EntB n l) (fl : List Field) (r : DRow) (hr : DSt 1000 r.doc) : EntB (n + 1001000) (docE fl r l) := (h.cells fl r.id r.doc.cells (fun c hc => (hr.2.2 c hc).2) _ (Nat.le_refl _)).mono (by have := hr.2.1; omega)
theorem l4Doc_R (fl : List Field) (l : List Entry) (r : DRow) (n : Nat) (hfl : fl.length ≤ 1099511627776) (hB : EntB n l) (hn : n + 1001001 ≤ 1099511627776) (hr : DSt 1000 r.doc) : R S0 106 [.sl (fl.map Field.pv), .slo 3 (l.map Entry.pv), .agg [.int .i64 r.id, .str r.doc.key, .sl (r.doc.cells.map Cell.pv)]] = some ⟨[none, none, none], .slo 3 ((docE fl r l).map Entry.pv)⟩ := by
  obtain ⟨hk, hcl, hcs⟩ := id hr
  refine go106 rfl ?_; simp only [go_sem, ↓reduceIte, Nat.reduceAdd, Nat.reduceSub, Nat.reduceEqDiff, Nat.reduceLT, Nat.reduceLeDiff, Nat.reduceMul, Int.reduceNeg, Int.reduceToNat, Int.reduceEq, Int.reduceLT, Int.reduceLE, reduceCtorEq, Tryz.f106]
  refine ends_for r.doc.cells.length (by omega) (fun i _ => mkSt [(0, .sl (fl.map Field.pv)), (1, .own 0), (5, .addr 1 0 0), (7, .int .i64 i)] [.slo 3 ((cellsTo fl r.id r.doc.cells l i).map Entry.pv), .pto [.int .i64 r.id, .str r.doc.key, .sl (r.doc.cells.map Cell.pv)]]) (fun _ _ => True) 0 () (by omega) trivial ?_ ?_
  · rintro i _ hi _ hw ih
    obtain ⟨c, hx, hg, _⟩ := drop_get hi default
    obtain ⟨hc1, hc2⟩ := hcs c (List.mem_of_getElem? hx)
    have hc1' : c.name.length ≤ 1099511627776 := by omega
    have hc2' : c.text.length ≤ 1099511627776 := by omega
    have hBi := hB.cells fl r.id r.doc.cells (fun c hc => (hcs c hc).2) i (by omega)
    have h2 := words_len2 c.text
    cases ht : isText fl c.name with
    | false =>
      have e : cellsTo fl r.id r.doc.cells l (i + 1) = cellsTo fl r.id r.doc.cells l i := by rw [cellsTo, hg, if_neg (by rw [ht]; simp)]
      have ht' : ((fl.any fun f => f.name = c.name) && decide ((fieldOf fl c.name).kind = 1)) = false := ht
      have ih' := ih () trivial
      rw [e] at ih'
      simp only [go_sem, ↓reduceIte, Nat.reduceAdd, Nat.reduceSub, Nat.reduceEqDiff, Nat.reduceLT, Nat.reduceLeDiff, Nat.reduceMul, Int.reduceNeg, Int.reduceToNat, Int.reduceEq, Int.reduceLT, Int.reduceLE, reduceCtorEq, hi, hw, hg, hx, hfl, ht']
      exact ih'
    | true =>
      have e : cellsTo fl r.id r.doc.cells l (i + 1) = wordsTo c.name r.id (terms c.text) (cellsTo fl r.id r.doc.cells l i) (terms c.text).length := by rw [cellsTo, hg, if_pos ht]
      have ht' : ((fl.any fun f => f.name = c.name) && decide ((fieldOf fl c.name).kind = 1)) = true := ht
      have ih' := ih () trivial
      rw [e] at ih'
      simp only [go_sem, ↓reduceIte, Nat.reduceAdd, Nat.reduceSub, Nat.reduceEqDiff, Nat.reduceLT, Nat.reduceLeDiff, Nat.reduceMul, Int.reduceNeg, Int.reduceToNat, Int.reduceEq, Int.reduceLT, Int.reduceLE, reduceCtorEq, hi, hw, hg, hx, hfl, hc2', ht']
      refine ends_for (terms c.text).length (by omega) (fun j _ => mkSt [(0, .sl (fl.map Field.pv)), (1, .own 0), (5, .addr 1 0 0), (7, .int .i64 i), (8, .own 2), (9, .int .i64 j)] [.slo 3 ((wordsTo c.name r.id (terms c.text) (cellsTo fl r.id r.doc.cells l i) j).map Entry.pv), .pto [.int .i64 r.id, .str r.doc.key, .sl (r.doc.cells.map Cell.pv)], .slo 1 ((terms c.text).map .str)]) (fun _ _ => True) 0 () (by omega) trivial ?_ ?_
      · rintro j _ hj _ hwj ihj
        obtain ⟨t, htx, htg, _⟩ := drop_get hj default
        have ihj' := ihj () trivial
        by_cases h0 : t = []
        · have e2 : wordsTo c.name r.id (terms c.text) (cellsTo fl r.id r.doc.cells l i) (j + 1) = wordsTo c.name r.id (terms c.text) (cellsTo fl r.id r.doc.cells l i) j := by rw [wordsTo, htg, if_pos h0]
          rw [e2] at ihj'
          simp only [go_sem, ↓reduceIte, Nat.reduceAdd, Nat.reduceSub, Nat.reduceEqDiff, Nat.reduceLT, Nat.reduceLeDiff, Nat.reduceMul, Int.reduceNeg, Int.reduceToNat, Int.reduceEq, Int.reduceLT, Int.reduceLE, reduceCtorEq, hj, hwj, htg, htx, eq_true h0, hi, hg, hx]
          exact ihj'
        · have e2 : wordsTo c.name r.id (terms c.text) (cellsTo fl r.id r.doc.cells l i) (j + 1) = wordE (wordsTo c.name r.id (terms c.text) (cellsTo fl r.id r.doc.cells l i) j) c.name t r.id j := by rw [wordsTo, htg, if_neg h0]
          rw [e2] at ihj'
          have hW := l4Word_R (wordsTo c.name r.id (terms c.text) (cellsTo fl r.id r.doc.cells l i) j) c.name t r.id j _ (hBi.words c.name r.id (terms c.text) j) (by omega)
          simp only [go_sem, ↓reduceIte, Nat.reduceAdd, Nat.reduceSub, Nat.reduceEqDiff, Nat.reduceLT, Nat.reduceLeDiff, Nat.reduceMul, Int.reduceNeg, Int.reduceToNat, Int.reduceEq, Int.reduceLT, Int.reduceLE, reduceCtorEq, hj, hwj, htg, htx, h0, hi, hg, hx, hW]
          exact ⟨by decide +kernel, ihj'⟩
      · rintro _ _
        simp only [go_sem, ↓reduceIte, Nat.reduceAdd, Nat.reduceSub, Nat.reduceEqDiff, Nat.reduceLT, Nat.reduceLeDiff, Nat.reduceMul, Int.reduceNeg, Int.reduceToNat, Int.reduceEq, Int.reduceLT, Int.reduceLE, reduceCtorEq, hw]
        exact ih'
  · rintro _ _
    simp only [go_sem, ↓reduceIte, Nat.reduceAdd, Nat.reduceSub, Nat.reduceEqDiff, Nat.reduceLT, Nat.reduceLeDiff, Nat.reduceMul, Int.reduceNeg, Int.reduceToNat, Int.reduceEq, Int.reduceLT, Int.reduceLE, reduceCtorEq]
    rfl
def madeTo (fl : List Field) (rows : List DRow) : Nat → List Entry
  | 0 => []
  | k + 1 => docE fl (rows.getD k default) (madeTo fl rows k)
def madeE (fl : List Field) (rows : List DRow) : List Entry := madeTo fl rows rows.length
def RowsSt (rows : List DRow) : Prop := rows.length ≤ 1000 ∧ ∀ r ∈ rows, DSt 1000 r.doc
theorem EntB.made (fl : List Field) {rows : List DRow} (h : RowsSt rows) : ∀ k, k ≤ rows.length → EntB (1001000 * k) (madeTo fl rows k)
  | 0, _ => ⟨Nat.zero_le _, fun e he => by simp [madeTo] at he⟩
  | k + 1, hk => by
    obtain ⟨r, hx, hg, _⟩ := drop_get (l := rows) (i := k) (by omega) default
    rw [madeTo, hg]
    exact ((EntB.made fl h k (by omega)).doc fl r (h.2 r (List.mem_of_getElem? hx))).mono (by omega)
@[go_sem] theorem l4Made_R (fl : List Field) (rows : List DRow) (hfl : fl.length ≤ 1099511627776) (hr : RowsSt rows) : R S0 54 [.sl (fl.map Field.pv), .sl (rows.map DRow.pvF)] = some ⟨[none, none], .slo 3 ((madeE fl rows).map Entry.pv)⟩ := by
  obtain ⟨hl, hrs⟩ := id hr
  refine go54 rfl ?_; simp only [go_sem, ↓reduceIte, Nat.reduceAdd, Nat.reduceSub, Nat.reduceEqDiff, Nat.reduceLT, Nat.reduceLeDiff, Nat.reduceMul, Int.reduceNeg, Int.reduceToNat, Int.reduceEq, Int.reduceLT, Int.reduceLE, reduceCtorEq, Tryz.f54]
  refine ends_for rows.length (by omega) (fun i _ => mkSt [(0, .sl (fl.map Field.pv)), (1, .sl (rows.map DRow.pvF)), (5, .own 0), (6, .int .i64 i)] [.slo 3 ((madeTo fl rows i).map Entry.pv)]) (fun _ _ => True) 0 () (by omega) trivial ?_ ?_
  · rintro i _ hi _ hw ih
    obtain ⟨r, hx, hg, _⟩ := drop_get hi default
    have hD := l4Doc_R fl (madeTo fl rows i) r _ hfl (EntB.made fl hr i (by omega)) (by omega) (hrs r (List.mem_of_getElem? hx))
    have e : madeTo fl rows (i + 1) = docE fl r (madeTo fl rows i) := by rw [madeTo, hg]
    have ih' := ih () trivial
    rw [e] at ih'
    simp only [go_sem, ↓reduceIte, Nat.reduceAdd, Nat.reduceSub, Nat.reduceEqDiff, Nat.reduceLT, Nat.reduceLeDiff, Nat.reduceMul, Int.reduceNeg, Int.reduceToNat, Int.reduceEq, Int.reduceLT, Int.reduceLE, reduceCtorEq, hi, hw, hg, hx, hD]
    exact ih'
  · rintro _ _
    simp only [go_sem, ↓reduceIte, Nat.reduceAdd, Nat.reduceSub, Nat.reduceEqDiff, Nat.reduceLT, Nat.reduceLeDiff, Nat.reduceMul, Int.reduceNeg, Int.reduceToNat, Int.reduceEq, Int.reduceLT, Int.reduceLE, reduceCtorEq]
    rfl
end Go.Proofs.YtjagjfjhinlgiaaGreatDoor.PVE
