/- The index: the reference's entries. -/
import Derived.Test.YtgnggcpcijcahaaGreatDoorT19
import Derived.Test.YtgnggcpcijcahaaGreatDoorT16
set_option linter.unusedVariables false
set_option linter.unusedSimpArgs false
set_option maxRecDepth 100000
namespace Go.Proofs.YtgnggcpcijcahaaGreatDoor.PVE
open PV
structure Post where
  doc : Int
  ats : List Int
  deriving Inhabited
def Post.pv (p : Post) : PV := .agg [.int .i64 p.doc, .slo 1 (p.ats.map (.int .i64))]
def Post.pvF (p : Post) : PV := .agg [.int .i64 p.doc, .sl (p.ats.map (.int .i64))]
structure Entry where
  field : Str
  term : Str
  posts : List Post
  deriving Inhabited
def Entry.pv (e : Entry) : PV := .agg [.str e.field, .str e.term, .slo 2 (e.posts.map Post.pv)]
def Entry.pvF (e : Entry) : PV := .agg [.str e.field, .str e.term, .sl (e.posts.map Post.pvF)]
structure DRow where
  id : Int
  doc : Doc
  deriving Inhabited
def DRow.pv (r : DRow) : PV := .agg [.int .i64 r.id, .str r.doc.key, .slo 2 (r.doc.cells.map Cell.pv)]
def DRow.pvF (r : DRow) : PV := .agg [.int .i64 r.id, .str r.doc.key, .sl (r.doc.cells.map Cell.pv)]
instance : Enc Post.pv 2 := ⟨fun _ => by simp only [Post.pv, PV.free, PV.freeL, enc_freeL, and_self], fun _ => by simp only [Post.pv, PV.okr, PV.okrL, PV.free, enc_freeL, and_self], fun _ => rfl⟩
instance : Enc Post.pvF 2 := ⟨fun _ => by simp only [Post.pvF, PV.free, PV.freeL, enc_freeL, and_self], fun _ => by simp only [Post.pvF, PV.okr, PV.okrL, PV.free, enc_freeL, and_self], fun _ => rfl⟩
instance : EncN Post.pv := ⟨fun _ => by simp only [Post.pv, PV.noR, PV.noRL, enc_noRL, and_self]⟩
instance : EncS Post.pv Post.pvF := ⟨fun _ => by simp only [Post.pv, Post.pvF, PV.strip, PV.stripL, enc_stripL]⟩
instance : EncS Post.pvF Post.pvF := ⟨fun _ => rfl⟩
instance : EncF Post.pvF := ⟨fun _ => rfl⟩
instance : EncA Post.pv := ⟨fun _ => ⟨_, rfl⟩⟩
instance : Enc Entry.pv 3 := ⟨fun _ => by simp only [Entry.pv, PV.free, PV.freeL, enc_freeL, and_self], fun _ => by simp only [Entry.pv, PV.okr, PV.okrL, PV.free, enc_freeL, and_self], fun _ => rfl⟩
instance : Enc Entry.pvF 3 := ⟨fun _ => by simp only [Entry.pvF, PV.free, PV.freeL, enc_freeL, and_self], fun _ => by simp only [Entry.pvF, PV.okr, PV.okrL, PV.free, enc_freeL, and_self], fun _ => rfl⟩
instance : EncN Entry.pv := ⟨fun _ => by simp only [Entry.pv, PV.noR, PV.noRL, enc_noRL, and_self]⟩
instance : EncS Entry.pv Entry.pvF := ⟨fun _ => by simp only [Entry.pv, Entry.pvF, PV.strip, PV.stripL, enc_stripL]⟩
instance : EncS Entry.pvF Entry.pvF := ⟨fun _ => rfl⟩
instance : EncF Entry.pvF := ⟨fun _ => rfl⟩
instance : EncA Entry.pv := ⟨fun _ => ⟨_, rfl⟩⟩
instance : Enc DRow.pv 3 := ⟨fun _ => by simp only [DRow.pv, PV.free, PV.freeL, enc_freeL, and_self], fun _ => by simp only [DRow.pv, PV.okr, PV.okrL, PV.free, enc_freeL, and_self], fun _ => rfl⟩
instance : Enc DRow.pvF 3 := ⟨fun _ => by simp only [DRow.pvF, PV.free, PV.freeL, enc_freeL, and_self], fun _ => by simp only [DRow.pvF, PV.okr, PV.okrL, PV.free, enc_freeL, and_self], fun _ => rfl⟩
instance : EncN DRow.pv := ⟨fun _ => by simp only [DRow.pv, PV.noR, PV.noRL, enc_noRL, and_self]⟩
instance : EncS DRow.pv DRow.pvF := ⟨fun _ => by simp only [DRow.pv, DRow.pvF, PV.strip, PV.stripL, enc_stripL]⟩
instance : EncS DRow.pvF DRow.pvF := ⟨fun _ => rfl⟩
instance : EncF DRow.pvF := ⟨fun _ => rfl⟩
instance : EncA DRow.pv := ⟨fun _ => ⟨_, rfl⟩⟩
@[go_sem] theorem Post.cells (p : Post) : p.pv.cells = [.int .i64 p.doc, .slo 1 (p.ats.map (.int .i64))] := rfl
@[go_sem] theorem Post.cellsF (p : Post) : p.pvF.cells = [.int .i64 p.doc, .sl (p.ats.map (.int .i64))] := rfl
@[go_sem] theorem Entry.cells (e : Entry) : e.pv.cells = [.str e.field, .str e.term, .slo 2 (e.posts.map Post.pv)] := rfl
@[go_sem] theorem Entry.cellsF (e : Entry) : e.pvF.cells = [.str e.field, .str e.term, .sl (e.posts.map Post.pvF)] := rfl
@[go_sem] theorem DRow.cells (r : DRow) : r.pv.cells = [.int .i64 r.id, .str r.doc.key, .slo 2 (r.doc.cells.map Cell.pv)] := rfl
@[go_sem] theorem DRow.cellsF (r : DRow) : r.pvF.cells = [.int .i64 r.id, .str r.doc.key, .sl (r.doc.cells.map Cell.pv)] := rfl
@[go_sem] theorem Post.re (p : Post) (off : Nat) (cs : List PV) : p.pv.reElem off cs = .agg (PV.putCells [.int .i64 p.doc, .slo 1 (p.ats.map (.int .i64))] off cs) := rfl
@[go_sem] theorem Entry.re (e : Entry) (off : Nat) (cs : List PV) : e.pv.reElem off cs = .agg (PV.putCells [.str e.field, .str e.term, .slo 2 (e.posts.map Post.pv)] off cs) := rfl
@[go_sem] theorem DRow.re (r : DRow) (off : Nat) (cs : List PV) : r.pv.reElem off cs = .agg (PV.putCells [.int .i64 r.id, .str r.doc.key, .slo 2 (r.doc.cells.map Cell.pv)] off cs) := rfl
theorem ints_snoc (l : List Int) (a : Int) : l.map (PV.int .i64) ++ [.int .i64 a] = (l ++ [a]).map (.int .i64) := by simp
@[go_sem] theorem Post.setf (l : List Post) (i : Nat) (d : Int) (xs : List Int) : (l.map Post.pv).set i (.agg [.int .i64 d, .slo 1 (xs.map (.int .i64))]) = (l.set i ⟨d, xs⟩).map Post.pv := by rw [List.map_set]; rfl
@[go_sem] theorem Post.snoc (l : List Post) (d : Int) (a : Int) : l.map Post.pv ++ [.agg [.int .i64 d, .slo 1 [.int .i64 a]]] = (l ++ [Post.mk d [a]]).map Post.pv := by simp [Post.pv]
@[go_sem] theorem Entry.setf (l : List Entry) (i : Nat) (a b : Str) (ps : List Post) : (l.map Entry.pv).set i (.agg [.str a, .str b, .slo 2 (ps.map Post.pv)]) = (l.set i ⟨a, b, ps⟩).map Entry.pv := by rw [List.map_set]; rfl
@[go_sem] theorem Entry.mid (l m : List Entry) (a b : Str) (d : Int) (x : Int) : l.map Entry.pv ++ .agg [.str a, .str b, .slo 2 [.agg [.int .i64 d, .slo 1 [.int .i64 x]]]] :: m.map Entry.pv = (l ++ Entry.mk a b [Post.mk d [x]] :: m).map Entry.pv := by simp [Entry.pv, Post.pv]
def entLt (f t : Str) (e : Entry) : Bool := Op.bytesLess e.field f || (decide (e.field = f) && Op.bytesLess e.term t)
def entEq (f t : Str) (e : Entry) : Bool := decide (e.field = f) && decide (e.term = t)
def entK (l : List Entry) (f t : Str) : Nat := (l.takeWhile (entLt f t)).length
def entT (l : List Entry) (f t : Str) : Bool := match l[entK l f t]? with
  | some e => entEq f t e
  | none => false
theorem tw_all {α : Type} {p : α → Bool} : ∀ {l : List α} {i : Nat}, (∀ y ∈ l.take i, p y = true) → i ≤ l.length → i ≤ (l.takeWhile p).length
  | [], i, _, h => by simpa using h
  | x :: l, 0, _, _ => Nat.zero_le _
  | x :: l, i + 1, h, hi => by
    rw [List.takeWhile_cons, if_pos (h x (by simp))]
    have := tw_all (l := l) (i := i) (fun y hy => h y (by simp [hy])) (by simpa using hi)
    simp only [List.length_cons]; omega
theorem tw_at {α : Type} {p : α → Bool} : ∀ {l : List α} {i : Nat} {x : α}, (∀ y ∈ l.take i, p y = true) → l[i]? = some x → p x = false → (l.takeWhile p).length = i
  | [], i, x, _, h, _ => by simp at h
  | y :: l, 0, x, _, h, hx => by
    simp at h; subst h
    rw [List.takeWhile_cons, if_neg (by simp [hx])]; rfl
  | y :: l, i + 1, x, h, hg, hx => by
    rw [List.takeWhile_cons, if_pos (h y (by simp))]
    have := tw_at (l := l) (i := i) (fun z hz => h z (by simp [hz])) (by simpa using hg) hx
    simp only [List.length_cons]; omega
theorem tw_end {α : Type} {p : α → Bool} {l : List α} (h : ∀ y ∈ l, p y = true) : (l.takeWhile p).length = l.length := by
  have h1 := tw_all (p := p) (l := l) (i := l.length) (fun y hy => h y (List.mem_of_mem_take hy)) (Nat.le_refl _)
  have h2 := (List.takeWhile_sublist (l := l) p).length_le
  omega
theorem take_stepT {α : Type} {p : α → Bool} {l : List α} {i : Nat} {x : α} (h : ∀ y ∈ l.take i, p y = true) (hx : l[i]? = some x) (hp : p x = true) : ∀ y ∈ l.take (i + 1), p y = true := by
  intro y hy
  rw [List.take_add_one, hx] at hy
  rcases List.mem_append.1 hy with hy | hy
  · exact h y hy
  · simp at hy; subst hy; exact hp
@[go_sem] theorem l4At_R (l : List Entry) (f t : Str) (hl : l.length ≤ 1099511627776) : R S0 134 [.sl (l.map Entry.pvF), .str f, .str t] = some ⟨[none, none, none], .tup [.int .i64 (entK l f t), .bool (entT l f t)]⟩ := by
  refine go134 rfl ?_; simp only [go_sem, ↓reduceIte, Nat.reduceAdd, Nat.reduceSub, Nat.reduceEqDiff, Nat.reduceLT, Nat.reduceLeDiff, Nat.reduceMul, Int.reduceNeg, Int.reduceToNat, Int.reduceEq, Int.reduceLT, Int.reduceLE, reduceCtorEq, Tryz.f134]
  refine ends_for l.length (by omega) (fun i _ => mkSt [(0, .sl (l.map Entry.pvF)), (1, .str f), (2, .str t), (8, .int .i64 i)] []) (fun i _ => ∀ y ∈ l.take i, entLt f t y = true) 0 () (by omega) (by simp) ?_ ?_
  · rintro i _ hi hI hw ih
    obtain ⟨x, hx, hg, hd⟩ := drop_get hi default
    cases h1 : Op.bytesLess x.field f with
    | true =>
      have hL : entLt f t x = true := by simp [entLt, h1]
      simp only [go_sem, ↓reduceIte, Nat.reduceAdd, Nat.reduceSub, Nat.reduceEqDiff, Nat.reduceLT, Nat.reduceLeDiff, Nat.reduceMul, Int.reduceNeg, Int.reduceToNat, Int.reduceEq, Int.reduceLT, Int.reduceLE, reduceCtorEq, hi, hw, hg, hx, h1]
      exact ih () (take_stepT hI hx hL)
    | false =>
      by_cases h2 : x.field = f
      · have h2t := eq_true h2
        cases h3 : Op.bytesLess x.term t with
        | true =>
          have hL : entLt f t x = true := by simp [entLt, h2, h3]
          simp only [go_sem, ↓reduceIte, Nat.reduceAdd, Nat.reduceSub, Nat.reduceEqDiff, Nat.reduceLT, Nat.reduceLeDiff, Nat.reduceMul, Int.reduceNeg, Int.reduceToNat, Int.reduceEq, Int.reduceLT, Int.reduceLE, reduceCtorEq, hi, hw, hg, hx, h1, h2t, h3]
          exact ih () (take_stepT hI hx hL)
        | false =>
          have hL : entLt f t x = false := by simp [entLt, h1, h3]
          have hk : entK l f t = i := tw_at hI hx hL
          by_cases h4 : x.term = t
          · have hT : entT l f t = true := by rw [entT, hk, hx]; simp [entEq, h2, h4]
            simp only [go_sem, ↓reduceIte, Nat.reduceAdd, Nat.reduceSub, Nat.reduceEqDiff, Nat.reduceLT, Nat.reduceLeDiff, Nat.reduceMul, Int.reduceNeg, Int.reduceToNat, Int.reduceEq, Int.reduceLT, Int.reduceLE, reduceCtorEq, hi, hw, hg, hx, h1, h2t, h3, eq_true h4, hk, hT]
          · have hT : entT l f t = false := by rw [entT, hk, hx]; simp [entEq, h4]
            simp only [go_sem, ↓reduceIte, Nat.reduceAdd, Nat.reduceSub, Nat.reduceEqDiff, Nat.reduceLT, Nat.reduceLeDiff, Nat.reduceMul, Int.reduceNeg, Int.reduceToNat, Int.reduceEq, Int.reduceLT, Int.reduceLE, reduceCtorEq, hi, hw, hg, hx, h1, h2t, h3, h4, hk, hT]
      · have hL : entLt f t x = false := by simp [entLt, h1, h2]
        have hk : entK l f t = i := tw_at hI hx hL
        have hT : entT l f t = false := by rw [entT, hk, hx]; simp [entEq, h2]
        simp only [go_sem, ↓reduceIte, Nat.reduceAdd, Nat.reduceSub, Nat.reduceEqDiff, Nat.reduceLT, Nat.reduceLeDiff, Nat.reduceMul, Int.reduceNeg, Int.reduceToNat, Int.reduceEq, Int.reduceLT, Int.reduceLE, reduceCtorEq, hi, hw, hg, hx, h1, h2, hk, hT]
  · rintro _ hI
    rw [List.take_length] at hI
    have hk : entK l f t = l.length := tw_end hI
    have hT : entT l f t = false := by rw [entT, hk, List.getElem?_eq_none (Nat.le_refl _)]
    simp only [go_sem, ↓reduceIte, Nat.reduceAdd, Nat.reduceSub, Nat.reduceEqDiff, Nat.reduceLT, Nat.reduceLeDiff, Nat.reduceMul, Int.reduceNeg, Int.reduceToNat, Int.reduceEq, Int.reduceLT, Int.reduceLE, reduceCtorEq, hk, hT]
def addPost (d a : Int) (ps : List Post) : List Post := match ps.getLast? with
  | some p => if p.doc = d then ps.set (ps.length - 1) ⟨p.doc, p.ats ++ [a]⟩ else ps ++ [⟨d, [a]⟩]
  | none => ps ++ [⟨d, [a]⟩]
def wordE (l : List Entry) (f t : Str) (d a : Int) : List Entry :=
  if entT l f t = true then l.set (entK l f t) ⟨f, t, addPost d a (l.getD (entK l f t) default).posts⟩
  else l.take (entK l f t) ++ [⟨f, t, [⟨d, [a]⟩]⟩] ++ l.drop (entK l f t)
def EntB (n : Nat) (l : List Entry) : Prop := l.length ≤ n ∧ ∀ e ∈ l, e.posts ≠ [] ∧ e.posts.length ≤ n ∧ ∀ p ∈ e.posts, p.ats.length ≤ n
theorem entK_le (l : List Entry) (f t : Str) : entK l f t ≤ l.length := (List.takeWhile_sublist _).length_le
theorem entT_get {l : List Entry} {f t : Str} (h : entT l f t = true) : ∃ e, l[entK l f t]? = some e ∧ e.field = f ∧ e.term = t := by
  unfold entT at h
  split at h
  · rename_i e he
    simp only [entEq, Bool.and_eq_true, decide_eq_true_eq] at h
    exact ⟨e, he, h.1, h.2⟩
  · cases h
theorem l4Word_R (l : List Entry) (f t : Str) (d a : Int) (n : Nat) (hB : EntB n l) (hn : n + 1 ≤ 1099511627776) : R S0 144 [.slo 3 (l.map Entry.pv), .str f, .str t, .int .i64 d, .int .i64 a] = some ⟨[none, none, none, none, none], .slo 3 ((wordE l f t d a).map Entry.pv)⟩ := by
  obtain ⟨hl, hes⟩ := id hB
  have hlb : l.length ≤ 1099511627776 := by omega
  have hk := entK_le l f t
  cases hT : entT l f t with
  | false =>
    have hdr : (l.drop (entK l f t)).take (l.length - entK l f t) = l.drop (entK l f t) := List.take_of_length_le (by simp)
    have e1 : (0 : Int) ≤ (entK l f t : Int) := by omega
    have e2 : (entK l f t : Int) ≤ (l.length : Int) := by omega
    refine go144 rfl ?_; simp only [go_sem, ↓reduceIte, Nat.reduceAdd, Nat.reduceSub, Nat.reduceEqDiff, Nat.reduceLT, Nat.reduceLeDiff, Nat.reduceMul, Int.reduceNeg, Int.reduceToNat, Int.reduceEq, Int.reduceLT, Int.reduceLE, reduceCtorEq, Tryz.f144, hlb, hT, hk, hdr, e1, e2]
    refine ⟨by rw [List.length_take]; omega, by rw [List.length_take]; omega, by rw [List.length_take, List.length_drop]; omega, by decide +kernel, ?_⟩
    rw [wordE, if_neg (by rw [hT]; simp), List.append_assoc]; rfl
  | true =>
    obtain ⟨x, hx, hxf, hxt⟩ := entT_get hT
    have hkl : entK l f t < l.length := (List.getElem?_eq_some_iff.1 hx).1
    have hg : l.getD (entK l f t) default = x := by rw [List.getD_eq_getElem?_getD, hx]; rfl
    obtain ⟨hne, hpl, hps⟩ := hes x (List.mem_of_getElem? hx)
    have hpos : 0 < x.posts.length := List.length_pos_iff.2 hne
    obtain ⟨p, hp, hpg, _⟩ := drop_get (l := x.posts) (i := x.posts.length - 1) (by omega) default
    have e1 : (0 : Int) ≤ (entK l f t : Int) := by omega
    have e3 : IntKind.i64.wrap ((x.posts.length : Int) - 1) = ((x.posts.length - 1 : Nat) : Int) := by rw [wrap_in (by omega) (by omega)]; omega
    have e4 : x.posts.length - 1 < x.posts.length := by omega
    have e5 : x.field = f := hxf
    have hat := hps p (List.mem_of_getElem? hp)
    by_cases hd : p.doc = d
    · have hadd : addPost d a x.posts = x.posts.set (x.posts.length - 1) ⟨d, p.ats ++ [a]⟩ := by rw [addPost, List.getLast?_eq_getElem?, hp]; simp [hd]
      refine go144 rfl ?_; simp only [go_sem, ↓reduceIte, Nat.reduceAdd, Nat.reduceSub, Nat.reduceEqDiff, Nat.reduceLT, Nat.reduceLeDiff, Nat.reduceMul, Int.reduceNeg, Int.reduceToNat, Int.reduceEq, Int.reduceLT, Int.reduceLE, reduceCtorEq, Tryz.f144, hlb, hT, hk, hkl, hx, hg, e1, e3, e4, hp, hpg, hd]
      refine ⟨by omega, ?_⟩
      rw [wordE, if_pos hT, hg, hadd, hxf, hxt]
    · have hadd : addPost d a x.posts = x.posts ++ [⟨d, [a]⟩] := by rw [addPost, List.getLast?_eq_getElem?, hp]; simp [hd]
      refine go144 rfl ?_; simp only [go_sem, ↓reduceIte, Nat.reduceAdd, Nat.reduceSub, Nat.reduceEqDiff, Nat.reduceLT, Nat.reduceLeDiff, Nat.reduceMul, Int.reduceNeg, Int.reduceToNat, Int.reduceEq, Int.reduceLT, Int.reduceLE, reduceCtorEq, Tryz.f144, hlb, hT, hk, hkl, hx, hg, e1, e3, e4, hp, hpg, hd]
      refine ⟨by omega, ?_⟩
      rw [wordE, if_pos hT, hg, hadd, hxf, hxt]
theorem EntB.mono {n m : Nat} {l : List Entry} (h : EntB n l) (hm : n ≤ m) : EntB m l := ⟨Nat.le_trans h.1 hm, fun e he => ⟨(h.2 e he).1, Nat.le_trans (h.2 e he).2.1 hm, fun p hp => Nat.le_trans ((h.2 e he).2.2 p hp) hm⟩⟩
theorem addPost_b {n : Nat} {d a : Int} {ps : List Post} (h1 : ps.length ≤ n) (h2 : ∀ p ∈ ps, p.ats.length ≤ n) : addPost d a ps ≠ [] ∧ (addPost d a ps).length ≤ n + 1 ∧ ∀ p ∈ addPost d a ps, p.ats.length ≤ n + 1 := by
  unfold addPost
  split
  · rename_i p hp
    have hpm : p ∈ ps := List.mem_of_getLast? hp
    split
    · refine ⟨?_, by rw [List.length_set]; omega, fun q hq => ?_⟩
      · intro he
        have := congrArg List.length he
        simp only [List.length_set, List.length_nil] at this
        have := List.length_pos_of_mem hpm
        omega
      · rcases List.mem_or_eq_of_mem_set hq with hq | rfl
        · have := h2 q hq; omega
        · have := h2 p hpm; simp; omega
    · refine ⟨by simp, by simp; omega, fun q hq => ?_⟩
      rcases List.mem_append.1 hq with hq | hq
      · have := h2 q hq; omega
      · simp at hq; subst hq; simp
  · refine ⟨by simp, by simp; omega, fun q hq => ?_⟩
    rcases List.mem_append.1 hq with hq | hq
    · have := h2 q hq; omega
    · simp at hq; subst hq; simp
theorem EntB.word {n : Nat} {l : List Entry} (h : EntB n l) (f t : Str) (d a : Int) : EntB (n + 1) (wordE l f t d a) := by
  obtain ⟨h1, h2⟩ := id h
  unfold wordE
  split
  · rename_i hT
    obtain ⟨x, hx, hxf, hxt⟩ := entT_get hT
    have hg : l.getD (entK l f t) default = x := by rw [List.getD_eq_getElem?_getD, hx]; rfl
    refine ⟨by rw [List.length_set]; omega, fun e he => ?_⟩
    rcases List.mem_or_eq_of_mem_set he with he | rfl
    · exact (h.mono (Nat.le_succ _)).2 e he
    · have hx2 := h2 x (List.mem_of_getElem? hx)
      simp only [hg]
      exact addPost_b hx2.2.1 hx2.2.2
  · refine ⟨by simp only [List.length_append, List.length_take, List.length_drop, List.length_cons, List.length_nil]; omega, fun e he => ?_⟩
    rcases List.mem_append.1 he with he | he
    · rcases List.mem_append.1 he with he | he
      · exact (h.mono (Nat.le_succ _)).2 e (List.mem_of_mem_take he)
      · simp at he; subst he; simp
    · exact (h.mono (Nat.le_succ _)).2 e (List.mem_of_mem_drop he)
def wordsTo (f : Str) (id : Int) (ts : List Str) (l : List Entry) : Nat → List Entry
  | 0 => l
  | k + 1 => if ts.getD k default = [] then wordsTo f id ts l k else wordE (wordsTo f id ts l k) f (ts.getD k default) id k
theorem EntB.words {n : Nat} {l : List Entry} (h : EntB n l) (f : Str) (id : Int) (ts : List Str) : ∀ k, EntB (n + k) (wordsTo f id ts l k)
  | 0 => h
  | k + 1 => by
    have ih := EntB.words h f id ts k
    rw [wordsTo]
    split
    · exact ih.mono (by omega)
    · exact ih.word _ _ _ _
def isText (fl : List Field) (n : Str) : Bool := (fl.any fun f => f.name = n) && decide ((fieldOf fl n).kind = 1)
def cellsTo (fl : List Field) (id : Int) (cs : List Cell) (l : List Entry) : Nat → List Entry
  | 0 => l
  | k + 1 => if isText fl (cs.getD k default).name = true then wordsTo (cs.getD k default).name id (terms (cs.getD k default).text) (cellsTo fl id cs l k) (terms (cs.getD k default).text).length else cellsTo fl id cs l k
def docE (fl : List Field) (r : DRow) (l : List Entry) : List Entry := cellsTo fl r.id r.doc.cells l r.doc.cells.length
theorem EntB.cells {n : Nat} {l : List Entry} (h : EntB n l) (fl : List Field) (id : Int) (cs : List Cell) (hc : ∀ c ∈ cs, c.text.length ≤ 1000) : ∀ k, k ≤ cs.length → EntB (n + 1001 * k) (cellsTo fl id cs l k)
  | 0, _ => h
  | k + 1, hk => by
    have ih := EntB.cells h fl id cs hc k (by omega)
    obtain ⟨c, hx, hg, _⟩ := drop_get (l := cs) (i := k) (by omega) default
    have h1 := hc c (List.mem_of_getElem? hx)
    have h2 := words_len2 c.text
    rw [cellsTo, hg]
    split
    · exact (ih.words _ _ _ _).mono (by omega)
    · exact ih.mono (by omega)
theorem EntB.doc {n : Nat} {l : List Entry} (h : EntB n l) (fl : List Field) (r : DRow) (hr : DSt 1000 r.doc) : EntB (n + 1001000) (docE fl r l) := (h.cells fl r.id r.doc.cells (fun c hc => (hr.2.2 c hc).2) _ (Nat.le_refl _)).mono (by have := hr.2.1; omega)
theorem l4Doc_R (fl : List Field) (l : List Entry) (r : DRow) (n : Nat) (hfl : fl.length ≤ 1099511627776) (hB : EntB n l) (hn : n + 1001001 ≤ 1099511627776) (hr : DSt 1000 r.doc) : R S0 102 [.sl (fl.map Field.pv), .slo 3 (l.map Entry.pv), .agg [.int .i64 r.id, .str r.doc.key, .sl (r.doc.cells.map Cell.pv)]] = some ⟨[none, none, none], .slo 3 ((docE fl r l).map Entry.pv)⟩ := by
  obtain ⟨hk, hcl, hcs⟩ := id hr
  refine go102 rfl ?_; simp only [go_sem, ↓reduceIte, Nat.reduceAdd, Nat.reduceSub, Nat.reduceEqDiff, Nat.reduceLT, Nat.reduceLeDiff, Nat.reduceMul, Int.reduceNeg, Int.reduceToNat, Int.reduceEq, Int.reduceLT, Int.reduceLE, reduceCtorEq, Tryz.f102]
  refine ends_for r.doc.cells.length (by omega) (fun i _ => mkSt [(0, .sl (fl.map Field.pv)), (1, .own 0), (5, .addr 1 0 0), (7, .int .i64 i)] [.slo 3 ((cellsTo fl r.id r.doc.cells l i).map Entry.pv), .pto [.int .i64 r.id, .str r.doc.key, .sl (r.doc.cells.map Cell.pv)]]) (fun _ _ => True) 0 () (by omega) trivial ?_ ?_
  · rintro i _ hi _ hw ih
    obtain ⟨c, hx, hg, _⟩ := drop_get hi default
    obtain ⟨hc1, hc2⟩ := hcs c (List.mem_of_getElem? hx)
    have hc1' : c.name.length ≤ 1099511627776 := by omega
    have hc2' : c.text.length ≤ 1099511627776 := by omega
    have hBi := hB.cells fl r.id r.doc.cells (fun c hc => (hcs c hc).2) i (by omega)
    have h2 := words_len2 c.text
    cases ht : isText fl c.name with
    | false =>
      have e : cellsTo fl r.id r.doc.cells l (i + 1) = cellsTo fl r.id r.doc.cells l i := by rw [cellsTo, hg, if_neg (by rw [ht]; simp)]
      have ht' : ((fl.any fun f => f.name = c.name) && decide ((fieldOf fl c.name).kind = 1)) = false := ht
      have ih' := ih () trivial
      rw [e] at ih'
      simp only [go_sem, ↓reduceIte, Nat.reduceAdd, Nat.reduceSub, Nat.reduceEqDiff, Nat.reduceLT, Nat.reduceLeDiff, Nat.reduceMul, Int.reduceNeg, Int.reduceToNat, Int.reduceEq, Int.reduceLT, Int.reduceLE, reduceCtorEq, hi, hw, hg, hx, hfl, ht']
      exact ih'
    | true =>
      have e : cellsTo fl r.id r.doc.cells l (i + 1) = wordsTo c.name r.id (terms c.text) (cellsTo fl r.id r.doc.cells l i) (terms c.text).length := by rw [cellsTo, hg, if_pos ht]
      have ht' : ((fl.any fun f => f.name = c.name) && decide ((fieldOf fl c.name).kind = 1)) = true := ht
      have ih' := ih () trivial
      rw [e] at ih'
      simp only [go_sem, ↓reduceIte, Nat.reduceAdd, Nat.reduceSub, Nat.reduceEqDiff, Nat.reduceLT, Nat.reduceLeDiff, Nat.reduceMul, Int.reduceNeg, Int.reduceToNat, Int.reduceEq, Int.reduceLT, Int.reduceLE, reduceCtorEq, hi, hw, hg, hx, hfl, hc2', ht']
      refine ends_for (terms c.text).length (by omega) (fun j _ => mkSt [(0, .sl (fl.map Field.pv)), (1, .own 0), (5, .addr 1 0 0), (7, .int .i64 i), (8, .own 2), (9, .int .i64 j)] [.slo 3 ((wordsTo c.name r.id (terms c.text) (cellsTo fl r.id r.doc.cells l i) j).map Entry.pv), .pto [.int .i64 r.id, .str r.doc.key, .sl (r.doc.cells.map Cell.pv)], .slo 1 ((terms c.text).map .str)]) (fun _ _ => True) 0 () (by omega) trivial ?_ ?_
      · rintro j _ hj _ hwj ihj
        obtain ⟨t, htx, htg, _⟩ := drop_get hj default
        have ihj' := ihj () trivial
        by_cases h0 : t = []
        · have e2 : wordsTo c.name r.id (terms c.text) (cellsTo fl r.id r.doc.cells l i) (j + 1) = wordsTo c.name r.id (terms c.text) (cellsTo fl r.id r.doc.cells l i) j := by rw [wordsTo, htg, if_pos h0]
          rw [e2] at ihj'
          simp only [go_sem, ↓reduceIte, Nat.reduceAdd, Nat.reduceSub, Nat.reduceEqDiff, Nat.reduceLT, Nat.reduceLeDiff, Nat.reduceMul, Int.reduceNeg, Int.reduceToNat, Int.reduceEq, Int.reduceLT, Int.reduceLE, reduceCtorEq, hj, hwj, htg, htx, eq_true h0, hi, hg, hx]
          exact ihj'
        · have e2 : wordsTo c.name r.id (terms c.text) (cellsTo fl r.id r.doc.cells l i) (j + 1) = wordE (wordsTo c.name r.id (terms c.text) (cellsTo fl r.id r.doc.cells l i) j) c.name t r.id j := by rw [wordsTo, htg, if_neg h0]
          rw [e2] at ihj'
          have hW := l4Word_R (wordsTo c.name r.id (terms c.text) (cellsTo fl r.id r.doc.cells l i) j) c.name t r.id j _ (hBi.words c.name r.id (terms c.text) j) (by omega)
          simp only [go_sem, ↓reduceIte, Nat.reduceAdd, Nat.reduceSub, Nat.reduceEqDiff, Nat.reduceLT, Nat.reduceLeDiff, Nat.reduceMul, Int.reduceNeg, Int.reduceToNat, Int.reduceEq, Int.reduceLT, Int.reduceLE, reduceCtorEq, hj, hwj, htg, htx, h0, hi, hg, hx, hW]
          exact ⟨by decide +kernel, ihj'⟩
      · rintro _ _
        simp only [go_sem, ↓reduceIte, Nat.reduceAdd, Nat.reduceSub, Nat.reduceEqDiff, Nat.reduceLT, Nat.reduceLeDiff, Nat.reduceMul, Int.reduceNeg, Int.reduceToNat, Int.reduceEq, Int.reduceLT, Int.reduceLE, reduceCtorEq, hw]
        exact ih'
  · rintro _ _
    simp only [go_sem, ↓reduceIte, Nat.reduceAdd, Nat.reduceSub, Nat.reduceEqDiff, Nat.reduceLT, Nat.reduceLeDiff, Nat.reduceMul, Int.reduceNeg, Int.reduceToNat, Int.reduceEq, Int.reduceLT, Int.reduceLE, reduceCtorEq]
    rfl
def madeTo (fl : List Field) (rows : List DRow) : Nat → List Entry
  | 0 => []
  | k + 1 => docE fl (rows.getD k default) (madeTo fl rows k)
def madeE (fl : List Field) (rows : List DRow) : List Entry := madeTo fl rows rows.length
def RowsSt (rows : List DRow) : Prop := rows.length ≤ 1000 ∧ ∀ r ∈ rows, DSt 1000 r.doc
theorem EntB.made (fl : List Field) {rows : List DRow} (h : RowsSt rows) : ∀ k, k ≤ rows.length → EntB (1001000 * k) (madeTo fl rows k)
  | 0, _ => ⟨Nat.zero_le _, fun e he => by simp [madeTo] at he⟩
  | k + 1, hk => by
    obtain ⟨r, hx, hg, _⟩ := drop_get (l := rows) (i := k) (by omega) default
    rw [madeTo, hg]
    exact ((EntB.made fl h k (by omega)).doc fl r (h.2 r (List.mem_of_getElem? hx))).mono (by omega)
@[go_sem] theorem l4Made_R (fl : List Field) (rows : List DRow) (hfl : fl.length ≤ 1099511627776) (hr : RowsSt rows) : R S0 52 [.sl (fl.map Field.pv), .sl (rows.map DRow.pvF)] = some ⟨[none, none], .slo 3 ((madeE fl rows).map Entry.pv)⟩ := by
  obtain ⟨hl, hrs⟩ := id hr
  refine go52 rfl ?_; simp only [go_sem, ↓reduceIte, Nat.reduceAdd, Nat.reduceSub, Nat.reduceEqDiff, Nat.reduceLT, Nat.reduceLeDiff, Nat.reduceMul, Int.reduceNeg, Int.reduceToNat, Int.reduceEq, Int.reduceLT, Int.reduceLE, reduceCtorEq, Tryz.f52]
  refine ends_for rows.length (by omega) (fun i _ => mkSt [(0, .sl (fl.map Field.pv)), (1, .sl (rows.map DRow.pvF)), (5, .own 0), (6, .int .i64 i)] [.slo 3 ((madeTo fl rows i).map Entry.pv)]) (fun _ _ => True) 0 () (by omega) trivial ?_ ?_
  · rintro i _ hi _ hw ih
    obtain ⟨r, hx, hg, _⟩ := drop_get hi default
    have hD := l4Doc_R fl (madeTo fl rows i) r _ hfl (EntB.made fl hr i (by omega)) (by omega) (hrs r (List.mem_of_getElem? hx))
    have e : madeTo fl rows (i + 1) = docE fl r (madeTo fl rows i) := by rw [madeTo, hg]
    have ih' := ih () trivial
    rw [e] at ih'
    simp only [go_sem, ↓reduceIte, Nat.reduceAdd, Nat.reduceSub, Nat.reduceEqDiff, Nat.reduceLT, Nat.reduceLeDiff, Nat.reduceMul, Int.reduceNeg, Int.reduceToNat, Int.reduceEq, Int.reduceLT, Int.reduceLE, reduceCtorEq, hi, hw, hg, hx, hD]
    exact ih'
  · rintro _ _
    simp only [go_sem, ↓reduceIte, Nat.reduceAdd, Nat.reduceSub, Nat.reduceEqDiff, Nat.reduceLT, Nat.reduceLeDiff, Nat.reduceMul, Int.reduceNeg, Int.reduceToNat, Int.reduceEq, Int.reduceLT, Int.reduceLE, reduceCtorEq]
    rfl
end Go.Proofs.YtgnggcpcijcahaaGreatDoor.PVE
namespace Go.Proofs.YtgnggcpcijcahaaGreatDoor.PVE
open PV
deriving instance DecidableEq for Post, Entry
@[go_sem] theorem l4Ints_R (a b : List Int) (ha : a.length ≤ 1099511627776) (hb : b.length ≤ 1099511627776) : R S0 101 [.sl (a.map (.int .i64)), .sl (b.map (.int .i64))] = some ⟨[none, none], .bool (decide (a = b))⟩ := by
  by_cases h : a.length = b.length
  · have h2 : (a.length : Int) = b.length := by omega
    refine go101 rfl ?_; simp only [go_sem, ↓reduceIte, Nat.reduceAdd, Nat.reduceSub, Nat.reduceEqDiff, Nat.reduceLT, Nat.reduceLeDiff, Nat.reduceMul, Int.reduceNeg, Int.reduceToNat, Int.reduceEq, Int.reduceLT, Int.reduceLE, reduceCtorEq, Tryz.f101, h2]
    refine ends_for b.length (by omega) (fun i _ => mkSt [(0, .sl (a.map (.int .i64))), (1, .sl (b.map (.int .i64))), (5, .int .i64 i)] []) (fun i _ => a.take i = b.take i) 0 () (by omega) rfl ?_ ?_
    · rintro i _ hi hI hw ih
      obtain ⟨y, hy, hg, _⟩ := drop_get hi default
      have hia : i < a.length := by omega
      obtain ⟨x, hx, hgx, _⟩ := drop_get hia default
      have h3 : (i : Int) < (a.length : Int) := by omega
      by_cases he : x = y
      · subst he
        simp only [go_sem, ↓reduceIte, Nat.reduceAdd, Nat.reduceSub, Nat.reduceEqDiff, Nat.reduceLT, Nat.reduceLeDiff, Nat.reduceMul, Int.reduceNeg, Int.reduceToNat, Int.reduceEq, Int.reduceLT, Int.reduceLE, reduceCtorEq, hi, h2, hw, hg, hia, hgx, hx, hy]
        exact ih () (by rw [List.take_add_one, List.take_add_one, hx, hy, hI])
      · have hne : ¬ a = b := by
          rintro rfl
          rw [hx] at hy
          exact he (Option.some.inj hy)
        simp only [go_sem, ↓reduceIte, Nat.reduceAdd, Nat.reduceSub, Nat.reduceEqDiff, Nat.reduceLT, Nat.reduceLeDiff, Nat.reduceMul, Int.reduceNeg, Int.reduceToNat, Int.reduceEq, Int.reduceLT, Int.reduceLE, reduceCtorEq, hi, h2, hw, hg, hia, hgx, he, hx, hy]
        rw [decide_eq_false hne]
    · rintro _ hI
      rw [List.take_length, List.take_of_length_le (by omega)] at hI
      simp only [go_sem, ↓reduceIte, Nat.reduceAdd, Nat.reduceSub, Nat.reduceEqDiff, Nat.reduceLT, Nat.reduceLeDiff, Nat.reduceMul, Int.reduceNeg, Int.reduceToNat, Int.reduceEq, Int.reduceLT, Int.reduceLE, reduceCtorEq, h2]
      rw [decide_eq_true hI]
  · have h2 : ¬ (a.length : Int) = b.length := by omega
    have hne : ¬ a = b := fun e => h (by rw [e])
    refine go101 rfl ?_; simp only [go_sem, ↓reduceIte, Nat.reduceAdd, Nat.reduceSub, Nat.reduceEqDiff, Nat.reduceLT, Nat.reduceLeDiff, Nat.reduceMul, Int.reduceNeg, Int.reduceToNat, Int.reduceEq, Int.reduceLT, Int.reduceLE, reduceCtorEq, Tryz.f101, h2]
    rw [decide_eq_false hne]
def EntSm (l : List Entry) : Prop := l.length ≤ 1099511627776 ∧ ∀ e ∈ l, e.posts.length ≤ 1099511627776 ∧ ∀ p ∈ e.posts, p.ats.length ≤ 1099511627776
@[go_sem] theorem l4Same_R (a b : List Entry) (ha : EntSm a) (hb : EntSm b) : R S0 51 [.sl (a.map Entry.pvF), .sl (b.map Entry.pvF)] = some ⟨[none, none], .bool (decide (a = b))⟩ := by
  obtain ⟨ha1, ha2⟩ := id ha
  obtain ⟨hb1, hb2⟩ := id hb
  by_cases h : a.length = b.length
  case neg =>
    have h2 : ¬ (a.length : Int) = b.length := by omega
    have hne : ¬ a = b := fun e => h (by rw [e])
    refine go51 rfl ?_; simp only [go_sem, ↓reduceIte, Nat.reduceAdd, Nat.reduceSub, Nat.reduceEqDiff, Nat.reduceLT, Nat.reduceLeDiff, Nat.reduceMul, Int.reduceNeg, Int.reduceToNat, Int.reduceEq, Int.reduceLT, Int.reduceLE, reduceCtorEq, Tryz.f51, h2]
    rw [decide_eq_false hne]
  have h2 : (a.length : Int) = b.length := by omega
  refine go51 rfl ?_; simp only [go_sem, ↓reduceIte, Nat.reduceAdd, Nat.reduceSub, Nat.reduceEqDiff, Nat.reduceLT, Nat.reduceLeDiff, Nat.reduceMul, Int.reduceNeg, Int.reduceToNat, Int.reduceEq, Int.reduceLT, Int.reduceLE, reduceCtorEq, Tryz.f51, h2]
  refine ends_for b.length (by omega) (fun i _ => mkSt [(0, .sl (a.map Entry.pvF)), (1, .sl (b.map Entry.pvF)), (5, .int .i64 i)] []) (fun i _ => a.take i = b.take i) 0 () (by omega) rfl ?_ ?_
  · rintro i _ hi hI hw ih
    obtain ⟨y, hy, hg, _⟩ := drop_get hi default
    have hia : i < a.length := by omega
    obtain ⟨x, hx, hgx, _⟩ := drop_get hia default
    obtain ⟨hx1, hx2⟩ := ha2 x (List.mem_of_getElem? hx)
    obtain ⟨hy1, hy2⟩ := hb2 y (List.mem_of_getElem? hy)
    have hne : ¬ x = y → ¬ a = b := by
      rintro he rfl
      rw [hx] at hy
      exact he (Option.some.inj hy)
    by_cases e1 : x.field = y.field
    case neg =>
      have hn := hne (fun e => e1 (by rw [e]))
      simp only [go_sem, ↓reduceIte, Nat.reduceAdd, Nat.reduceSub, Nat.reduceEqDiff, Nat.reduceLT, Nat.reduceLeDiff, Nat.reduceMul, Int.reduceNeg, Int.reduceToNat, Int.reduceEq, Int.reduceLT, Int.reduceLE, reduceCtorEq, hi, h2, hw, hg, hia, hgx, hx, hy, e1]
      rw [decide_eq_false hn]
    have e1t := eq_true e1
    by_cases e2 : x.term = y.term
    case neg =>
      have hn := hne (fun e => e2 (by rw [e]))
      simp only [go_sem, ↓reduceIte, Nat.reduceAdd, Nat.reduceSub, Nat.reduceEqDiff, Nat.reduceLT, Nat.reduceLeDiff, Nat.reduceMul, Int.reduceNeg, Int.reduceToNat, Int.reduceEq, Int.reduceLT, Int.reduceLE, reduceCtorEq, hi, h2, hw, hg, hia, hgx, hx, hy, e1t, e2]
      rw [decide_eq_false hn]
    have e2t := eq_true e2
    by_cases e3 : x.posts.length = y.posts.length
    case neg =>
      have hn := hne (fun e => e3 (by rw [e]))
      have e3' : ¬ (x.posts.length : Int) = y.posts.length := by omega
      simp only [go_sem, ↓reduceIte, Nat.reduceAdd, Nat.reduceSub, Nat.reduceEqDiff, Nat.reduceLT, Nat.reduceLeDiff, Nat.reduceMul, Int.reduceNeg, Int.reduceToNat, Int.reduceEq, Int.reduceLT, Int.reduceLE, reduceCtorEq, hi, h2, hw, hg, hia, hgx, hx, hy, e1t, e2t, e3']
      rw [decide_eq_false hn]
    have e3' : (x.posts.length : Int) = y.posts.length := by omega
    simp only [go_sem, ↓reduceIte, Nat.reduceAdd, Nat.reduceSub, Nat.reduceEqDiff, Nat.reduceLT, Nat.reduceLeDiff, Nat.reduceMul, Int.reduceNeg, Int.reduceToNat, Int.reduceEq, Int.reduceLT, Int.reduceLE, reduceCtorEq, hi, h2, hw, hg, hia, hgx, hx, hy, e1t, e2t, e3']
    refine ends_for y.posts.length (by omega) (fun k _ => mkSt [(0, .sl (a.map Entry.pvF)), (1, .sl (b.map Entry.pvF)), (5, .int .i64 i), (6, .int .i64 k)] []) (fun k _ => x.posts.take k = y.posts.take k) 0 () (by omega) rfl ?_ ?_
    · rintro k _ hk hJ hwk ihk
      obtain ⟨q, hq, hgq, _⟩ := drop_get hk default
      have hka : k < x.posts.length := by omega
      obtain ⟨p, hp, hgp, _⟩ := drop_get hka default
      have hp2 := hx2 p (List.mem_of_getElem? hp)
      have hq2 := hy2 q (List.mem_of_getElem? hq)
      have hne2 : ¬ p = q → ¬ a = b := by
        intro he
        refine hne ?_
        rintro rfl
        rw [hp] at hq
        exact he (Option.some.inj hq)
      by_cases e4 : p.doc = q.doc
      case neg =>
        have hn := hne2 (fun e => e4 (by rw [e]))
        simp only [go_sem, ↓reduceIte, Nat.reduceAdd, Nat.reduceSub, Nat.reduceEqDiff, Nat.reduceLT, Nat.reduceLeDiff, Nat.reduceMul, Int.reduceNeg, Int.reduceToNat, Int.reduceEq, Int.reduceLT, Int.reduceLE, reduceCtorEq, hi, h2, hk, hwk, hg, hia, hgx, hx, hy, hgq, hka, hgp, hp, hq, e3', e4]
        rw [decide_eq_false hn]
      have e4t := eq_true e4
      by_cases e5 : p.ats = q.ats
      case neg =>
        have hn := hne2 (fun e => e5 (by rw [e]))
        simp only [go_sem, ↓reduceIte, Nat.reduceAdd, Nat.reduceSub, Nat.reduceEqDiff, Nat.reduceLT, Nat.reduceLeDiff, Nat.reduceMul, Int.reduceNeg, Int.reduceToNat, Int.reduceEq, Int.reduceLT, Int.reduceLE, reduceCtorEq, hi, h2, hk, hwk, hg, hia, hgx, hx, hy, hgq, hka, hgp, hp, hq, e3', e4t, e5, hp2, hq2]
        rw [decide_eq_false hn]
      have e5t := eq_true e5
      simp only [go_sem, ↓reduceIte, Nat.reduceAdd, Nat.reduceSub, Nat.reduceEqDiff, Nat.reduceLT, Nat.reduceLeDiff, Nat.reduceMul, Int.reduceNeg, Int.reduceToNat, Int.reduceEq, Int.reduceLT, Int.reduceLE, reduceCtorEq, hi, h2, hk, hwk, hg, hia, hgx, hx, hy, hgq, hka, hgp, hp, hq, e3', e4t, e5t, hp2, hq2]
      refine ihk () ?_
      have : p = q := by cases p; cases q; simp at e4 e5; simp [e4, e5]
      rw [List.take_add_one, List.take_add_one, hp, hq, hJ, this]
    · rintro _ hJ
      rw [List.take_length, List.take_of_length_le (by omega)] at hJ
      have hxy : x = y := by cases x; cases y; simp at e1 e2 hJ; simp [e1, e2, hJ]
      simp only [go_sem, ↓reduceIte, Nat.reduceAdd, Nat.reduceSub, Nat.reduceEqDiff, Nat.reduceLT, Nat.reduceLeDiff, Nat.reduceMul, Int.reduceNeg, Int.reduceToNat, Int.reduceEq, Int.reduceLT, Int.reduceLE, reduceCtorEq, hi, h2, hw, hg, hia, hgx, hx, hy, e3']
      exact ih () (by rw [List.take_add_one, List.take_add_one, hx, hy, hI, hxy])
  · rintro _ hI
    rw [List.take_length, List.take_of_length_le (by omega)] at hI
    simp only [go_sem, ↓reduceIte, Nat.reduceAdd, Nat.reduceSub, Nat.reduceEqDiff, Nat.reduceLT, Nat.reduceLeDiff, Nat.reduceMul, Int.reduceNeg, Int.reduceToNat, Int.reduceEq, Int.reduceLT, Int.reduceLE, reduceCtorEq, h2]
    rw [decide_eq_true hI]
def keyIx (rows : List DRow) (k : Str) : Int := if (rows.any fun r => r.doc.key = k) = true then (rows.findIdx (fun r => r.doc.key = k) : Nat) else -1
@[go_sem] theorem l4Key_R (rows : List DRow) (k : Str) (hl : rows.length ≤ 1099511627776) : R S0 48 [.sl (rows.map DRow.pvF), .str k] = some ⟨[none, none], .int .i64 (keyIx rows k)⟩ := by
  refine go48 rfl ?_; simp only [go_sem, ↓reduceIte, Nat.reduceAdd, Nat.reduceSub, Nat.reduceEqDiff, Nat.reduceLT, Nat.reduceLeDiff, Nat.reduceMul, Int.reduceNeg, Int.reduceToNat, Int.reduceEq, Int.reduceLT, Int.reduceLE, reduceCtorEq, Tryz.f48]
  refine ends_for rows.length (by omega) (fun i _ => mkSt [(0, .sl (rows.map DRow.pvF)), (1, .str k), (5, .int .i64 i)] []) (fun i _ => ∀ y ∈ rows.take i, decide (y.doc.key = k) = false) 0 () (by omega) (by simp) ?_ ?_
  · rintro i _ hi hI hw ih
    obtain ⟨x, hx, hg, hd⟩ := drop_get hi default
    by_cases h : x.doc.key = k
    · have := (look_at (p := fun r : DRow => decide (r.doc.key = k)) hI hx (by simpa using h)).2
      have e : keyIx rows k = i := by rw [keyIx, if_pos this.2, this.1]
      simp only [go_sem, ↓reduceIte, Nat.reduceAdd, Nat.reduceSub, Nat.reduceEqDiff, Nat.reduceLT, Nat.reduceLeDiff, Nat.reduceMul, Int.reduceNeg, Int.reduceToNat, Int.reduceEq, Int.reduceLT, Int.reduceLE, reduceCtorEq, hi, hw, hg, hx, eq_true h, e]
    · simp only [go_sem, ↓reduceIte, Nat.reduceAdd, Nat.reduceSub, Nat.reduceEqDiff, Nat.reduceLT, Nat.reduceLeDiff, Nat.reduceMul, Int.reduceNeg, Int.reduceToNat, Int.reduceEq, Int.reduceLT, Int.reduceLE, reduceCtorEq, hi, hw, hg, hx, h]
      exact ih () (take_step hI hx (by simpa using h))
  · rintro _ hI
    rw [List.take_length] at hI
    have := (look_no (p := fun r : DRow => decide (r.doc.key = k)) hI).2
    have e : keyIx rows k = -1 := by rw [keyIx, if_neg (by rw [this]; simp)]
    simp only [go_sem, ↓reduceIte, Nat.reduceAdd, Nat.reduceSub, Nat.reduceEqDiff, Nat.reduceLT, Nat.reduceLeDiff, Nat.reduceMul, Int.reduceNeg, Int.reduceToNat, Int.reduceEq, Int.reduceLT, Int.reduceLE, reduceCtorEq, e]
@[go_sem] theorem DRow.snocF (l : List DRow) (i : Int) (k : Str) (cs : List Cell) : l.map DRow.pvF ++ [.agg [.int .i64 i, .str k, .sl (cs.map Cell.pv)]] = (l ++ [DRow.mk i (Doc.mk k cs)]).map DRow.pvF := by simp [DRow.pvF]
@[go_sem] theorem DRow.snoc (l : List DRow) (i : Int) (k : Str) (cs : List Cell) : l.map DRow.pv ++ [.agg [.int .i64 i, .str k, .slo 2 (cs.map Cell.pv)]] = (l ++ [DRow.mk i (Doc.mk k cs)]).map DRow.pv := by simp [DRow.pv]
def lessKey (rows : List DRow) (k : Str) : List DRow := rows.filter fun r => !decide (r.doc.key = k)
@[go_sem] theorem l4Without_R (rows : List DRow) (k : Str) (hl : rows.length ≤ 1099511627776) : R S0 152 [.sl (rows.map DRow.pvF), .str k] = some ⟨[none, none], .slo 3 ((lessKey rows k).map DRow.pvF)⟩ := by
  refine go152 rfl ?_; simp only [go_sem, ↓reduceIte, Nat.reduceAdd, Nat.reduceSub, Nat.reduceEqDiff, Nat.reduceLT, Nat.reduceLeDiff, Nat.reduceMul, Int.reduceNeg, Int.reduceToNat, Int.reduceEq, Int.reduceLT, Int.reduceLE, reduceCtorEq, Tryz.f152]
  refine ends_for rows.length (by omega) (fun i _ => mkSt [(0, .sl (rows.map DRow.pvF)), (1, .str k), (5, .own 0), (6, .int .i64 i)] [.slo 3 ((lessKey (rows.take i) k).map DRow.pvF)]) (fun _ _ => True) 0 () (by omega) trivial ?_ ?_
  · rintro i _ hi _ hw ih
    obtain ⟨x, hx, hg, hd⟩ := drop_get hi default
    have hle : (lessKey (rows.take i) k).length ≤ 1099511627776 := by
      have := List.length_filter_le (fun r : DRow => !decide (r.doc.key = k)) (rows.take i)
      rw [lessKey]; simp only [List.length_take] at this; omega
    have ih' := ih () trivial
    by_cases h : x.doc.key = k
    · have e : lessKey (rows.take (i + 1)) k = lessKey (rows.take i) k := by rw [lessKey, List.take_add_one, hx, List.filter_append]; simp [h, lessKey]
      rw [e] at ih'
      simp only [go_sem, ↓reduceIte, Nat.reduceAdd, Nat.reduceSub, Nat.reduceEqDiff, Nat.reduceLT, Nat.reduceLeDiff, Nat.reduceMul, Int.reduceNeg, Int.reduceToNat, Int.reduceEq, Int.reduceLT, Int.reduceLE, reduceCtorEq, hi, hw, hg, hx, eq_true h]
      exact ih'
    · have e : lessKey (rows.take (i + 1)) k = lessKey (rows.take i) k ++ [DRow.mk x.id (Doc.mk x.doc.key x.doc.cells)] := by rw [lessKey, List.take_add_one, hx, List.filter_append]; simp [h, lessKey]
      rw [e] at ih'
      simp only [go_sem, ↓reduceIte, Nat.reduceAdd, Nat.reduceSub, Nat.reduceEqDiff, Nat.reduceLT, Nat.reduceLeDiff, Nat.reduceMul, Int.reduceNeg, Int.reduceToNat, Int.reduceEq, Int.reduceLT, Int.reduceLE, reduceCtorEq, hi, hw, hg, hx, h]
      exact ⟨by omega, ih'⟩
  · rintro _ _
    simp only [go_sem, ↓reduceIte, Nat.reduceAdd, Nat.reduceSub, Nat.reduceEqDiff, Nat.reduceLT, Nat.reduceLeDiff, Nat.reduceMul, Int.reduceNeg, Int.reduceToNat, Int.reduceEq, Int.reduceLT, Int.reduceLE, reduceCtorEq]
    rw [List.take_length]
@[go_sem] theorem l4Build_R (fl : List Field) (rows : List DRow) (nx : Int) (hfl : fl.length ≤ 1099511627776) (hr : RowsSt rows) : R S0 154 [.sl (fl.map Field.pv), .sl (rows.map DRow.pvF), .int .i64 nx] = some ⟨[none, none, none], .agg [.slo 3 (fl.map Field.pv), .slo 3 (rows.map DRow.pv), .slo 3 ((madeE fl rows).map Entry.pv), .int .i64 nx]⟩ := by
  obtain ⟨hl, hrs⟩ := id hr
  refine go154 rfl ?_; simp only [go_sem, ↓reduceIte, Nat.reduceAdd, Nat.reduceSub, Nat.reduceEqDiff, Nat.reduceLT, Nat.reduceLeDiff, Nat.reduceMul, Int.reduceNeg, Int.reduceToNat, Int.reduceEq, Int.reduceLT, Int.reduceLE, reduceCtorEq, Tryz.f154]
  refine ⟨by omega, ?_⟩
  refine ends_for rows.length (by omega) (fun i _ => mkSt [(1, .sl (rows.map DRow.pvF)), (6, .addr 0 0 0), (7, .addr 1 0 0), (8, .int .i64 i)] [.pto [.slo 3 [], .slo 3 [], .slo 3 [], .int .i64 0], .pto [.slo 3 (fl.map Field.pv), .slo 3 ((rows.take i).map DRow.pv), .slo 3 [], .int .i64 nx]]) (fun _ _ => True) 0 () (by omega) trivial ?_ ?_
  · rintro i _ hi _ hw ih
    obtain ⟨x, hx, hg, hd⟩ := drop_get hi default
    obtain ⟨_, hxc, _⟩ := hrs x (List.mem_of_getElem? hx)
    have ih' := ih () trivial
    have e : rows.take (i + 1) = rows.take i ++ [DRow.mk x.id (Doc.mk x.doc.key x.doc.cells)] := by rw [List.take_add_one, hx]; rfl
    have hlt : (rows.take i).length ≤ 1000 := by simp; omega
    rw [e] at ih'
    simp only [go_sem, ↓reduceIte, Nat.reduceAdd, Nat.reduceSub, Nat.reduceEqDiff, Nat.reduceLT, Nat.reduceLeDiff, Nat.reduceMul, Int.reduceNeg, Int.reduceToNat, Int.reduceEq, Int.reduceLT, Int.reduceLE, reduceCtorEq, hi, hw, hg, hx]
    exact ⟨by omega, by omega, by decide +kernel, ih'⟩
  · rintro _ _
    rw [List.take_length]
    simp only [go_sem, ↓reduceIte, Nat.reduceAdd, Nat.reduceSub, Nat.reduceEqDiff, Nat.reduceLT, Nat.reduceLeDiff, Nat.reduceMul, Int.reduceNeg, Int.reduceToNat, Int.reduceEq, Int.reduceLT, Int.reduceLE, reduceCtorEq, hfl, hr]
end Go.Proofs.YtgnggcpcijcahaaGreatDoor.PVE
namespace Go.Proofs.YtgnggcpcijcahaaGreatDoor.PVE
open PV
@[go_sem] theorem l1Dec_small (u : Nat) (h : u < 10) : R S0 153 [.int .i64 u] = some ⟨[none], .str [UInt8.ofNat (48 + u)]⟩ := by
  have h1 : ¬ (u : Int) < -9223372036854775807 := by omega
  have h2 : ¬ (u : Int) < 0 := by omega
  have h3 : (u : Int) < 10 := by omega
  have e : IntKind.u8.wrap (IntKind.i64.wrap (48 + (u : Int))) = ((48 + u : Nat) : Int) := by rw [wrap_in (by omega) (by omega), IntKind.wrap_u8]; omega
  refine go153 rfl ?_; simp only [go_sem, ↓reduceIte, Nat.reduceAdd, Nat.reduceSub, Nat.reduceEqDiff, Nat.reduceLT, Nat.reduceLeDiff, Nat.reduceMul, Int.reduceNeg, Int.reduceToNat, Int.reduceEq, Int.reduceLT, Int.reduceLE, reduceCtorEq, Tryz.f153, h1, h2, h3, e]
  exact ⟨rfl, rfl⟩
def rowB (x : Bool × DRow) : PV := if x.1 = true then x.2.pv else x.2.pvF
def rowF (x : Bool × DRow) : PV := x.2.pvF
theorem rowB_cases (x : Bool × DRow) : rowB x = x.2.pv ∨ rowB x = x.2.pvF := by
  obtain ⟨b, r⟩ := x
  cases b
  · exact .inr rfl
  · exact .inl rfl
instance : Enc rowB 3 := ⟨fun x => by rcases rowB_cases x with h | h <;> rw [h] <;> exact Enc.free _, fun x => by rcases rowB_cases x with h | h <;> rw [h] <;> exact Enc.okr _, fun x => by rcases rowB_cases x with h | h <;> rw [h] <;> rfl⟩
instance : EncS rowB rowF := ⟨fun x => by rcases rowB_cases x with h | h <;> rw [h] <;> exact EncS.strip _⟩
@[go_sem] theorem rowF_map (l : List (Bool × DRow)) : l.map rowF = (l.map (fun x => x.2)).map DRow.pvF := by rw [List.map_map]; rfl
@[go_sem] theorem rowB_snoc (l : List DRow) (i : Int) (k : Str) (cs : List Cell) : l.map DRow.pvF ++ [.agg [.int .i64 i, .str k, .slo 2 (cs.map Cell.pv)]] = (l.map (fun r => (false, r)) ++ [(true, DRow.mk i (Doc.mk k cs))]).map rowB := by
  rw [List.map_append, List.map_map]; rfl
@[go_sem] theorem rowB_snoc0 (l : List (Bool × DRow)) (i : Int) (k : Str) : l.map rowB ++ [.agg [.int .i64 i, .str k, .slo 2 []]] = (l ++ [(true, DRow.mk i (Doc.mk k []))]).map rowB := by
  rw [List.map_append]; rfl
theorem snd_snoc (l : List DRow) (x : Bool × DRow) : (l.map (fun r => (false, r)) ++ [x]).map (fun x => x.2) = l ++ [x.2] := by rw [List.map_append, List.map_map]; simp [Function.comp_def]
def RowsS (n k : Nat) (rows : List DRow) : Prop := rows.length ≤ n ∧ ∀ r ∈ rows, DSt k r.doc
theorem RowsS.st {n k : Nat} {rows : List DRow} (h : RowsS n k rows) (hn : n ≤ 1000) (hk : k ≤ 1000) : RowsSt rows := ⟨Nat.le_trans h.1 hn, fun r hr => ⟨(h.2 r hr).1, Nat.le_trans (h.2 r hr).2.1 hk, (h.2 r hr).2.2⟩⟩
def IxPost (b : Str) (p c : Nat) (r : Ans) : Prop := ∃ fl : List Field, ∃ rows : List DRow, ∃ nx : Int, ∃ p' : Nat, r = ⟨[some (.pto [.sl (b.map bytePV), .int .i64 (p' : Nat)])], .agg [.slo 3 (fl.map Field.pv), .slo 3 (rows.map DRow.pv), .slo 3 ((madeE fl rows).map Entry.pv), .int .i64 nx]⟩ ∧ p ≤ p' ∧ p' ≤ p + c ∧ FSm fl ∧ RowsS 20 4 rows ∧ 0 ≤ nx ∧ nx ≤ 100
theorem fieldsF_FSm (b : Str) (p : Nat) : FSm (fieldsF b p) := ⟨by have := fieldsF_len b p; omega, fun f hf => by have := fieldsF_sm b p f hf; omega⟩
theorem index_ex (b : Str) (p : Nat) (hp : p + 1000 ≤ 1099511627776) (hb : b.length ≤ 2000) : ∃ r, R S0 105 [.pto [.sl (b.map bytePV), .int .i64 p]] = some r ∧ IxPost b p 400 r := by
  have hm := more (p := p) (by omega)
  have hfl := fieldsF_FSm b p
  obtain ⟨hfl1, _⟩ := id hfl
  have hp1 : p ≤ 1099511627776 := by omega
  have hp2 : p + 1 ≤ 1099511627776 := by omega
  have hp3 : p + 1 + 1 ≤ 1099511627776 := by omega
  have hk2 := pickV_in (p := p + 1) (n := 2) (by omega) hb
  have hk6 := pickV_in (p := p + 1 + 1) (n := 6) (by omega) hb
  refine (fun ⟨r, h, hp⟩ => ⟨r, go105 rfl h, hp⟩ : (∃ r, Ends S0 _ _ r ∧ _) → _) ?_
  have e6 : pickV b (p + 1 + 1) 6 = ((pickV b (p + 1 + 1) 6).toNat : Int) := by omega
  have h6 : (pickV b (p + 1 + 1) 6).toNat ≤ 5 := by omega
  simp only [go_sem, ↓reduceIte, Nat.reduceAdd, Nat.reduceSub, Nat.reduceEqDiff, Nat.reduceLT, Nat.reduceLeDiff, Nat.reduceMul, Int.reduceNeg, Int.reduceToNat, Int.reduceEq, Int.reduceLT, Int.reduceLE, reduceCtorEq, Tryz.f105, hm, hb, hp1, hp2, hp3, ex_if, ex_bool, ex_and, ex_eq]
  rw [e6]
  generalize (pickV b (p + 1 + 1) 6).toNat = m0 at h6 ⊢
  generalize hid : pickV b (p + 1) 2 = id0 at hk2 ⊢
  refine ends_wx (fun x : Nat × Nat × Int × List (Bool × DRow) => x.1) (fun x => mkSt [(0, .addr 0 0 0), (2, .addr 1 0 0), (3, .sl ((fieldsF b p).map Field.pv)), (4, .own 2), (5, .int .i64 x.2.2.1), (6, .int .i64 (x.1 : Nat)), (1000000, .addr 0 0 0)] [.pto [.sl (b.map bytePV), .int .i64 (x.2.1 : Nat)], .pto [.slo 3 [], .slo 3 [], .slo 3 [], .int .i64 0], .slo 3 (x.2.2.2.map rowB)])
    (fun x => x.1 ≤ 5 ∧ p + 3 ≤ x.2.1 ∧ x.2.1 + 61 * x.1 ≤ p + 308 ∧ 0 ≤ x.2.2.1 ∧ x.2.2.1 + 2 * (x.1 : Int) ≤ 11 ∧ RowsS (5 - x.1) 4 (x.2.2.2.map (·.2))) (m0, p + 1 + 1 + 1, id0, []) ⟨h6, by simp only; omega, by simp only; omega, by simp only; omega, by simp only; omega, by simp [RowsS]⟩ ?_
  rintro ⟨n, p2, id, rows⟩ ⟨k1, k2, k3, k4, k5, k6⟩ ihl
  simp only at k1 k2 k3 k4 k5 k6
  have k6c := k6
  obtain ⟨k6a, k6b⟩ := k6c
  cases n with
  | succ n =>
    have h0 : (0 : Int) < ((n + 1 : Nat) : Int) := by omega
    have h3 : IntKind.i64.wrap (((n + 1 : Nat) : Int) - 1) = (n : Int) := by rw [wrap_in (by omega) (by omega)]; omega
    obtain ⟨r, hr, d, p3, rfl, j1, j2, jd⟩ := doc_ex (fieldsF b p) hfl b p2 (by omega) hb
    have hp3' : p3 ≤ 1099511627776 := by omega
    have hk3 := pickV_in (p := p3) (n := 2) (by omega) hb
    have hrl : rows.length ≤ 1099511627776 := by rw [List.length_map] at k6a; omega
    have hlk : (lessKey (rows.map (fun x => x.2)) d.key).length ≤ 5 - (n + 1) := Nat.le_trans (List.length_filter_le _ _) k6a
    have hi1 : IntKind.i64.wrap (id + 1) = id + 1 := wrap_in (by omega) (by omega)
    have hi2 : IntKind.i64.wrap (id + 1 + pickV b p3 2) = id + 1 + pickV b p3 2 := wrap_in (by omega) (by omega)
    simp only [go_sem, ↓reduceIte, Nat.reduceAdd, Nat.reduceSub, Nat.reduceEqDiff, Nat.reduceLT, Nat.reduceLeDiff, Nat.reduceMul, Int.reduceNeg, Int.reduceToNat, Int.reduceEq, Int.reduceLT, Int.reduceLE, reduceCtorEq, h0, h3, hr, hp3', hb, hrl, hi1, hi2, ex_if, ex_bool, ex_and, ex_eq]
    refine ⟨by omega, by decide +kernel, ihl (n, p3 + 1, id + 1 + pickV b p3 2, _) (by simp only; omega) ⟨by simp only; omega, by simp only; omega, by simp only; omega, by simp only; omega, by simp only; omega, ?_⟩⟩
    simp only
    rw [snd_snoc]
    refine ⟨by rw [List.length_append, List.length_singleton]; omega, fun r hr => ?_⟩
    rcases List.mem_append.1 hr with hr | hr
    · exact k6b r ((List.mem_filter.1 hr).1)
    · simp at hr; subst hr; exact jd
  | zero =>
    have h0 : ¬ (0 : Int) < ((0 : Nat) : Int) := by omega
    have hm2 := more (p := p2) (by omega)
    have hrl : rows.length ≤ 5 := by rw [List.length_map] at k6a; omega
    have hrb : rows.length ≤ 1099511627776 := by omega
    have hst : RowsSt (rows.map (fun x => x.2)) := k6.st (by omega) (by omega)
    have hS20 : RowsS 20 4 (rows.map (fun x => x.2)) := ⟨by omega, k6b⟩
    by_cases c : pickV b p2 30 = 0
    · simp only [go_sem, ↓reduceIte, Nat.reduceAdd, Nat.reduceSub, Nat.reduceEqDiff, Nat.reduceLT, Nat.reduceLeDiff, Nat.reduceMul, Int.reduceNeg, Int.reduceToNat, Int.reduceEq, Int.reduceLT, Int.reduceLE, reduceCtorEq, h0, hm2, hb, c, ex_if, ex_bool, ex_and, ex_eq]
      refine ends_wx (fun x : Nat × Int × List (Bool × DRow) => 8 - x.1) (fun x => mkSt [(2, .addr 0 0 0), (3, .sl ((fieldsF b p).map Field.pv)), (4, .own 1), (5, .int .i64 x.2.1), (8, .int .i64 (x.1 : Nat)), (1000000, .addr 2 0 0)] [.pto [.slo 3 [], .slo 3 [], .slo 3 [], .int .i64 0], .slo 3 (x.2.2.map rowB), .pto [.sl (b.map bytePV), .int .i64 (p2 + 1 : Nat)]])
        (fun x => x.1 ≤ 8 ∧ 0 ≤ x.2.1 ∧ x.2.1 ≤ 11 + (x.1 : Int) ∧ RowsS x.1 4 (x.2.2.map (·.2))) (rows.length, id, rows) ⟨by simp only; omega, k4, by simp only; omega, by simp [RowsS], k6b⟩ ?_
      rintro ⟨m, id2, rows2⟩ ⟨l1, l2, l3, l4⟩ ihm
      simp only at l1 l2 l3 l4
      have l4c := l4
      obtain ⟨l4a, l4b⟩ := l4c
      by_cases hm8 : m < 8
      · have g1 : (m : Int) < 8 := by omega
        have g2 : IntKind.i64.wrap ((m : Int) + 1) = ((m + 1 : Nat) : Int) := by rw [wrap_in (by omega) (by omega)]; omega
        have g3 : IntKind.i64.wrap (id2 + 1) = id2 + 1 := wrap_in (by omega) (by omega)
        have g4 : m < 10 := by omega
        have g5 : rows2.length ≤ m := by rw [List.length_map] at l4a; exact l4a
        simp only [go_sem, ↓reduceIte, Nat.reduceAdd, Nat.reduceSub, Nat.reduceEqDiff, Nat.reduceLT, Nat.reduceLeDiff, Nat.reduceMul, Int.reduceNeg, Int.reduceToNat, Int.reduceEq, Int.reduceLT, Int.reduceLE, reduceCtorEq, g1, g2, g3, g4, ex_if, ex_bool, ex_and, ex_eq]
        refine ⟨by omega, ihm (m + 1, id2 + 1, _) (by simp only; omega) ⟨by simp only; omega, by simp only; omega, by simp only; omega, ?_⟩⟩
        simp only [List.map_append, List.map_cons, List.map_nil]
        refine ⟨by rw [List.length_append, List.length_singleton]; omega, fun r hr => ?_⟩
        rcases List.mem_append.1 hr with hr | hr
        · exact l4b r hr
        · simp at hr; subst hr; exact ⟨by simp, by simp, by simp⟩
      · have g1 : ¬ (m : Int) < 8 := by omega
        have hst2 : RowsSt (rows2.map (fun x => x.2)) := l4.st (by omega) (by omega)
        have hS202 : RowsS 20 4 (rows2.map (fun x => x.2)) := ⟨by omega, l4b⟩
        simp only [go_sem, ↓reduceIte, Nat.reduceAdd, Nat.reduceSub, Nat.reduceEqDiff, Nat.reduceLT, Nat.reduceLeDiff, Nat.reduceMul, Int.reduceNeg, Int.reduceToNat, Int.reduceEq, Int.reduceLT, Int.reduceLE, reduceCtorEq, g1, hfl1, hst2, ex_if, ex_bool, ex_and, ex_eq]
        exact ⟨_, _, _, _, rfl, by omega, by omega, hfl, hS202, l2, by omega⟩
    · simp only [go_sem, ↓reduceIte, Nat.reduceAdd, Nat.reduceSub, Nat.reduceEqDiff, Nat.reduceLT, Nat.reduceLeDiff, Nat.reduceMul, Int.reduceNeg, Int.reduceToNat, Int.reduceEq, Int.reduceLT, Int.reduceLE, reduceCtorEq, h0, hm2, hb, c, hfl1, hst, ex_if, ex_bool, ex_and, ex_eq]
      exact ⟨_, _, _, _, rfl, by omega, by omega, hfl, hS20, k4, by omega⟩
theorem EntB.sm {n : Nat} {l : List Entry} (h : EntB n l) (hn : n ≤ 1099511627776) : EntSm l := ⟨Nat.le_trans h.1 hn, fun e he => ⟨Nat.le_trans (h.2 e he).2.1 hn, fun p hp => Nat.le_trans ((h.2 e he).2.2 p hp) hn⟩⟩
theorem made_sm (fl : List Field) {rows : List DRow} (h : RowsSt rows) : EntSm (madeE fl rows) := (EntB.made fl h rows.length (Nat.le_refl _)).sm (by have := h.1; omega)
theorem EntSm.sub {l m : List Entry} (h : EntSm l) (hs : m.Sublist l) : EntSm m := ⟨Nat.le_trans hs.length_le h.1, fun e he => h.2 e (hs.subset he)⟩
def AixPost (b : Str) (p c : Nat) (r : Ans) : Prop := ∃ fl : List Field, ∃ rows : List DRow, ∃ ents : List Entry, ∃ nx : Int, ∃ p' : Nat, r = ⟨[some (.pto [.sl (b.map bytePV), .int .i64 (p' : Nat)])], .agg [.sl (fl.map Field.pv), .sl (rows.map DRow.pvF), .sl (ents.map Entry.pvF), .int .i64 nx]⟩ ∧ p ≤ p' ∧ p' ≤ p + c ∧ FSm fl ∧ RowsS 21 5 rows ∧ EntSm ents ∧ -1 ≤ nx ∧ nx ≤ 999999999
theorem anyIndex_ex (b : Str) (p : Nat) (hp : p + 2000 ≤ 1099511627776) (hb : b.length ≤ 2000) : ∃ r, R S0 56 [.pto [.sl (b.map bytePV), .int .i64 p]] = some r ∧ AixPost b p 600 r := by
  obtain ⟨r, hr, fl, rows, nx, p1, rfl, h1, h2, hfl, hrs, hn1, hn2⟩ := index_ex b p (by omega) hb
  have hm := more (p := p1) (by omega)
  have hr21 : RowsS 21 5 rows := ⟨Nat.le_trans hrs.1 (by omega), fun r hr => ⟨(hrs.2 r hr).1, Nat.le_trans (hrs.2 r hr).2.1 (by omega), (hrs.2 r hr).2.2⟩⟩
  have hes := made_sm fl (hrs.st (by omega) (by omega))
  obtain ⟨hes1, hes2⟩ := id hes
  obtain ⟨hrl, _⟩ := id hrs
  refine (fun ⟨r, h, hp⟩ => ⟨r, go56 rfl h, hp⟩ : (∃ r, Ends S0 _ _ r ∧ _) → _) ?_
  by_cases c0 : pickV b p1 16 = 0
  · simp only [go_sem, ↓reduceIte, Nat.reduceAdd, Nat.reduceSub, Nat.reduceEqDiff, Nat.reduceLT, Nat.reduceLeDiff, Nat.reduceMul, Int.reduceNeg, Int.reduceToNat, Int.reduceEq, Int.reduceLT, Int.reduceLE, reduceCtorEq, Tryz.f56, hm, hb, hr, c0, ex_if, ex_bool, ex_and, ex_eq]
    have ho := oneV_mem (b := b) (p := p1 + 1) (l := [0, -1, 999999999]) (by omega) hb (by decide)
    refine ⟨fun r h => by omega, fl, rows, _, _, p1 + 1 + 1, rfl, by omega, by omega, hfl, hr21, hes, ?_, ?_⟩ <;> (simp only [List.mem_cons, List.not_mem_nil, or_false] at ho; omega)
  by_cases c1 : pickV b p1 16 = 1
  · by_cases ce : 0 < ((madeE fl rows).length : Int)
    · simp only [go_sem, ↓reduceIte, Nat.reduceAdd, Nat.reduceSub, Nat.reduceEqDiff, Nat.reduceLT, Nat.reduceLeDiff, Nat.reduceMul, Int.reduceNeg, Int.reduceToNat, Int.reduceEq, Int.reduceLT, Int.reduceLE, reduceCtorEq, Tryz.f56, hm, hb, hr, c0, c1, ce, ex_if, ex_bool, ex_and, ex_eq]
      exact ⟨by omega, fun r h => by omega, fl, rows, _, nx, p1 + 1, rfl, by omega, by omega, hfl, hr21, hes.sub ((List.take_sublist _ _).trans (List.drop_sublist _ _)), by omega, by omega⟩
    · simp only [go_sem, ↓reduceIte, Nat.reduceAdd, Nat.reduceSub, Nat.reduceEqDiff, Nat.reduceLT, Nat.reduceLeDiff, Nat.reduceMul, Int.reduceNeg, Int.reduceToNat, Int.reduceEq, Int.reduceLT, Int.reduceLE, reduceCtorEq, Tryz.f56, hm, hb, hr, c0, c1, ce, ex_if, ex_bool, ex_and, ex_eq]
      refine ⟨fun r h => by omega, ?_⟩
      exact ⟨fl, rows, _, nx, p1 + 1, rfl, by omega, by omega, hfl, hr21, hes, by omega, by omega⟩
  by_cases c2 : pickV b p1 16 = 2
  · obtain ⟨r2, hr2, d, p2, rfl, j1, j2, jd⟩ := anyDoc_ex fl hfl b (p1 + 1) (by omega) hb
    simp only [go_sem, ↓reduceIte, Nat.reduceAdd, Nat.reduceSub, Nat.reduceEqDiff, Nat.reduceLT, Nat.reduceLeDiff, Nat.reduceMul, Int.reduceNeg, Int.reduceToNat, Int.reduceEq, Int.reduceLT, Int.reduceLE, reduceCtorEq, Tryz.f56, hm, hb, hr, c0, c1, c2, hr2, ex_if, ex_bool, ex_and, ex_eq]
    refine ⟨by omega, by decide +kernel, fun r h => by omega, fl, _, _, nx, p2, rfl, by omega, by omega, hfl, ⟨by simp; omega, fun r hr => ?_⟩, hes, by omega, by omega⟩
    rcases List.mem_append.1 hr with hr | hr
    · exact hr21.2 r hr
    · simp at hr; subst hr; exact jd
  by_cases c3 : pickV b p1 16 = 3
  · obtain ⟨r2, hr2, fl2, p2, rfl, j1, j2, hfl2⟩ := anyFields_ex b (p1 + 1) (by omega) hb
    simp only [go_sem, ↓reduceIte, Nat.reduceAdd, Nat.reduceSub, Nat.reduceEqDiff, Nat.reduceLT, Nat.reduceLeDiff, Nat.reduceMul, Int.reduceNeg, Int.reduceToNat, Int.reduceEq, Int.reduceLT, Int.reduceLE, reduceCtorEq, Tryz.f56, hm, hb, hr, c0, c1, c2, c3, hr2, ex_if, ex_bool, ex_and, ex_eq]
    refine ⟨fun r h => by omega, ?_⟩
    exact ⟨fl2, rows, _, nx, p2, rfl, by omega, by omega, hfl2, hr21, hes, by omega, by omega⟩
  · simp only [go_sem, ↓reduceIte, Nat.reduceAdd, Nat.reduceSub, Nat.reduceEqDiff, Nat.reduceLT, Nat.reduceLeDiff, Nat.reduceMul, Int.reduceNeg, Int.reduceToNat, Int.reduceEq, Int.reduceLT, Int.reduceLE, reduceCtorEq, Tryz.f56, hm, hb, hr, c0, c1, c2, c3, ex_if, ex_bool, ex_and, ex_eq]
    refine ⟨fun r h => by omega, ?_⟩
    exact ⟨fl, rows, _, nx, p1 + 1, rfl, by omega, by omega, hfl, hr21, hes, by omega, by omega⟩
def DFPost (r : Ans) : Prop := ∃ fl : List Field, ∃ rows : List DRow, ∃ ents : List Entry, ∃ nx : Int, ∃ q : Query, r = ⟨[none], .tup [.agg [.sl (fl.map Field.pv), .sl (rows.map DRow.pvF), .sl (ents.map Entry.pvF), .int .i64 nx], .agg [.int .i64 q.kind, .str q.field, .str q.text, .int .i64 q.low, .int .i64 q.high, .sl (q.parts.map Query.pv)]]⟩ ∧ FSm fl ∧ RowsS 21 5 rows ∧ EntSm ents ∧ -1 ≤ nx ∧ nx ≤ 999999999 ∧ q.Sm
theorem drawFind_ex (b : Str) : ∃ r, R S0 17 [.sl (b.map bytePV)] = some r ∧ DFPost r := by
  have hb : (b.take 2000).length ≤ 2000 := by simp; omega
  obtain ⟨r1, hr1, fl, rows, ents, nx, p1, rfl, h1, h2, hfl, hrs, hes, hn1, hn2⟩ := anyIndex_ex (b.take 2000) 0 (by omega) hb
  obtain ⟨r2, hr2, hq⟩ := any_ex fl (b.take 2000) p1 (by omega) hb
  obtain ⟨q, p2, rfl, h3, h4, hq⟩ := hq.get
  rw [show ((0 : Nat) : Int) = 0 from rfl] at hr1
  refine (fun ⟨r, h, hp⟩ => ⟨r, go17 rfl h, hp⟩ : (∃ r, Ends S0 _ _ r ∧ _) → _) ?_
  simp only [go_sem, ↓reduceIte, Nat.reduceAdd, Nat.reduceSub, Nat.reduceEqDiff, Nat.reduceLT, Nat.reduceLeDiff, Nat.reduceMul, Int.reduceNeg, Int.reduceToNat, Int.reduceEq, Int.reduceLT, Int.reduceLE, reduceCtorEq, Tryz.f17, hr1, hr2, hb, ex_if, ex_bool, ex_and, ex_eq]
  refine ⟨by decide +kernel, fl, rows, ents, nx, q, rfl, hfl, hrs, hes, hn1, hn2, hq⟩
end Go.Proofs.YtgnggcpcijcahaaGreatDoor.PVE
namespace Go.Proofs.YtgnggcpcijcahaaGreatDoor.PVE
open PV Query
def RowsM (rows : List DRow) : Prop := rows.length ≤ 1099511627776 ∧ ∀ r ∈ rows, DSm r.doc
theorem RowsS.sm {n k : Nat} {rows : List DRow} (h : RowsS n k rows) (hn : n ≤ 1000) (hk : k ≤ 1000) : RowsM rows := ⟨by have := h.1; omega, fun r hr => (h.2 r hr).sm hk⟩
def rowOkS (fl : List Field) (rows : List DRow) (nx : Int) (i : Nat) : Bool := docOk fl (rows.getD i default).doc && decide (keyIx rows (rows.getD i default).doc.key = i) && inB (rows.getD i default).id 0 (nx - 1) && (decide (i = 0) || decide ((rows.getD (i - 1) default).id < (rows.getD i default).id))
def rowsOkTo (fl : List Field) (rows : List DRow) (nx : Int) : Nat → Bool
  | 0 => true
  | k + 1 => rowsOkTo fl rows nx k && rowOkS fl rows nx k
def indexOkS (fl : List Field) (rows : List DRow) (ents : List Entry) (nx : Int) : Bool := rowsOkTo fl rows nx rows.length && (fieldsOk fl && decide (rows.length ≤ 8) && inB nx 0 999999999 && decide (madeE fl rows = ents))
theorem rowsOkTo_all {fl : List Field} {rows : List DRow} {nx : Int} : ∀ {k : Nat}, rowsOkTo fl rows nx k = true ↔ ∀ i, i < k → rowOkS fl rows nx i = true
  | 0 => by simp [rowsOkTo]
  | k + 1 => by
    rw [rowsOkTo, Bool.and_eq_true, rowsOkTo_all (k := k)]
    constructor
    · rintro ⟨h1, h2⟩ i hi
      rcases Nat.lt_succ_iff_lt_or_eq.1 hi with h | rfl
      · exact h1 i h
      · exact h2
    · exact fun h => ⟨fun i hi => h i (by omega), h k (by omega)⟩
theorem rowsOkTo_no {fl : List Field} {rows : List DRow} {nx : Int} {k i : Nat} (hi : i < k) (h : rowOkS fl rows nx i = false) : rowsOkTo fl rows nx k = false := by
  cases hc : rowsOkTo fl rows nx k with
  | false => rfl
  | true => rw [rowsOkTo_all.1 hc i hi] at h; cases h
theorem docOk_st {fl : List Field} {d : Doc} (h : docOk fl d = true) : DSt 4 d := by
  obtain ⟨_, h2, h3⟩ := docOk_parts h
  simp only [docOk, Bool.and_eq_true, docForm, decide_eq_true_eq] at h
  have := nameOk_len h.1.2.1.2
  exact ⟨by omega, h2, fun c hc => by have := h3 c hc; omega⟩
theorem rowsOk_st {fl : List Field} {rows : List DRow} {nx : Int} (h : rowsOkTo fl rows nx rows.length = true) (hl : rows.length ≤ 8) : RowsS 8 4 rows := by
  refine ⟨hl, fun r hr => ?_⟩
  obtain ⟨i, hi, rfl⟩ := List.getElem_of_mem hr
  have := rowsOkTo_all.1 h i hi
  simp only [rowOkS, Bool.and_eq_true, List.getD_eq_getElem?_getD, List.getElem?_eq_getElem hi, Option.getD_some] at this
  exact docOk_st this.1.1.1
@[go_sem] theorem specIndexOk_R (fl : List Field) (rows : List DRow) (ents : List Entry) (nx : Int) (hfl : FSm fl) (hr : RowsM rows) (he : EntSm ents) (hn : -9223372036854775808 ≤ nx ∧ nx ≤ 9223372036854775807) : R S0 13 [.agg [.sl (fl.map Field.pv), .sl (rows.map DRow.pvF), .sl (ents.map Entry.pvF), .int .i64 nx]] = some ⟨[none], .bool (indexOkS fl rows ents nx)⟩ := by
  obtain ⟨hrl, hrs⟩ := id hr
  obtain ⟨hfl1, _⟩ := id hfl
  by_cases hmin : nx = -9223372036854775808
  · subst hmin
    have hnx : IntKind.i64.wrap (-9223372036854775808 - 1) = 9223372036854775807 := by decide +kernel
    have c3f : inB (-9223372036854775808) 0 999999999 = false := by decide
    have hno : indexOkS fl rows ents (-9223372036854775808) = false := by rw [indexOkS, c3f]; simp
    refine go13 rfl ?_; simp only [go_sem, ↓reduceIte, Nat.reduceAdd, Nat.reduceSub, Nat.reduceEqDiff, Nat.reduceLT, Nat.reduceLeDiff, Nat.reduceMul, Int.reduceNeg, Int.reduceToNat, Int.reduceEq, Int.reduceLT, Int.reduceLE, reduceCtorEq, Tryz.f13]
    refine ends_for rows.length (by omega) (fun i _ => mkSt [(1, .addr 0 0 0), (3, .int .i64 i)] [.pto [.sl (fl.map Field.pv), .sl (rows.map DRow.pvF), .sl (ents.map Entry.pvF), .int .i64 (-9223372036854775808)]]) (fun _ _ => True) 0 () (by omega) trivial ?_ ?_
    · rintro i _ hi - hw ih
      obtain ⟨r, hx, hg, _⟩ := drop_get hi default
      have hds := hrs r (List.mem_of_getElem? hx)
      have ih' := ih () trivial
      cases c1 : docOk fl r.doc with
      | false => simp only [go_sem, ↓reduceIte, Nat.reduceAdd, Nat.reduceSub, Nat.reduceEqDiff, Nat.reduceLT, Nat.reduceLeDiff, Nat.reduceMul, Int.reduceNeg, Int.reduceToNat, Int.reduceEq, Int.reduceLT, Int.reduceLE, reduceCtorEq, hi, hw, hg, hx, hfl, hds, hrl, hnx, c1, hno]
      | true =>
        by_cases c2 : keyIx rows r.doc.key = i
        case neg => simp only [go_sem, ↓reduceIte, Nat.reduceAdd, Nat.reduceSub, Nat.reduceEqDiff, Nat.reduceLT, Nat.reduceLeDiff, Nat.reduceMul, Int.reduceNeg, Int.reduceToNat, Int.reduceEq, Int.reduceLT, Int.reduceLE, reduceCtorEq, hi, hw, hg, hx, hfl, hds, hrl, hnx, c1, c2, hno]
        cases c3 : inB r.id 0 9223372036854775807 with
        | false => simp only [go_sem, ↓reduceIte, Nat.reduceAdd, Nat.reduceSub, Nat.reduceEqDiff, Nat.reduceLT, Nat.reduceLeDiff, Nat.reduceMul, Int.reduceNeg, Int.reduceToNat, Int.reduceEq, Int.reduceLT, Int.reduceLE, reduceCtorEq, hi, hw, hg, hx, hfl, hds, hrl, hnx, c1, c2, c3, hno]
        | true =>
          by_cases c4 : i = 0
          · have g0 : ¬ (0 : Int) < (i : Int) := by omega
            simp only [go_sem, ↓reduceIte, Nat.reduceAdd, Nat.reduceSub, Nat.reduceEqDiff, Nat.reduceLT, Nat.reduceLeDiff, Nat.reduceMul, Int.reduceNeg, Int.reduceToNat, Int.reduceEq, Int.reduceLT, Int.reduceLE, reduceCtorEq, hi, hw, hg, hx, hfl, hds, hrl, hnx, c1, c2, c3, g0]
            exact ih'
          · have g0 : (0 : Int) < (i : Int) := by omega
            have hi1 : IntKind.i64.wrap ((i : Int) - 1) = ((i - 1 : Nat) : Int) := by rw [wrap_in (by omega) (by omega)]; omega
            have hlt : i - 1 < rows.length := by omega
            obtain ⟨y, hy1, hy2, _⟩ := drop_get hlt default
            by_cases c5 : r.id ≤ y.id
            · simp only [go_sem, ↓reduceIte, Nat.reduceAdd, Nat.reduceSub, Nat.reduceEqDiff, Nat.reduceLT, Nat.reduceLeDiff, Nat.reduceMul, Int.reduceNeg, Int.reduceToNat, Int.reduceEq, Int.reduceLT, Int.reduceLE, reduceCtorEq, hi, hw, hg, hx, hfl, hds, hrl, hnx, c1, c2, c3, g0, hi1, hlt, hy1, hy2, c5, hno]
            · simp only [go_sem, ↓reduceIte, Nat.reduceAdd, Nat.reduceSub, Nat.reduceEqDiff, Nat.reduceLT, Nat.reduceLeDiff, Nat.reduceMul, Int.reduceNeg, Int.reduceToNat, Int.reduceEq, Int.reduceLT, Int.reduceLE, reduceCtorEq, hi, hw, hg, hx, hfl, hds, hrl, hnx, c1, c2, c3, g0, hi1, hlt, hy1, hy2, c5]
              exact ih'
    · rintro _ -
      cases c1 : fieldsOk fl with
      | false => simp only [go_sem, ↓reduceIte, Nat.reduceAdd, Nat.reduceSub, Nat.reduceEqDiff, Nat.reduceLT, Nat.reduceLeDiff, Nat.reduceMul, Int.reduceNeg, Int.reduceToNat, Int.reduceEq, Int.reduceLT, Int.reduceLE, reduceCtorEq, hfl, c1, hno]
      | true =>
        by_cases c2 : (rows.length : Int) ≤ 8
        · simp only [go_sem, ↓reduceIte, Nat.reduceAdd, Nat.reduceSub, Nat.reduceEqDiff, Nat.reduceLT, Nat.reduceLeDiff, Nat.reduceMul, Int.reduceNeg, Int.reduceToNat, Int.reduceEq, Int.reduceLT, Int.reduceLE, reduceCtorEq, hfl, c1, c2, c3f, hno]
        · simp only [go_sem, ↓reduceIte, Nat.reduceAdd, Nat.reduceSub, Nat.reduceEqDiff, Nat.reduceLT, Nat.reduceLeDiff, Nat.reduceMul, Int.reduceNeg, Int.reduceToNat, Int.reduceEq, Int.reduceLT, Int.reduceLE, reduceCtorEq, hfl, c1, c2, hno]
  have hnx : IntKind.i64.wrap (nx - 1) = nx - 1 := wrap_in (by omega) (by omega)
  refine go13 rfl ?_; simp only [go_sem, ↓reduceIte, Nat.reduceAdd, Nat.reduceSub, Nat.reduceEqDiff, Nat.reduceLT, Nat.reduceLeDiff, Nat.reduceMul, Int.reduceNeg, Int.reduceToNat, Int.reduceEq, Int.reduceLT, Int.reduceLE, reduceCtorEq, Tryz.f13]
  refine ends_for rows.length (by omega) (fun i _ => mkSt [(1, .addr 0 0 0), (3, .int .i64 i)] [.pto [.sl (fl.map Field.pv), .sl (rows.map DRow.pvF), .sl (ents.map Entry.pvF), .int .i64 nx]]) (fun i _ => rowsOkTo fl rows nx i = true) 0 () (by omega) rfl ?_ ?_
  · rintro i _ hi hI hw ih
    obtain ⟨r, hx, hg, _⟩ := drop_get hi default
    have hds := hrs r (List.mem_of_getElem? hx)
    have hno : rowOkS fl rows nx i = false → indexOkS fl rows ents nx = false := fun h => by rw [indexOkS, rowsOkTo_no hi h]; rfl
    have hi1 : IntKind.i64.wrap ((i : Int) - 1) = (i : Int) - 1 := wrap_in (by omega) (by omega)
    cases c1 : docOk fl r.doc with
    | false =>
      have hn := hno (by rw [rowOkS, hg, c1]; rfl)
      simp only [go_sem, ↓reduceIte, Nat.reduceAdd, Nat.reduceSub, Nat.reduceEqDiff, Nat.reduceLT, Nat.reduceLeDiff, Nat.reduceMul, Int.reduceNeg, Int.reduceToNat, Int.reduceEq, Int.reduceLT, Int.reduceLE, reduceCtorEq, hi, hw, hg, hx, hfl, hds, hrl, hnx, c1, hn]
    | true =>
      by_cases c2 : keyIx rows r.doc.key = i
      case neg =>
        have hn := hno (by rw [rowOkS, hg, decide_eq_false c2]; simp)
        simp only [go_sem, ↓reduceIte, Nat.reduceAdd, Nat.reduceSub, Nat.reduceEqDiff, Nat.reduceLT, Nat.reduceLeDiff, Nat.reduceMul, Int.reduceNeg, Int.reduceToNat, Int.reduceEq, Int.reduceLT, Int.reduceLE, reduceCtorEq, hi, hw, hg, hx, hfl, hds, hrl, hnx, c1, c2, hn]
      have c2t := eq_true c2
      cases c3 : inB r.id 0 (nx - 1) with
      | false =>
        have hn := hno (by rw [rowOkS, hg, c3]; simp)
        simp only [go_sem, ↓reduceIte, Nat.reduceAdd, Nat.reduceSub, Nat.reduceEqDiff, Nat.reduceLT, Nat.reduceLeDiff, Nat.reduceMul, Int.reduceNeg, Int.reduceToNat, Int.reduceEq, Int.reduceLT, Int.reduceLE, reduceCtorEq, hi, hw, hg, hx, hfl, hds, hrl, hnx, c1, c2, c3, hn]
      | true =>
        by_cases c4 : i = 0
        · have hy : rowOkS fl rows nx i = true := by rw [rowOkS, hg, c1, c3, decide_eq_true c2, decide_eq_true c4]; rfl
          have ih' := ih () (by rw [rowsOkTo, hI, hy]; rfl)
          have g0 : ¬ (0 : Int) < (i : Int) := by omega
          simp only [go_sem, ↓reduceIte, Nat.reduceAdd, Nat.reduceSub, Nat.reduceEqDiff, Nat.reduceLT, Nat.reduceLeDiff, Nat.reduceMul, Int.reduceNeg, Int.reduceToNat, Int.reduceEq, Int.reduceLT, Int.reduceLE, reduceCtorEq, hi, hw, hg, hx, hfl, hds, hrl, hnx, c1, c2, c3, g0]
          exact ih'
        · have g0 : (0 : Int) < (i : Int) := by omega
          have hi1 : IntKind.i64.wrap ((i : Int) - 1) = ((i - 1 : Nat) : Int) := by rw [wrap_in (by omega) (by omega)]; omega
          have hlt : i - 1 < rows.length := by omega
          obtain ⟨y, hy1, hy2, _⟩ := drop_get hlt default
          by_cases c5 : y.id < r.id
          · have hy : rowOkS fl rows nx i = true := by rw [rowOkS, hg, hy2, c1, c3, decide_eq_true c2, decide_eq_true c5]; simp
            have ih' := ih () (by rw [rowsOkTo, hI, hy]; rfl)
            have c5' : ¬ r.id ≤ y.id := by omega
            simp only [go_sem, ↓reduceIte, Nat.reduceAdd, Nat.reduceSub, Nat.reduceEqDiff, Nat.reduceLT, Nat.reduceLeDiff, Nat.reduceMul, Int.reduceNeg, Int.reduceToNat, Int.reduceEq, Int.reduceLT, Int.reduceLE, reduceCtorEq, hi, hw, hg, hx, hfl, hds, hrl, hnx, c1, c2, c3, g0, hi1, hlt, hy1, hy2, c5']
            exact ih'
          · have hn := hno (by rw [rowOkS, hg, hy2, c1, c3, decide_eq_true c2, decide_eq_false c5, decide_eq_false c4]; rfl)
            have c5' : r.id ≤ y.id := by omega
            simp only [go_sem, ↓reduceIte, Nat.reduceAdd, Nat.reduceSub, Nat.reduceEqDiff, Nat.reduceLT, Nat.reduceLeDiff, Nat.reduceMul, Int.reduceNeg, Int.reduceToNat, Int.reduceEq, Int.reduceLT, Int.reduceLE, reduceCtorEq, hi, hw, hg, hx, hfl, hds, hrl, hnx, c1, c2, c3, g0, hi1, hlt, hy1, hy2, c5', hn]
  · rintro _ hI
    cases c1 : fieldsOk fl with
    | false =>
      have hn : indexOkS fl rows ents nx = false := by rw [indexOkS, c1]; simp
      simp only [go_sem, ↓reduceIte, Nat.reduceAdd, Nat.reduceSub, Nat.reduceEqDiff, Nat.reduceLT, Nat.reduceLeDiff, Nat.reduceMul, Int.reduceNeg, Int.reduceToNat, Int.reduceEq, Int.reduceLT, Int.reduceLE, reduceCtorEq, hfl, c1, hn]
    | true =>
      by_cases c2 : rows.length ≤ 8
      case neg =>
        have hn : indexOkS fl rows ents nx = false := by rw [indexOkS, decide_eq_false c2]; simp
        have c2' : ¬ (rows.length : Int) ≤ 8 := by omega
        simp only [go_sem, ↓reduceIte, Nat.reduceAdd, Nat.reduceSub, Nat.reduceEqDiff, Nat.reduceLT, Nat.reduceLeDiff, Nat.reduceMul, Int.reduceNeg, Int.reduceToNat, Int.reduceEq, Int.reduceLT, Int.reduceLE, reduceCtorEq, hfl, c1, c2', hn]
      have c2' : (rows.length : Int) ≤ 8 := by omega
      cases c3 : inB nx 0 999999999 with
      | false =>
        have hn : indexOkS fl rows ents nx = false := by rw [indexOkS, c3]; simp
        simp only [go_sem, ↓reduceIte, Nat.reduceAdd, Nat.reduceSub, Nat.reduceEqDiff, Nat.reduceLT, Nat.reduceLeDiff, Nat.reduceMul, Int.reduceNeg, Int.reduceToNat, Int.reduceEq, Int.reduceLT, Int.reduceLE, reduceCtorEq, hfl, c1, c2', c3, hn]
      | true =>
        have hst := (rowsOk_st hI c2).st (by omega) (by omega)
        have hms := made_sm fl hst
        have hn : indexOkS fl rows ents nx = decide (madeE fl rows = ents) := by rw [indexOkS, hI, c1, c3, decide_eq_true c2]; simp
        simp only [go_sem, ↓reduceIte, Nat.reduceAdd, Nat.reduceSub, Nat.reduceEqDiff, Nat.reduceLT, Nat.reduceLeDiff, Nat.reduceMul, Int.reduceNeg, Int.reduceToNat, Int.reduceEq, Int.reduceLT, Int.reduceLE, reduceCtorEq, hfl, hfl1, c1, c2', c3, hst, hms, he, hn]
        decide +kernel
def runFits (all want : List Str) (i : Nat) : Bool := decide (i + want.length ≤ all.length) && runAt all want i
theorem cntTo_congr {f g : Nat → Bool} : ∀ {n : Nat}, (∀ i, i < n → f i = g i) → cntTo f n = cntTo g n
  | 0, _ => rfl
  | n + 1, h => by rw [cntTo, cntTo, cntTo_congr (n := n) fun i hi => h i (by omega), h n (by omega)]
theorem cntTo_false {f : Nat → Bool} {m : Nat} : ∀ {k : Nat}, (∀ i, m ≤ i → f i = false) → cntTo f (m + k) = cntTo f m
  | 0, _ => rfl
  | k + 1, h => by rw [← Nat.add_assoc, cntTo, h (m + k) (by omega), cntTo_false (k := k) h]; simp
theorem runFits_cnt {all want : List Str} (hw : want ≠ []) : cntTo (runFits all want) all.length = cntTo (runAt all want) (all.length + 1 - want.length) := by
  have hpos : 0 < want.length := List.length_pos_iff.2 hw
  have h1 : cntTo (runAt all want) (all.length + 1 - want.length) = cntTo (runFits all want) (all.length + 1 - want.length) := cntTo_congr fun i hi => by
    rw [runFits, decide_eq_true (by omega), Bool.true_and]
  rw [h1]
  have h2 := cntTo_false (f := runFits all want) (m := all.length + 1 - want.length) (k := all.length - (all.length + 1 - want.length)) (fun i hi => by rw [runFits, decide_eq_false (by omega)]; rfl)
  rw [← h2]; congr 1; omega
@[go_sem] theorem l7Times_R (s : Str) (q : Query) (hs : s.length ≤ 1099511627776) (ht : q.text.length ≤ 1099511627776) (hq : q.kind = 4 ∨ terms q.text ≠ []) : R S0 140 [.str s, .agg [.int .i64 q.kind, .str q.field, .str q.text, .int .i64 q.low, .int .i64 q.high, .sl (q.parts.map pv)]] = some ⟨[none, none], .int .i64 (timesN q s)⟩ := by
  have hl1 := words_len2 s
  have hl2 := words_len2 q.text
  by_cases hk : q.kind = 4
  · refine go140 rfl ?_; simp only [go_sem, ↓reduceIte, Nat.reduceAdd, Nat.reduceSub, Nat.reduceEqDiff, Nat.reduceLT, Nat.reduceLeDiff, Nat.reduceMul, Int.reduceNeg, Int.reduceToNat, Int.reduceEq, Int.reduceLT, Int.reduceLE, reduceCtorEq, Tryz.f140, hs, ht]
    refine ends_for (terms s).length (by omega) (fun i (n : Nat) => mkSt [(3, .addr 0 0 0), (5, .own 1), (6, .own 2), (7, .int .i64 n), (8, .int .i64 i)] [.pto [.int .i64 q.kind, .str q.field, .str q.text, .int .i64 q.low, .int .i64 q.high, .sl (q.parts.map pv)], .slo 1 ((terms s).map .str), .slo 1 ((terms q.text).map .str)]) (fun i n => n = ((terms s).take i).countP (fun t => decide (t ≠ []) && begM q.text t)) 0 0 (by omega) (by simp) ?_ ?_
    · rintro i n hi hI hw ih
      obtain ⟨y, hy, hg, _⟩ := drop_get hi default
      have hc := List.countP_le_length (l := (terms s).take i) (p := fun t => decide (t ≠ []) && begM q.text t)
      simp only [List.length_take] at hc
      have hw2 : IntKind.i64.wrap ((n : Int) + 1) = ((n + 1 : Nat) : Int) := by rw [wrap_in (by omega) (by omega)]; omega
      have htk : (terms s).take (i + 1) = (terms s).take i ++ [y] := by rw [List.take_add_one, hy]; rfl
      have hkt := eq_true hk
      by_cases h0 : y = []
      · simp only [go_sem, ↓reduceIte, Nat.reduceAdd, Nat.reduceSub, Nat.reduceEqDiff, Nat.reduceLT, Nat.reduceLeDiff, Nat.reduceMul, Int.reduceNeg, Int.reduceToNat, Int.reduceEq, Int.reduceLT, Int.reduceLE, reduceCtorEq, hi, hw, hg, hy, eq_true h0, hkt]
        refine ih _ ?_
        rw [htk, List.countP_append, hI, h0]; simp
      · cases hb : begM q.text y with
        | true =>
          simp only [go_sem, ↓reduceIte, Nat.reduceAdd, Nat.reduceSub, Nat.reduceEqDiff, Nat.reduceLT, Nat.reduceLeDiff, Nat.reduceMul, Int.reduceNeg, Int.reduceToNat, Int.reduceEq, Int.reduceLT, Int.reduceLE, reduceCtorEq, hi, hw, hg, hy, h0, hb, hw2, hkt]
          refine ih _ ?_
          rw [htk, List.countP_append, hI]; simp [h0, hb]
        | false =>
          simp only [go_sem, ↓reduceIte, Nat.reduceAdd, Nat.reduceSub, Nat.reduceEqDiff, Nat.reduceLT, Nat.reduceLeDiff, Nat.reduceMul, Int.reduceNeg, Int.reduceToNat, Int.reduceEq, Int.reduceLT, Int.reduceLE, reduceCtorEq, hi, hw, hg, hy, h0, hb, hkt]
          refine ih _ ?_
          rw [htk, List.countP_append, hI]; simp [h0, hb]
    · rintro n hI
      rw [List.take_length] at hI
      simp only [go_sem, ↓reduceIte, Nat.reduceAdd, Nat.reduceSub, Nat.reduceEqDiff, Nat.reduceLT, Nat.reduceLeDiff, Nat.reduceMul, Int.reduceNeg, Int.reduceToNat, Int.reduceEq, Int.reduceLT, Int.reduceLE, reduceCtorEq]
      rw [timesN, if_pos hk, hI]
  · have hne := hq.resolve_left hk
    refine go140 rfl ?_; simp only [go_sem, ↓reduceIte, Nat.reduceAdd, Nat.reduceSub, Nat.reduceEqDiff, Nat.reduceLT, Nat.reduceLeDiff, Nat.reduceMul, Int.reduceNeg, Int.reduceToNat, Int.reduceEq, Int.reduceLT, Int.reduceLE, reduceCtorEq, Tryz.f140, hs, ht]
    refine ends_for (terms s).length (by omega) (fun i (n : Nat) => mkSt [(3, .addr 0 0 0), (5, .own 1), (6, .own 2), (7, .int .i64 n), (8, .int .i64 i)] [.pto [.int .i64 q.kind, .str q.field, .str q.text, .int .i64 q.low, .int .i64 q.high, .sl (q.parts.map pv)], .slo 1 ((terms s).map .str), .slo 1 ((terms q.text).map .str)]) (fun i n => n = cntTo (runFits (terms s) (terms q.text)) i) 0 0 (by omega) rfl ?_ ?_
    · rintro i n hi hI hw ih
      obtain ⟨y, hy, hg, _⟩ := drop_get hi default
      have hc := cntTo_le (runFits (terms s) (terms q.text)) i
      have hw1 : IntKind.i64.wrap ((i : Int) + ((terms q.text).length : Int)) = ((i + (terms q.text).length : Nat) : Int) := by rw [wrap_in (by omega) (by omega)]; omega
      have hw2 : IntKind.i64.wrap ((n : Int) + 1) = ((n + 1 : Nat) : Int) := by rw [wrap_in (by omega) (by omega)]; omega
      by_cases hfit : i + (terms q.text).length ≤ (terms s).length
      · have hfit' : ((i + (terms q.text).length : Nat) : Int) ≤ ((terms s).length : Int) := by omega
        have hle2 : i ≤ i + (terms q.text).length := by omega
        have hsub : i + (terms q.text).length - i = (terms q.text).length := by omega
        have hln : (((terms s).drop i).take (terms q.text).length).length = (terms q.text).length := by rw [List.length_take, List.length_drop]; omega
        have hb1 : (((terms s).drop i).take (terms q.text).length).length ≤ 1099511627776 := by omega
        have hb2 : (terms q.text).length ≤ 1099511627776 := by omega
        have hone : cntTo (runAt (((terms s).drop i).take (terms q.text).length) (terms q.text)) ((((terms s).drop i).take (terms q.text).length).length + 1 - (terms q.text).length) = if runFits (terms s) (terms q.text) i = true then 1 else 0 := by
          rw [hln, show (terms q.text).length + 1 - (terms q.text).length = 1 by omega, cntTo, cntTo, runFits, decide_eq_true hfit, Bool.true_and, runAt, runAt, List.drop_zero, List.take_take, Nat.min_self, Nat.zero_add]
        have hdone : decide (0 < cntTo (runAt (((terms s).drop i).take (terms q.text).length) (terms q.text)) ((((terms s).drop i).take (terms q.text).length).length + 1 - (terms q.text).length)) = runFits (terms s) (terms q.text) i := by
          rw [hone]; cases runFits (terms s) (terms q.text) i <;> simp
        have hR := l6Run_R (((terms s).drop i).take (terms q.text).length) (terms q.text) hb1 hb2
        rw [hdone] at hR
        cases hr : runFits (terms s) (terms q.text) i with
        | true =>
          rw [hr] at hR
          simp only [go_sem, ↓reduceIte, Nat.reduceAdd, Nat.reduceSub, Nat.reduceEqDiff, Nat.reduceLT, Nat.reduceLeDiff, Nat.reduceMul, Int.reduceNeg, Int.reduceToNat, Int.reduceEq, Int.reduceLT, Int.reduceLE, reduceCtorEq, hi, hw, hw1, hw2, hg, hy, hk, hfit, hfit', hle2, hsub, hR]
          exact ih _ (by rw [cntTo, if_pos hr, hI])
        | false =>
          rw [hr] at hR
          simp only [go_sem, ↓reduceIte, Nat.reduceAdd, Nat.reduceSub, Nat.reduceEqDiff, Nat.reduceLT, Nat.reduceLeDiff, Nat.reduceMul, Int.reduceNeg, Int.reduceToNat, Int.reduceEq, Int.reduceLT, Int.reduceLE, reduceCtorEq, hi, hw, hw1, hw2, hg, hy, hk, hfit, hfit', hle2, hsub, hR]
          exact ih _ (by rw [cntTo, if_neg (by rw [hr]; simp), hI, Nat.add_zero])
      · have hfit' : ¬ ((i + (terms q.text).length : Nat) : Int) ≤ ((terms s).length : Int) := by omega
        have hr : runFits (terms s) (terms q.text) i = false := by rw [runFits, decide_eq_false hfit]; rfl
        simp only [go_sem, ↓reduceIte, Nat.reduceAdd, Nat.reduceSub, Nat.reduceEqDiff, Nat.reduceLT, Nat.reduceLeDiff, Nat.reduceMul, Int.reduceNeg, Int.reduceToNat, Int.reduceEq, Int.reduceLT, Int.reduceLE, reduceCtorEq, hi, hw, hw1, hg, hy, hk, hfit, hfit']
        exact ih _ (by rw [cntTo, if_neg (by rw [hr]; simp), hI, Nat.add_zero])
    · rintro n hI
      simp only [go_sem, ↓reduceIte, Nat.reduceAdd, Nat.reduceSub, Nat.reduceEqDiff, Nat.reduceLT, Nat.reduceLeDiff, Nat.reduceMul, Int.reduceNeg, Int.reduceToNat, Int.reduceEq, Int.reduceLT, Int.reduceLE, reduceCtorEq]
      rw [timesN, if_neg hk, hI, runFits_cnt hne]
theorem textOk_Q {dp : Nat} {q : Query} (h : okQ dp q = true) (hk : q.kind = 2 ∨ q.kind = 3 ∨ q.kind = 4) : q.kind = 4 ∨ terms q.text ≠ [] := by
  obtain ⟨e, _, hn, _⟩ := okQ_node h
  rcases hk with hk | hk | hk
  · right
    unfold nodeOk at hn
    split at hn
    · simp only [leafOk, hk] at hn
      simp [wordsOk, inB] at hn
      intro ht
      have hw : (words q.text) = [] := by simpa [terms] using ht
      have hc : cntW q.text = (splitB 32 q.text).length := by rw [cntW_eq, if_pos]; simp only [List.all_eq_true]; exact hn.1.1.2.1.1
      have : cntW q.text = 0 := by unfold cntW; rw [hw]; split <;> rfl
      have h1 := hn.1.1.2.1.2
      omega
    · simp [hk] at hn
  · right
    unfold nodeOk at hn
    split at hn
    · simp only [leafOk, hk] at hn
      simp [wordsOk, inB] at hn
      intro ht
      have hw : (words q.text) = [] := by simpa [terms] using ht
      have hc : cntW q.text = (splitB 32 q.text).length := by rw [cntW_eq, if_pos]; simp only [List.all_eq_true]; exact hn.1.2.1.1
      have : cntW q.text = 0 := by unfold cntW; rw [hw]; split <;> rfl
      have h1 := hn.1.2.1.2
      omega
    · simp [hk] at hn
  · exact .inl hk
theorem docOk_field {l : List Field} {d : Doc} (h : docOk l d = true) {c : Cell} (hc : c ∈ d.cells) : 0 ≤ fieldIx l c.name ∧ fieldIx l c.name < l.length ∧ l.getD (fieldIx l c.name).toNat default = fieldOf l c.name ∧ (fieldIx l c.name).toNat < l.length := by
  have hk : (fieldOf l c.name).kind ≠ 0 := by
    simp only [docOk, Bool.and_eq_true, List.all_eq_true] at h
    have := h.2 c hc
    intro h0
    simp [cellOk, h0] at this
  rcases fieldIx_cases l c.name with ⟨_, _, h3⟩ | ⟨f1, f2, f3, f4⟩
  · rw [h3] at hk; exact absurd rfl hk
  · exact ⟨by omega, by omega, f4, f2⟩
@[go_sem] theorem l7Weighed_R (l : List Field) (d : Doc) (q : Query) (hl : l.length ≤ 1099511627776) (hd : docOk l d = true) (ht : q.text.length ≤ 1099511627776) (hq : q.kind = 4 ∨ terms q.text ≠ []) : R S0 96 [.sl (l.map Field.pv), .agg [.str d.key, .sl (d.cells.map Cell.pv)], .agg [.int .i64 q.kind, .str q.field, .str q.text, .int .i64 q.low, .int .i64 q.high, .sl (q.parts.map pv)]] = some ⟨[none, none, none], .int .i64 (weightN l d q)⟩ := by
  obtain ⟨hfo, hcl, hcs⟩ := docOk_parts hd
  refine go96 rfl ?_; simp only [go_sem, ↓reduceIte, Nat.reduceAdd, Nat.reduceSub, Nat.reduceEqDiff, Nat.reduceLT, Nat.reduceLeDiff, Nat.reduceMul, Int.reduceNeg, Int.reduceToNat, Int.reduceEq, Int.reduceLT, Int.reduceLE, reduceCtorEq, Tryz.f96]
  refine ends_for d.cells.length (by omega) (fun i (n : Nat) => mkSt [(0, .sl (l.map Field.pv)), (4, .addr 0 0 0), (5, .addr 1 0 0), (7, .int .i64 n), (8, .int .i64 i)] [.pto [.str d.key, .sl (d.cells.map Cell.pv)], .pto [.int .i64 q.kind, .str q.field, .str q.text, .int .i64 q.low, .int .i64 q.high, .sl (q.parts.map pv)]]) (fun i n => n = ((d.cells.take i).map (cellW l q)).sum) 0 0 (by omega) (by simp) ?_ ?_
  · rintro i n hi hI hw ih
    obtain ⟨c, hx, hg, hdr⟩ := drop_get hi default
    have hcm := List.mem_of_getElem? hx
    obtain ⟨hc1, hc2⟩ := hcs c hcm
    have hc1' : c.text.length ≤ 1099511627776 := by omega
    have hc2' : c.name.length ≤ 1099511627776 := by omega
    obtain ⟨f1, f2, f3, f4⟩ := docOk_field hd hcm
    have f5 : ¬ fieldIx l c.name < 0 := by omega
    have htk : d.cells.take (i + 1) = d.cells.take i ++ [c] := by rw [List.take_add_one, hx]; rfl
    have hsum := sumW_le hd q (cs := d.cells.take i) (fun x hx => List.mem_of_mem_take hx)
    have hlt : (d.cells.take i).length ≤ 4 := by simp; omega
    have hcw := cellW_le hd q hcm
    have hnext : ((d.cells.take (i + 1)).map (cellW l q)).sum = n + cellW l q c := by rw [htk, List.map_append, List.sum_append, hI]; simp
    by_cases h1 : (fieldOf l c.name).kind = 1
    · obtain ⟨w1, w2⟩ := weight_in hfo h1
      have h1t := eq_true h1
      by_cases h2 : q.field = [] ∨ q.field = c.name
      · have hla : looksAt l q c = true := by rcases h2 with h2 | h2 <;> simp [looksAt, h1, h2]
        have hcw2 : cellW l q c = timesN q c.text * (fieldOf l c.name).weight.toNat := by rw [cellW, if_pos hla]
        have e0 : (fieldOf l c.name).weight * ((timesN q c.text : Nat) : Int) = ((cellW l q c : Nat) : Int) := by
          rw [hcw2, Int.natCast_mul, Int.toNat_of_nonneg (by omega), Int.mul_comm]
        have e1 : IntKind.i64.wrap ((cellW l q c : Nat) : Int) = ((cellW l q c : Nat) : Int) := wrap_in (by omega) (by omega)
        have e2 : IntKind.i64.wrap ((n : Int) + ((cellW l q c : Nat) : Int)) = ((n + cellW l q c : Nat) : Int) := by rw [wrap_in (by omega) (by omega)]; omega
        by_cases h3 : q.field = []
        · have h3t := eq_true h3
          simp only [go_sem, ↓reduceIte, Nat.reduceAdd, Nat.reduceSub, Nat.reduceEqDiff, Nat.reduceLT, Nat.reduceLeDiff, Nat.reduceMul, Int.reduceNeg, Int.reduceToNat, Int.reduceEq, Int.reduceLT, Int.reduceLE, reduceCtorEq, hi, hw, hg, hx, hl, hc1', hc2', ht, hq, f1, f2, f3, f4, f5, h1t, h3t, e0, e1, e2]
          exact ih _ hnext.symm
        · have h4t := eq_true (h2.resolve_left h3)
          simp only [go_sem, ↓reduceIte, Nat.reduceAdd, Nat.reduceSub, Nat.reduceEqDiff, Nat.reduceLT, Nat.reduceLeDiff, Nat.reduceMul, Int.reduceNeg, Int.reduceToNat, Int.reduceEq, Int.reduceLT, Int.reduceLE, reduceCtorEq, hi, hw, hg, hx, hl, hc1', hc2', ht, hq, f1, f2, f3, f4, f5, h1t, h3, h4t, e0, e1, e2]
          exact ih _ hnext.symm
      · have h3 : ¬ q.field = [] := fun e => h2 (.inl e)
        have h4 : ¬ q.field = c.name := fun e => h2 (.inr e)
        have hla : cellW l q c = 0 := by rw [cellW, if_neg]; simp [looksAt, h3, h4]
        simp only [go_sem, ↓reduceIte, Nat.reduceAdd, Nat.reduceSub, Nat.reduceEqDiff, Nat.reduceLT, Nat.reduceLeDiff, Nat.reduceMul, Int.reduceNeg, Int.reduceToNat, Int.reduceEq, Int.reduceLT, Int.reduceLE, reduceCtorEq, hi, hw, hg, hx, hl, hc1', hc2', ht, f1, f2, f3, f4, f5, h1t, h3, h4]
        exact ih _ (by rw [hnext, hla]; rfl)
    · have hla : cellW l q c = 0 := by rw [cellW, if_neg]; simp [looksAt, h1]
      simp only [go_sem, ↓reduceIte, Nat.reduceAdd, Nat.reduceSub, Nat.reduceEqDiff, Nat.reduceLT, Nat.reduceLeDiff, Nat.reduceMul, Int.reduceNeg, Int.reduceToNat, Int.reduceEq, Int.reduceLT, Int.reduceLE, reduceCtorEq, hi, hw, hg, hx, hl, hc1', hc2', ht, f1, f2, f3, f4, f5, h1]
      exact ih _ (by rw [hnext, hla]; rfl)
  · rintro n hI
    rw [List.take_length] at hI
    simp only [go_sem, ↓reduceIte, Nat.reduceAdd, Nat.reduceSub, Nat.reduceEqDiff, Nat.reduceLT, Nat.reduceLeDiff, Nat.reduceMul, Int.reduceNeg, Int.reduceToNat, Int.reduceEq, Int.reduceLT, Int.reduceLE, reduceCtorEq]
    rw [weightN, hI]
def findS (fl : List Field) (rows : List DRow) (q : Query) : List Int := (rows.filter fun r => meetsM fl r.doc q).map (·.id)
def RowsD (fl : List Field) (rows : List DRow) : Prop := rows.length ≤ 8 ∧ ∀ r ∈ rows, docOk fl r.doc = true
@[go_sem] theorem ints_snoc1 (l : List Int) (a : Int) : l.map (PV.int .i64) ++ [.int .i64 a] = (l ++ [a]).map (.int .i64) := ints_snoc l a
theorem findS_len (fl : List Field) (rows : List DRow) (q : Query) : (findS fl rows q).length ≤ rows.length := by
  rw [findS, List.length_map]; exact List.length_filter_le _ _
theorem l6Find_R (fl : List Field) (rows : List DRow) (ents : List Entry) (nx : Int) (q : Query) (hfl : FSm fl) (hr : RowsD fl rows) (hq : q.Sm) (dp : Nat) (hok : okQ dp q = true) : R S0 58 [.agg [.sl (fl.map Field.pv), .sl (rows.map DRow.pvF), .sl (ents.map Entry.pvF), .int .i64 nx], .agg [.int .i64 q.kind, .str q.field, .str q.text, .int .i64 q.low, .int .i64 q.high, .sl (q.parts.map pv)]] = some ⟨[none, none], .slo 1 ((findS fl rows q).map (.int .i64))⟩ := by
  obtain ⟨hl, hrs⟩ := id hr
  refine go58 rfl ?_; simp only [go_sem, ↓reduceIte, Nat.reduceAdd, Nat.reduceSub, Nat.reduceEqDiff, Nat.reduceLT, Nat.reduceLeDiff, Nat.reduceMul, Int.reduceNeg, Int.reduceToNat, Int.reduceEq, Int.reduceLT, Int.reduceLE, reduceCtorEq, Tryz.f58]
  refine ends_for rows.length (by omega) (fun i _ => mkSt [(2, .addr 0 0 0), (3, .addr 1 0 0), (5, .own 2), (6, .int .i64 i)] [.pto [.sl (fl.map Field.pv), .sl (rows.map DRow.pvF), .sl (ents.map Entry.pvF), .int .i64 nx], .pto [.int .i64 q.kind, .str q.field, .str q.text, .int .i64 q.low, .int .i64 q.high, .sl (q.parts.map pv)], .slo 1 ((findS fl (rows.take i) q).map (.int .i64))]) (fun _ _ => True) 0 () (by omega) trivial ?_ ?_
  · rintro i _ hi _ hw ih
    obtain ⟨r, hx, hg, _⟩ := drop_get hi default
    have hd := hrs r (List.mem_of_getElem? hx)
    have hds := (docOk_st hd).sm (by omega)
    have hm := specMeets_R6 fl r.doc hfl hds hd dp q hq hok
    have hle := findS_len fl (rows.take i) q
    have hle2 : (findS fl (rows.take i) q).length ≤ 8 := by simp only [List.length_take] at hle; omega
    have ih' := ih () trivial
    cases c : meetsM fl r.doc q with
    | true =>
      have e : findS fl (rows.take (i + 1)) q = findS fl (rows.take i) q ++ [r.id] := by rw [findS, List.take_add_one, hx, List.filter_append]; simp [c, findS]
      rw [c] at hm
      rw [e] at ih'
      simp only [go_sem, ↓reduceIte, Nat.reduceAdd, Nat.reduceSub, Nat.reduceEqDiff, Nat.reduceLT, Nat.reduceLeDiff, Nat.reduceMul, Int.reduceNeg, Int.reduceToNat, Int.reduceEq, Int.reduceLT, Int.reduceLE, reduceCtorEq, hi, hw, hg, hx, hm]
      exact ⟨by omega, ih'⟩
    | false =>
      have e : findS fl (rows.take (i + 1)) q = findS fl (rows.take i) q := by rw [findS, List.take_add_one, hx, List.filter_append]; simp [c, findS]
      rw [c] at hm
      rw [e] at ih'
      simp only [go_sem, ↓reduceIte, Nat.reduceAdd, Nat.reduceSub, Nat.reduceEqDiff, Nat.reduceLT, Nat.reduceLeDiff, Nat.reduceMul, Int.reduceNeg, Int.reduceToNat, Int.reduceEq, Int.reduceLT, Int.reduceLE, reduceCtorEq, hi, hw, hg, hx, hm]
      exact ih'
  · rintro _ _
    simp only [go_sem, ↓reduceIte, Nat.reduceAdd, Nat.reduceSub, Nat.reduceEqDiff, Nat.reduceLT, Nat.reduceLeDiff, Nat.reduceMul, Int.reduceNeg, Int.reduceToNat, Int.reduceEq, Int.reduceLT, Int.reduceLE, reduceCtorEq]
    rw [List.take_length]
end Go.Proofs.YtgnggcpcijcahaaGreatDoor.PVE
namespace Go.Proofs.YtgnggcpcijcahaaGreatDoor.PVE
open PV Query
theorem wrap_nat {n : Nat} (h : n ≤ 9223372036854775807) : IntKind.i64.wrap (n : Int) = n := wrap_in (by omega) (by omega)
def leafScore (fl : List Field) (rows : List DRow) (d : Doc) (q : Query) : Nat := if (findS fl rows q).length = 0 then 0 else weightN fl d q * (100 * rows.length / (findS fl rows q).length)
mutual
def scoreN (fl : List Field) (rows : List DRow) (d : Doc) : Query → Nat | .mk k f t lo hi p => if k = 7 ∨ k = 8 then scoreL fl rows d p else if k = 2 ∨ k = 3 ∨ k = 4 then leafScore fl rows d (.mk k f t lo hi p) else 0
def scoreL (fl : List Field) (rows : List DRow) (d : Doc) : List Query → Nat
  | [] => 0
  | q :: qs => scoreN fl rows d q + scoreL fl rows d qs
end
theorem scoreL_sum (fl : List Field) (rows : List DRow) (d : Doc) : ∀ p, scoreL fl rows d p = (p.map (scoreN fl rows d)).sum
  | [] => rfl
  | q :: p => by rw [scoreL, List.map_cons, List.sum_cons, scoreL_sum fl rows d p]
theorem scoreN_eq (fl : List Field) (rows : List DRow) (d : Doc) : ∀ q : Query, scoreN fl rows d q = if q.kind = 7 ∨ q.kind = 8 then (q.parts.map (scoreN fl rows d)).sum else if q.kind = 2 ∨ q.kind = 3 ∨ q.kind = 4 then leafScore fl rows d q else 0
  | .mk k f t lo hi p => by rw [scoreN, scoreL_sum]; rfl
theorem weightN_le {fl : List Field} {d : Doc} (h : docOk fl d = true) (q : Query) : weightN fl d q ≤ 2196 := by
  have := sumW_le h q (cs := d.cells) (fun c hc => hc)
  have := (docOk_parts h).2.1
  unfold weightN
  omega
theorem leafScore_le {fl : List Field} {rows : List DRow} {d : Doc} (h : docOk fl d = true) (hr : rows.length ≤ 8) (q : Query) : leafScore fl rows d q ≤ 1756800 := by
  unfold leafScore
  split
  · omega
  · have h1 := weightN_le h q
    have h2 : 100 * rows.length / (findS fl rows q).length ≤ 800 := Nat.le_trans (Nat.div_le_self _ _) (by omega)
    calc weightN fl d q * (100 * rows.length / (findS fl rows q).length) ≤ 2196 * 800 := Nat.mul_le_mul h1 h2
      _ = 1756800 := rfl
theorem parts_le {q : Query} (h : nodeOk q = true) : q.parts.length ≤ 4 := by
  unfold nodeOk at h
  split at h
  · rename_i hp; rw [hp]; simp
  · simp [inB] at h
    rcases h.1.1.1.1 with h | h
    · omega
    · rw [h.2]; omega
theorem sum_le {α : Type} {f : α → Nat} {k : Nat} : ∀ {l : List α}, (∀ x ∈ l, f x ≤ k) → (l.map f).sum ≤ k * l.length
  | [], _ => by simp
  | x :: l, h => by
    have h1 := h x (by simp)
    have h2 := sum_le (l := l) fun y hy => h y (by simp [hy])
    simp only [List.map_cons, List.sum_cons, List.length_cons, Nat.mul_succ]; omega
theorem scoreN_le {fl : List Field} {rows : List DRow} {d : Doc} (h : docOk fl d = true) (hr : rows.length ≤ 8) : ∀ (dp : Nat) (q : Query), okQ dp q = true → scoreN fl rows d q ≤ 1756800 * 4 ^ dp
  | 0, q, hq => by cases hq
  | dp + 1, q, hq => by
    simp only [okQ, Bool.and_eq_true, List.all_eq_true] at hq
    have hp := parts_le hq.1
    have h4 : 1 ≤ 4 ^ (dp + 1) := Nat.pos_of_ne_zero (by simp)
    rw [scoreN_eq]
    split
    · have hs := sum_le (l := q.parts) fun x hx => scoreN_le h hr dp x (hq.2 x hx)
      refine Nat.le_trans hs ?_
      rw [Nat.pow_succ, ← Nat.mul_assoc]
      exact Nat.mul_le_mul_left _ hp
    · split
      · have := leafScore_le h hr q
        calc leafScore fl rows d q ≤ 1756800 * 1 := by omega
          _ ≤ _ := Nat.mul_le_mul_left _ h4
      · omega
theorem l7Score_R (fl : List Field) (rows : List DRow) (ents : List Entry) (nx : Int) (d : Doc) (hfl : FSm fl) (hr : RowsD fl rows) (hd : docOk fl d = true) (dp : Nat) : dp ≤ 4 → ∀ q : Query, q.Sm → okQ dp q = true → R S0 46 [.agg [.sl (fl.map Field.pv), .sl (rows.map DRow.pvF), .sl (ents.map Entry.pvF), .int .i64 nx], .agg [.str d.key, .sl (d.cells.map Cell.pv)], .agg [.int .i64 q.kind, .str q.field, .str q.text, .int .i64 q.low, .int .i64 q.high, .sl (q.parts.map pv)]] = some ⟨[none, none, none], .int .i64 (scoreN fl rows d q)⟩ := by
  induction dp with
  | zero => intro _ q _ h; cases h
  | succ dp ih =>
    intro hdp q hq hok
    obtain ⟨hrl, _⟩ := id hr
    obtain ⟨hfl1, _⟩ := id hfl
    obtain ⟨_, hf, ht, hp, hs⟩ := id hq
    obtain ⟨e, he, hn, hps⟩ := okQ_node hok
    obtain rfl : dp = e := by omega
    have hpl := parts_le hn
    have hfin := scoreN_eq fl rows d q
    have h4 : 4 ^ dp ≤ 64 := Nat.pow_le_pow_right (n := 4) (by omega) (show dp ≤ 3 by omega)
    by_cases k78 : q.kind = 7 ∨ q.kind = 8
    · rw [if_pos k78] at hfin
      rw [hfin]
      have hpos : ∀ i, i ≤ q.parts.length → ((q.parts.take i).map (scoreN fl rows d)).sum ≤ 112435200 * 4 := fun i hi => by
        have := sum_le (l := q.parts.take i) (f := scoreN fl rows d) (k := 112435200) fun x hx => by
          have h1 := scoreN_le hd hrl dp x (hps x (List.mem_of_mem_take hx))
          exact Nat.le_trans h1 (Nat.mul_le_mul_left 1756800 h4)
        refine Nat.le_trans this (Nat.mul_le_mul_left _ ?_)
        simp; omega
      by_cases k7 : q.kind = 7
      · refine go46 rfl ?_; simp only [go_sem, ↓reduceIte, Nat.reduceAdd, Nat.reduceSub, Nat.reduceEqDiff, Nat.reduceLT, Nat.reduceLeDiff, Nat.reduceMul, Int.reduceNeg, Int.reduceToNat, Int.reduceEq, Int.reduceLT, Int.reduceLE, reduceCtorEq, Tryz.f46, k7]
        refine ends_for q.parts.length (by omega) (fun i (n : Nat) => mkSt [(3, .addr 0 0 0), (4, .addr 1 0 0), (5, .addr 2 0 0), (7, .int .i64 n), (8, .int .i64 i)] [.pto [.sl (fl.map Field.pv), .sl (rows.map DRow.pvF), .sl (ents.map Entry.pvF), .int .i64 nx], .pto [.str d.key, .sl (d.cells.map Cell.pv)], .pto [.int .i64 7, .str q.field, .str q.text, .int .i64 q.low, .int .i64 q.high, .sl (q.parts.map pv)]]) (fun i n => n = ((q.parts.take i).map (scoreN fl rows d)).sum) 0 0 (by omega) (by simp) ?_ ?_
        · rintro i n hi hI hw ihl
          obtain ⟨x, hx, hg, _⟩ := drop_get hi default
          have hxm := List.mem_of_getElem? hx
          have hS := ih (by omega) x (hs x hxm) (hps x hxm)
          have hb1 := hpos (i + 1) (by omega)
          have hnext : ((q.parts.take (i + 1)).map (scoreN fl rows d)).sum = n + scoreN fl rows d x := by rw [List.take_add_one, hx, List.map_append, List.sum_append, hI]; simp
          have hw2 : IntKind.i64.wrap ((n : Int) + ((scoreN fl rows d x : Nat) : Int)) = ((n + scoreN fl rows d x : Nat) : Int) := by rw [wrap_in (by omega) (by omega)]; omega
          simp only [go_sem, ↓reduceIte, Nat.reduceAdd, Nat.reduceSub, Nat.reduceEqDiff, Nat.reduceLT, Nat.reduceLeDiff, Nat.reduceMul, Int.reduceNeg, Int.reduceToNat, Int.reduceEq, Int.reduceLT, Int.reduceLE, reduceCtorEq, hi, hw, hg, hx, hS, hw2]
          exact ihl _ hnext.symm
        · rintro n hI
          rw [List.take_length] at hI
          simp only [go_sem, ↓reduceIte, Nat.reduceAdd, Nat.reduceSub, Nat.reduceEqDiff, Nat.reduceLT, Nat.reduceLeDiff, Nat.reduceMul, Int.reduceNeg, Int.reduceToNat, Int.reduceEq, Int.reduceLT, Int.reduceLE, reduceCtorEq]
          rw [hI]
      · have k8 := k78.resolve_left k7
        refine go46 rfl ?_; simp only [go_sem, ↓reduceIte, Nat.reduceAdd, Nat.reduceSub, Nat.reduceEqDiff, Nat.reduceLT, Nat.reduceLeDiff, Nat.reduceMul, Int.reduceNeg, Int.reduceToNat, Int.reduceEq, Int.reduceLT, Int.reduceLE, reduceCtorEq, Tryz.f46, k8]
        refine ends_for q.parts.length (by omega) (fun i (n : Nat) => mkSt [(3, .addr 0 0 0), (4, .addr 1 0 0), (5, .addr 2 0 0), (7, .int .i64 n), (8, .int .i64 i)] [.pto [.sl (fl.map Field.pv), .sl (rows.map DRow.pvF), .sl (ents.map Entry.pvF), .int .i64 nx], .pto [.str d.key, .sl (d.cells.map Cell.pv)], .pto [.int .i64 8, .str q.field, .str q.text, .int .i64 q.low, .int .i64 q.high, .sl (q.parts.map pv)]]) (fun i n => n = ((q.parts.take i).map (scoreN fl rows d)).sum) 0 0 (by omega) (by simp) ?_ ?_
        · rintro i n hi hI hw ihl
          obtain ⟨x, hx, hg, _⟩ := drop_get hi default
          have hxm := List.mem_of_getElem? hx
          have hS := ih (by omega) x (hs x hxm) (hps x hxm)
          have hb1 := hpos (i + 1) (by omega)
          have hnext : ((q.parts.take (i + 1)).map (scoreN fl rows d)).sum = n + scoreN fl rows d x := by rw [List.take_add_one, hx, List.map_append, List.sum_append, hI]; simp
          have hw2 : IntKind.i64.wrap ((n : Int) + ((scoreN fl rows d x : Nat) : Int)) = ((n + scoreN fl rows d x : Nat) : Int) := by rw [wrap_in (by omega) (by omega)]; omega
          simp only [go_sem, ↓reduceIte, Nat.reduceAdd, Nat.reduceSub, Nat.reduceEqDiff, Nat.reduceLT, Nat.reduceLeDiff, Nat.reduceMul, Int.reduceNeg, Int.reduceToNat, Int.reduceEq, Int.reduceLT, Int.reduceLE, reduceCtorEq, hi, hw, hg, hx, hS, hw2]
          exact ihl _ hnext.symm
        · rintro n hI
          rw [List.take_length] at hI
          simp only [go_sem, ↓reduceIte, Nat.reduceAdd, Nat.reduceSub, Nat.reduceEqDiff, Nat.reduceLT, Nat.reduceLeDiff, Nat.reduceMul, Int.reduceNeg, Int.reduceToNat, Int.reduceEq, Int.reduceLT, Int.reduceLE, reduceCtorEq]
          rw [hI]
    · have c7 : ¬ q.kind = 7 := fun e => k78 (.inl e)
      have c8 : ¬ q.kind = 8 := fun e => k78 (.inr e)
      rw [if_neg k78] at hfin
      by_cases k234 : q.kind = 2 ∨ q.kind = 3 ∨ q.kind = 4
      case neg =>
        rw [if_neg k234] at hfin
        have c2 : ¬ q.kind = 2 := fun e => k234 (.inl e)
        have c3 : ¬ q.kind = 3 := fun e => k234 (.inr (.inl e))
        have c4 : ¬ q.kind = 4 := fun e => k234 (.inr (.inr e))
        refine go46 rfl ?_; simp only [go_sem, ↓reduceIte, Nat.reduceAdd, Nat.reduceSub, Nat.reduceEqDiff, Nat.reduceLT, Nat.reduceLeDiff, Nat.reduceMul, Int.reduceNeg, Int.reduceToNat, Int.reduceEq, Int.reduceLT, Int.reduceLE, reduceCtorEq, Tryz.f46, c2, c3, c4, c7, c8]
        rw [hfin]; rfl
      rw [if_pos k234] at hfin
      rw [hfin]
      have hF := l6Find_R fl rows ents nx q hfl hr hq (dp + 1) hok
      have htx := textOk_Q hok k234
      have hlen := findS_len fl rows q
      have hwl := weightN_le hd q
      have hls := leafScore_le hd hrl q
      by_cases hz : (findS fl rows q).length = 0
      · have hz' : ((findS fl rows q).length : Int) = 0 := by omega
        have e : leafScore fl rows d q = 0 := by rw [leafScore, if_pos hz]
        rw [e]
        by_cases c2 : q.kind = 2
        · refine go46 rfl ?_; simp only [go_sem, ↓reduceIte, Nat.reduceAdd, Nat.reduceSub, Nat.reduceEqDiff, Nat.reduceLT, Nat.reduceLeDiff, Nat.reduceMul, Int.reduceNeg, Int.reduceToNat, Int.reduceEq, Int.reduceLT, Int.reduceLE, reduceCtorEq, Tryz.f46, c7, c8, eq_true c2, hF, hz']
        by_cases c3 : q.kind = 3
        · refine go46 rfl ?_; simp only [go_sem, ↓reduceIte, Nat.reduceAdd, Nat.reduceSub, Nat.reduceEqDiff, Nat.reduceLT, Nat.reduceLeDiff, Nat.reduceMul, Int.reduceNeg, Int.reduceToNat, Int.reduceEq, Int.reduceLT, Int.reduceLE, reduceCtorEq, Tryz.f46, c7, c8, c2, eq_true c3, hF, hz']
        have c4 : q.kind = 4 := by omega
        refine go46 rfl ?_; simp only [go_sem, ↓reduceIte, Nat.reduceAdd, Nat.reduceSub, Nat.reduceEqDiff, Nat.reduceLT, Nat.reduceLeDiff, Nat.reduceMul, Int.reduceNeg, Int.reduceToNat, Int.reduceEq, Int.reduceLT, Int.reduceLE, reduceCtorEq, Tryz.f46, c7, c8, c2, c3, eq_true c4, hF, hz']
      · have hz' : ¬ ((findS fl rows q).length : Int) = 0 := by omega
        have e : leafScore fl rows d q = weightN fl d q * (100 * rows.length / (findS fl rows q).length) := by rw [leafScore, if_neg hz]
        have e1 : IntKind.i64.wrap (100 * (rows.length : Int)) = ((100 * rows.length : Nat) : Int) := by rw [wrap_in (by omega) (by omega)]; omega
        have e2 : ((100 * rows.length : Nat) : Int).tdiv ((findS fl rows q).length : Int) = ((100 * rows.length / (findS fl rows q).length : Nat) : Int) := (Int.ofNat_tdiv _ _).symm
        have hdl : 100 * rows.length / (findS fl rows q).length ≤ 800 := Nat.le_trans (Nat.div_le_self _ _) (by omega)
        have e3 : IntKind.i64.wrap ((100 * rows.length / (findS fl rows q).length : Nat) : Int) = ((100 * rows.length / (findS fl rows q).length : Nat) : Int) := wrap_nat (Nat.le_trans hdl (by omega))
        have hW := l7Weighed_R fl d q hfl1 hd ht htx
        have e4 : ((weightN fl d q : Nat) : Int) * ((100 * rows.length / (findS fl rows q).length : Nat) : Int) = ((leafScore fl rows d q : Nat) : Int) := by rw [e, Int.natCast_mul]
        have e5 : IntKind.i64.wrap ((leafScore fl rows d q : Nat) : Int) = ((leafScore fl rows d q : Nat) : Int) := wrap_nat (Nat.le_trans hls (by omega))
        by_cases c2 : q.kind = 2
        · refine go46 rfl ?_; simp only [go_sem, ↓reduceIte, Nat.reduceAdd, Nat.reduceSub, Nat.reduceEqDiff, Nat.reduceLT, Nat.reduceLeDiff, Nat.reduceMul, Int.reduceNeg, Int.reduceToNat, Int.reduceEq, Int.reduceLT, Int.reduceLE, reduceCtorEq, Tryz.f46, c7, c8, eq_true c2, hF, hz', hz, hW, e1, e2, e3, e4, e5]
        by_cases c3 : q.kind = 3
        · refine go46 rfl ?_; simp only [go_sem, ↓reduceIte, Nat.reduceAdd, Nat.reduceSub, Nat.reduceEqDiff, Nat.reduceLT, Nat.reduceLeDiff, Nat.reduceMul, Int.reduceNeg, Int.reduceToNat, Int.reduceEq, Int.reduceLT, Int.reduceLE, reduceCtorEq, Tryz.f46, c7, c8, c2, eq_true c3, hF, hz', hz, hW, e1, e2, e3, e4, e5]
        have c4 : q.kind = 4 := by omega
        refine go46 rfl ?_; simp only [go_sem, ↓reduceIte, Nat.reduceAdd, Nat.reduceSub, Nat.reduceEqDiff, Nat.reduceLT, Nat.reduceLeDiff, Nat.reduceMul, Int.reduceNeg, Int.reduceToNat, Int.reduceEq, Int.reduceLT, Int.reduceLE, reduceCtorEq, Tryz.f46, c7, c8, c2, c3, eq_true c4, hF, hz', hz, hW, e1, e2, e3, e4, e5]
structure Hit where
  doc : Int
  key : Str
  score : Int
  deriving Inhabited, DecidableEq
def Hit.pv (h : Hit) : PV := .agg [.int .i64 h.doc, .str h.key, .int .i64 h.score]
instance : Enc Hit.pv 3 := ⟨fun _ => by simp only [Hit.pv, PV.free, PV.freeL, and_self], fun _ => by simp only [Hit.pv, PV.okr, PV.okrL, and_self], fun _ => rfl⟩
instance : EncF Hit.pv := ⟨fun _ => rfl⟩
instance : EncN Hit.pv := ⟨fun _ => by simp only [Hit.pv, PV.noR, PV.noRL, and_self]⟩
instance : EncS Hit.pv Hit.pv := ⟨fun _ => rfl⟩
@[go_sem] theorem Hit.cells (h : Hit) : h.pv.cells = [.int .i64 h.doc, .str h.key, .int .i64 h.score] := rfl
@[go_sem] theorem Hit.mid (l m : List Hit) (a : Int) (k : Str) (s : Int) : l.map Hit.pv ++ .agg [.int .i64 a, .str k, .int .i64 s] :: m.map Hit.pv = (l ++ Hit.mk a k s :: m).map Hit.pv := by simp [Hit.pv]
def ahead (h x : Hit) : Bool := decide (h.score < x.score) || (decide (x.score = h.score) && Op.bytesLess x.key h.key)
def putK (l : List Hit) (h : Hit) : Nat := (l.takeWhile (ahead h)).length
def putHit (l : List Hit) (h : Hit) : List Hit := l.take (putK l h) ++ h :: l.drop (putK l h)
def rankTo (fl : List Field) (rows : List DRow) (q : Query) : Nat → List Hit
  | 0 => []
  | k + 1 => if meetsM fl (rows.getD k default).doc q = true then putHit (rankTo fl rows q k) ⟨(rows.getD k default).id, (rows.getD k default).doc.key, scoreN fl rows (rows.getD k default).doc q⟩ else rankTo fl rows q k
def askOk (fl : List Field) (rows : List DRow) (ents : List Entry) (nx : Int) (q : Query) : Bool := indexOkS fl rows ents nx && (fieldsOk fl && okQ 4 q && fitsI fl q)
def rankS (fl : List Field) (rows : List DRow) (ents : List Entry) (nx : Int) (q : Query) : List Hit := if askOk fl rows ents nx q = true then rankTo fl rows q rows.length else []
theorem indexOk_rows {fl : List Field} {rows : List DRow} {ents : List Entry} {nx : Int} (h : indexOkS fl rows ents nx = true) : RowsD fl rows := by
  simp only [indexOkS, Bool.and_eq_true, decide_eq_true_eq] at h
  refine ⟨h.2.1.1.2, fun r hr => ?_⟩
  obtain ⟨i, hi, rfl⟩ := List.getElem_of_mem hr
  have := rowsOkTo_all.1 h.1 i hi
  simp only [rowOkS, Bool.and_eq_true, List.getD_eq_getElem?_getD, List.getElem?_eq_getElem hi, Option.getD_some] at this
  exact this.1.1.1
end Go.Proofs.YtgnggcpcijcahaaGreatDoor.PVE
