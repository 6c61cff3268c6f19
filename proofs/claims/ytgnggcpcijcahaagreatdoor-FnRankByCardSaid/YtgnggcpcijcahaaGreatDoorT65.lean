/- Documents by a number: plain laws of their order. -/
import Derived.Test.YtgnggcpcijcahaaGreatDoorT63
set_option linter.unusedVariables false
set_option linter.unusedSimpArgs false
set_option maxRecDepth 100000
namespace Go.Proofs.YtgnggcpcijcahaaGreatDoor.PVE
open PV Query
open Go.Sort
def sgH (down : Bool) (h : Hit) : Hit := ⟨h.doc, h.key, if down = true then h.score else -h.score⟩
theorem hk_sg (down : Bool) (h : Hit) : hk (sgH down h) = sgk down (hk h) := rfl
theorem sgH_inv (down : Bool) (h : Hit) : sgH down (sgH down h) = h := by
  cases down <;> simp [sgH]
theorem sgk_inj {down : Bool} {a b : Int × Str} (h : sgk down a = sgk down b) : a = b := by
  obtain ⟨a1, a2⟩ := a
  obtain ⟨b1, b2⟩ := b
  simp only [sgk, Prod.mk.injEq] at h ⊢
  refine ⟨?_, h.2⟩
  have := h.1
  cases down <;> simp at this <;> omega
theorem ltD_swo (down : Bool) : SWO (ltD down) where
  irrefl x := hitLt_irr _
  trans x y z h1 h2 := hitLt_trans h1 h2
  ntrans x y z h1 h2 := hitLt_swo.ntrans _ _ _ h1 h2
theorem ltD_tri (down : Bool) (a b : Int × Str) : ltD down a b = true ∨ a = b ∨ ltD down b a = true := by
  rcases hitLt_tri (sgk down a) (sgk down b) with h | h | h
  · exact .inl h
  · exact .inr (.inl (sgk_inj h))
  · exact .inr (.inr h)
theorem sortBy_unique {κ : Type} {lt : κ → κ → Bool} {kp : PV → κ} (hO : SWO lt) {es m : List PV} (hd : es.Pairwise fun a b => lt (kp a) (kp b) = true ∨ lt (kp b) (kp a) = true) (hp : m.Perm es) (hs : m.Pairwise fun a b => lt (kp a) (kp b) = true) : sortBy lt kp es = m :=
  sorted_eq (r := fun a b => lt (kp a) (kp b) = true) (fun a h => by rw [hO.irrefl] at h; cases h) (fun a b h1 h2 => by have := hO.trans _ _ _ h1 h2; rw [hO.irrefl] at this; cases this) ((sortBy_perm es).trans hp.symm) (sortBy_sorted hO es hd) hs
def sortD (down : Bool) (l : List Hit) : List Hit := (sortH (l.map (sgH down))).map (sgH down)
theorem sortD_perm (down : Bool) (l : List Hit) : (sortD down l).Perm l := by
  have h := (sortH_perm (l.map (sgH down))).map (sgH down)
  rw [List.map_map] at h
  have e : (sgH down ∘ sgH down) = id := funext fun h => sgH_inv down h
  rw [e, List.map_id] at h
  exact h
theorem sg_ne {down : Bool} {l : List Hit} (h : l.Pairwise fun a b => hk a ≠ hk b) : (l.map (sgH down)).Pairwise fun a b => hk a ≠ hk b := by
  rw [List.pairwise_map]
  exact h.imp fun {a b} h hc => h (by rw [hk_sg, hk_sg] at hc; exact sgk_inj hc)
theorem sortD_sorted {down : Bool} {l : List Hit} (h : l.Pairwise fun a b => hk a ≠ hk b) : (sortD down l).Pairwise fun a b => ltD down (hk a) (hk b) = true := by
  rw [sortD, List.pairwise_map]
  refine (sortH_sorted (sg_ne h)).imp fun {a b} hab => ?_
  rw [hk_sg, hk_sg, ltD]
  have e : ∀ p, sgk down (sgk down p) = p := fun p => by cases down <;> simp [sgk]
  rw [e, e]; exact hab
theorem sortBy_D {down : Bool} {l : List Hit} (h : l.Pairwise fun a b => hk a ≠ hk b) : sortBy (ltD down) hitKey (l.map Hit.pv) = (sortD down l).map Hit.pv := by
  refine sortBy_unique (ltD_swo down) ?_ ((sortD_perm down l).map _) ?_
  · rw [List.pairwise_map]
    exact h.imp fun {a b} hab => by
      rw [hitKey_pv, hitKey_pv]
      rcases ltD_tri down (hk a) (hk b) with k | k | k
      · exact .inl k
      · exact absurd k hab
      · exact .inr k
  · rw [List.pairwise_map]
    exact sortD_sorted h
theorem ltK_swo : SWO ltK where
  irrefl x := by
    cases h : ltK x x with
    | false => rfl
    | true => rw [ltK, bl_def, decide_eq_true_eq] at h; exact absurd h (List.lt_irrefl _)
  trans x y z h1 h2 := by
    rw [ltK, bl_def, decide_eq_true_eq] at *
    exact List.lt_trans h1 h2
  ntrans x y z h1 h2 := by
    rw [ltK, bl_def, decide_eq_false_iff_not] at *
    intro h
    rcases sLt_tri x.2 y.2 with k | k | k
    · exact h1 k
    · rw [k] at h; exact h2 h
    · exact h2 (List.lt_trans k h)
theorem sortBy_K {l : List Hit} (h0 : ∀ h ∈ l, h.score = 0) (h : l.Pairwise fun a b => hk a ≠ hk b) : sortBy ltK hitKey (l.map Hit.pv) = (sortH l).map Hit.pv := by
  refine sortBy_unique ltK_swo ?_ ((sortH_perm l).map _) ?_
  · rw [List.pairwise_map]
    refine List.Pairwise.imp_of_mem (fun {a b} ha hb hab => ?_) h
    rw [hitKey_pv, hitKey_pv, ltK, ltK, bl_def, bl_def, decide_eq_true_eq, decide_eq_true_eq]
    rcases sLt_tri (hk a).2 (hk b).2 with k | k | k
    · exact .inl k
    · exact absurd (Prod.ext (by show a.score = b.score; rw [h0 a ha, h0 b hb]) k) hab
    · exact .inr k
  · rw [List.pairwise_map]
    refine List.Pairwise.imp_of_mem (fun {a b} ha hb hab => ?_) (sortH_sorted h)
    have ha := h0 a ((sortH_perm l).mem_iff.1 ha)
    have hb := h0 b ((sortH_perm l).mem_iff.1 hb)
    rw [hitKey_pv, hitKey_pv, ltK, bl_def, decide_eq_true_eq]
    rw [hitLt_iff] at hab
    rcases hab with k | k
    · simp only [Go.Proofs.YtgnggcpcijcahaaGreatDoor.PVE.hk, ha, hb] at k; omega
    · exact k.2
def hitN (fl : List Field) (f : Str) (r : DRow) : Hit := ⟨r.id, r.doc.key, (numDoc fl r.doc f).1⟩
def hasN (fl : List Field) (f : Str) (r : DRow) : Bool := (numDoc fl r.doc f).2
def hitZ (r : DRow) : Hit := ⟨r.id, r.doc.key, 0⟩
def withN (fl : List Field) (f : Str) (F : List DRow) : List Hit := (F.filter (hasN fl f)).map (hitN fl f)
def withZ (fl : List Field) (f : Str) (F : List DRow) : List Hit := (F.filter fun r => !hasN fl f r).map hitZ
def rankByS (fl : List Field) (rows : List DRow) (ents : List Entry) (nx : Int) (q : Query) (f : Str) (down : Bool) : List Hit :=
  if askOk fl rows ents nx q = true ∧ (fieldOf fl f).kind = 2 then sortD down (withN fl f (rows.filter fun r => meetsM fl r.doc q)) ++ sortH (withZ fl f (rows.filter fun r => meetsM fl r.doc q)) else []
theorem hits_ne {F : List DRow} {p : DRow → Bool} {g : DRow → Hit} (hg : ∀ r, (g r).key = r.doc.key) (hp : F.Pairwise (fun a b => a.doc.key ≠ b.doc.key)) : ((F.filter p).map g).Pairwise (fun a b => hk a ≠ hk b) := by
  rw [List.pairwise_map]
  refine (hp.sublist List.filter_sublist).imp fun {a b} h hc => h ?_
  have := congrArg Prod.snd hc
  simp only [Go.Proofs.YtgnggcpcijcahaaGreatDoor.PVE.hk, hg] at this
  exact this
theorem rankByS_perm (fl : List Field) (rows : List DRow) (ents : List Entry) (nx : Int) (q : Query) (f : Str) (d1 d2 : Bool) : (rankByS fl rows ents nx q f d1).Perm (rankByS fl rows ents nx q f d2) := by
  unfold rankByS
  split
  · exact ((sortD_perm _ _).trans (sortD_perm _ _).symm).append (List.Perm.refl _)
  · exact List.Perm.refl _
end Go.Proofs.YtgnggcpcijcahaaGreatDoor.PVE
