/- slices.SortFunc at structs, as a contract over pure values: the elements sorted by a key that parts them all. -/
import Derived.Test.YtmanllfmgghadaaGreatDoorL2
import Derived.Shelf.SlSortCmp.WholeK
import Derived.Shelf.SlSortCmp.NoneTotal
set_option linter.unusedVariables false
set_option linter.unusedSimpArgs false
set_option linter.unusedSectionVars false
namespace Go.Proofs.YtmanllfmgghadaaGreatDoor.PVE
open PV
open Go.RowKit Go.Lib Go.Sort Go.Shelf
def insBy {κ : Type} (lt : κ → κ → Bool) (kp : PV → κ) (e : PV) : List PV → List PV
  | [] => [e]
  | x :: l => if lt (kp e) (kp x) = true then e :: x :: l else x :: insBy lt kp e l
def sortBy {κ : Type} (lt : κ → κ → Bool) (kp : PV → κ) : List PV → List PV
  | [] => []
  | e :: l => insBy lt kp e (sortBy lt kp l)
section
variable {κ : Type} {lt : κ → κ → Bool} {kp : PV → κ}
theorem insBy_perm (e : PV) : ∀ l, (insBy lt kp e l).Perm (e :: l)
  | [] => .rfl
  | x :: l => by
    rw [insBy]
    split
    · exact .rfl
    · exact ((insBy_perm e l).cons x).trans (.swap e x l)
theorem sortBy_perm : ∀ l : List PV, (sortBy lt kp l).Perm l
  | [] => .rfl
  | e :: l => (insBy_perm e _).trans ((sortBy_perm l).cons e)
theorem insBy_sorted (hO : SWO lt) (e : PV) : ∀ l : List PV, l.Pairwise (fun a b => lt (kp a) (kp b) = true) → (∀ x ∈ l, lt (kp e) (kp x) = true ∨ lt (kp x) (kp e) = true) → (insBy lt kp e l).Pairwise (fun a b => lt (kp a) (kp b) = true)
  | [], _, _ => by simp [insBy]
  | x :: l, h, hc => by
    rw [List.pairwise_cons] at h
    rw [insBy]
    split
    · rename_i hx
      refine List.pairwise_cons.2 ⟨fun y hy => ?_, List.pairwise_cons.2 h⟩
      rcases List.mem_cons.1 hy with rfl | hy
      · exact hx
      · exact hO.trans _ _ _ hx (h.1 y hy)
    · rename_i hx
      refine List.pairwise_cons.2 ⟨fun y hy => ?_, insBy_sorted hO e l h.2 fun y hy => hc y (by simp [hy])⟩
      have hy' := (insBy_perm e l).mem_iff.1 hy
      rcases List.mem_cons.1 hy' with rfl | hy'
      · exact (hc x (by simp)).resolve_left hx
      · exact h.1 y hy'
theorem sortBy_sorted (hO : SWO lt) : ∀ l : List PV, l.Pairwise (fun a b => lt (kp a) (kp b) = true ∨ lt (kp b) (kp a) = true) → (sortBy lt kp l).Pairwise (fun a b => lt (kp a) (kp b) = true)
  | [], _ => by simp [sortBy]
  | e :: l, h => by
    rw [List.pairwise_cons] at h
    exact insBy_sorted hO e _ (sortBy_sorted hO l h.2) fun x hx => h.1 x ((sortBy_perm l).mem_iff.1 hx)
theorem sorted_eq {α : Type} {r : α → α → Prop} (hir : ∀ a, ¬ r a a) (has : ∀ a b, r a b → ¬ r b a) : ∀ {l m : List α}, l.Perm m → l.Pairwise r → m.Pairwise r → l = m
  | [], m, h, _, _ => (List.Perm.nil_eq h)
  | a :: l, [], h, _, _ => by have := h.length_eq; simp at this
  | a :: l, b :: m, h, hl, hm => by
    have e : a = b := by
      rw [List.pairwise_cons] at hl hm
      have h1 := h.mem_iff.1 (List.mem_cons_self (a := a) (l := l))
      have h2 := h.mem_iff.2 (List.mem_cons_self (a := b) (l := m))
      rcases List.mem_cons.1 h1 with h1 | h1
      · exact h1
      rcases List.mem_cons.1 h2 with h2 | h2
      · exact h2.symm
      exact absurd (hl.1 b h2) (has _ _ (hm.1 a h1))
    subst e
    rw [sorted_eq hir has (List.Perm.cons_inv h) (List.pairwise_cons.1 hl).2 (List.pairwise_cons.1 hm).2]
end
theorem perm_map_inv {α β : Type} {f : α → β} {l' m : List β} (h : l'.Perm m) : ∀ T : List α, m = T.map f → ∃ T' : List α, T'.Perm T ∧ l' = T'.map f := by
  induction h with
  | nil => intro T hT; exact ⟨[], by cases T with | nil => exact .rfl | cons a T => simp at hT, rfl⟩
  | cons x _ ih =>
    intro T hT
    cases T with
    | nil => simp at hT
    | cons t T =>
      simp only [List.map_cons, List.cons.injEq] at hT
      obtain ⟨T', h1, h2⟩ := ih T hT.2
      exact ⟨t :: T', h1.cons t, by rw [List.map_cons, ← h2, hT.1]⟩
  | swap x y l =>
    intro T hT
    cases T with
    | nil => simp at hT
    | cons t T =>
      cases T with
      | nil => simp at hT
      | cons u T =>
        simp only [List.map_cons, List.cons.injEq] at hT
        obtain ⟨rfl, rfl, rfl⟩ := hT
        exact ⟨u :: t :: T, .swap _ _ _, rfl⟩
  | trans _ _ ih1 ih2 =>
    intro T hT
    obtain ⟨T1, h1, h2⟩ := ih2 T hT
    obtain ⟨T2, h3, h4⟩ := ih1 T1 h2
    exact ⟨T2, h3.trans h1, h4⟩
section
variable {α : Type} [Inhabited α] {enc : α → List Value} {k : Nat}
theorem flat_len (hk : ∀ x, (enc x).length = k) : ∀ l : List α, (l.flatMap enc).length = l.length * k
  | [] => by simp
  | x :: l => by rw [List.flatMap_cons, List.length_append, hk, flat_len hk l, List.length_cons, Nat.succ_mul]; omega
theorem flat_get (hk : ∀ x, (enc x).length = k) (h0 : 0 < k) : ∀ (l : List α) (j : Nat), j < l.length * k → (l.flatMap enc)[j]? = some ((enc l[j / k]!)[j % k]!)
  | [], j, h => by simp at h
  | x :: l, j, h => by
    rw [List.flatMap_cons]
    by_cases hj : j < k
    · rw [List.getElem?_append_left (by rw [hk]; exact hj), Nat.div_eq_of_lt hj, Nat.mod_eq_of_lt hj]
      have hl : j < (enc x).length := by rw [hk]; exact hj
      simp [List.getElem?_eq_getElem hl, getElem!_pos (enc x) j hl]
    · have hj' : k ≤ j := by omega
      rw [List.getElem?_append_right (by rw [hk]; exact hj'), hk]
      have hlt : j - k < l.length * k := by rw [List.length_cons, Nat.succ_mul] at h; omega
      rw [flat_get hk h0 l (j - k) hlt]
      have e1 : j / k = (j - k) / k + 1 := by rw [Nat.div_eq_sub_div h0 hj']
      have e2 : j % k = (j - k) % k := Nat.mod_eq_sub_mod hj'
      rw [e1, e2]
      rfl
theorem flatK_list (hk : ∀ x, (enc x).length = k) (h0 : 0 < k) (l : List α) : (flatK enc k l.toArray).toList = l.flatMap enc := by
  apply List.ext_getElem?
  intro j
  by_cases hj : j < l.length * k
  · rw [flat_get hk h0 l j hj, Array.getElem?_toList]
    have hs : j < (flatK enc k l.toArray).size := by simpa using hj
    rw [Array.getElem?_eq_getElem hs]
    have := get_flatK enc k l.toArray j (by simpa using hj)
    rw [getElem!_pos _ j hs] at this
    rw [this]
    simp
  · rw [List.getElem?_eq_none (by simp; omega), List.getElem?_eq_none (by rw [flat_len hk]; omega)]
end
theorem es_told {α κ : Type} {w : World} {R : Nat → Prop} {σ : Nat → Option Hd} {k : Nat} {enc : α → List Value} {key : α → κ} {kp : PV → κ} : ∀ {es : List PV} {us : List Value} {fp : List Nat},
    (∀ e ∈ es, ∀ us fp, V w R σ e (.agg us.toArray) fp → (∀ u ∈ us, u.oneCell' = true) → us.length = k → ∃ x : α, enc x = us ∧ key x = kp e) → (∀ e ∈ es, ∃ cs, e = .agg cs) → Es w R σ k es us fp →
    ∃ T : List (PV × α × List Nat), T.map (·.1) = es ∧ us = (T.map (·.2.1)).flatMap enc ∧ fp = T.flatMap (·.2.2) ∧ ∀ t ∈ T, key t.2.1 = kp t.1 ∧ V w R σ t.1 (.agg (enc t.2.1).toArray) t.2.2 ∧ t.1 ≠ .undef ∧ (enc t.2.1).length = k ∧ ∀ u ∈ enc t.2.1, u.oneCell' = true
  | [], us, fp, _, _, h => by
    simp only [Es] at h
    obtain ⟨rfl, rfl⟩ := h
    exact ⟨[], rfl, rfl, rfl, by simp⟩
  | e :: es, us, fp, hd, ha, h => by
    simp only [Es] at h
    obtain ⟨v, us', f1, f2, rfl, hs, ho, hu, hv, hr, rfl⟩ := h
    obtain ⟨T, rfl, rfl, rfl, h4⟩ := es_told (fun e he => hd e (by simp [he])) (fun e he => ha e (by simp [he])) hr
    obtain ⟨cs, rfl⟩ := ha e (by simp)
    have hv0 := hv
    simp only [V] at hv0
    obtain ⟨vs, rfl, _⟩ := hv0
    have hcells : (Value.agg vs.toArray).cells.toList = vs := by simp [Value.cells]
    have ho' : ∀ u ∈ vs, u.oneCell' = true := fun u hu => ho u (by rw [← Array.mem_toList_iff, hcells]; exact hu)
    have hlen : vs.length = k := by rw [← hs, ← Array.length_toList, hcells]
    obtain ⟨x, hx1, hx2⟩ := hd _ (by simp) vs f1 hv ho' hlen
    refine ⟨(.agg cs, x, f1) :: T, rfl, by rw [hcells, List.map_cons, List.flatMap_cons, hx1], by simp, fun t ht => ?_⟩
    rcases List.mem_cons.1 ht with rfl | ht
    · simp only [hx1]
      exact ⟨hx2, hv, hu, hlen, ho'⟩
    · exact h4 t ht
theorem es_mk {α κ : Type} {w : World} {R : Nat → Prop} {σ : Nat → Option Hd} {k : Nat} {enc : α → List Value} : ∀ T : List (PV × α × List Nat), (∀ t ∈ T, V w R σ t.1 (.agg (enc t.2.1).toArray) t.2.2 ∧ t.1 ≠ .undef ∧ (enc t.2.1).length = k ∧ ∀ u ∈ enc t.2.1, u.oneCell' = true) →
    Es w R σ k (T.map (·.1)) ((T.map (·.2.1)).flatMap enc) (T.flatMap (·.2.2))
  | [], _ => by simp [Es]
  | t :: T, h => by
    obtain ⟨h1, h2, h3, h4⟩ := h t (by simp)
    simp only [List.map_cons, List.flatMap_cons, Es]
    refine ⟨.agg (enc t.2.1).toArray, _, t.2.2, _, by simp [Value.cells], by simpa [Value.cells] using h3, fun u hu => h4 u (by simpa [Value.cells] using hu), h2, h1, es_mk (κ := κ) T fun s hs => h s (by simp [hs]), rfl⟩
theorem heap_putG {α : Type} [Inhabited α] {enc : α → Value} {w : World} {n g : Nat} {d : Array α} {os : Array Obj} {cur : Array Value} {e : TypeId} {fr : Nat × Nat} (h : w.heap[g]? = some (.cells cur e fr)) :
    (grow (putRow enc (Sort.ahead w n) g 0 d) os).heap[g]? = some (.cells («Sort».putCells enc 0 d cur) e fr) := by
  have hg : g < w.heap.size := (Array.getElem?_eq_some_iff.1 h).1
  show ((w.heap.modify g (onCells («Sort».putCells enc 0 d))) ++ os)[g]? = _
  rw [Array.getElem?_append_left (by simpa using hg), Array.getElem?_modify, if_pos rfl, h]
  rfl
theorem heap_putG_other {α : Type} [Inhabited α] {enc : α → Value} {w : World} {n g b : Nat} {d : Array α} {os : Array Obj} (hb : b < w.heap.size) (h : b ≠ g) :
    (grow (putRow enc (Sort.ahead w n) g 0 d) os).heap[b]? = w.heap[b]? := by
  show ((w.heap.modify g (onCells («Sort».putCells enc 0 d))) ++ os)[b]? = _
  rw [Array.getElem?_append_left (by simpa using hb), Array.getElem?_modify, if_neg (fun e => h e.symm)]
theorem heap_putG_size {α : Type} [Inhabited α] {enc : α → Value} {w : World} {n g : Nat} {d : Array α} {os : Array Obj} : (grow (putRow enc (Sort.ahead w n) g 0 d) os).heap.size = w.heap.size + os.size := by
  show ((w.heap.modify g (onCells («Sort».putCells enc 0 d))) ++ os).size = _
  simp
theorem put_takeG {d : Array Value} {cur : Array Value} (h : d.size ≤ cur.size) : («Sort».putCells id 0 d cur).toList.take d.size = d.toList := by
  apply List.ext_getElem?
  intro i
  by_cases hi : i < d.size
  · have h2 : i < cur.size := by omega
    rw [List.getElem?_take_of_lt hi, Array.getElem?_toList, «Sort».putCells, Array.getElem?_mapIdx, Array.getElem?_eq_getElem h2, Array.getElem?_toList, Array.getElem?_eq_getElem hi]
    simp [hi]
  · rw [List.getElem?_eq_none (by simp; omega), List.getElem?_eq_none (by simp; omega)]
theorem sortFunc_calls {P : Program} {G : Nat → Option (List PV)} {f g k : Nat} {ρ : Ren} (L : SlLaysF0.n6 P ρ) (hf : ρ.f 6 = f) (aE : ∀ w, (isAgg (ρ.t 24)).run P w = .ok true w) (zE : ∀ w, (Go.sizeOf (ρ.t 24)).run P w = .ok k w) (hfn : FnOk P f)
    (eg : ∀ args w, (callFunc g args).run P w = .ok (.enter g args) w) {κ α : Type} [Inhabited α] {lt : κ → κ → Bool} (hO : SWO lt) {enc : α → List Value} {key : α → κ} {cf : κ → κ → Int} (hk : ∀ x, (enc x).length = k) (hk0 : 0 < k) (h1 : ∀ x, ∀ v ∈ enc x, v.oneCell' = true)
    (hcf : ∀ a b, lt a b = decide (cf a b < 0)) (hcmp : ∀ (x y : α) (W : World), Calls P g #[.agg (enc x).toArray, .agg (enc y).toArray] W fun e w' => e = .returned (.int .i64 (cf (key x) (key y))) ∧ ∃ q os', w' = grow (W.drewN q) os')
    {kp : PV → κ} {es : List PV} (ha : ∀ e ∈ es, ∃ cs, e = .agg cs) (hdec : ∀ e ∈ es, ∀ w R us fp, V w R (fun _ => none) e (.agg us.toArray) fp → (∀ u ∈ us, u.oneCell' = true) → us.length = k → ∃ x : α, enc x = us ∧ key x = kp e)
    (hnr : ∀ e ∈ es, e.noR) (hd : es.Pairwise fun a b => lt (kp a) (kp b) = true ∨ lt (kp b) (kp a) = true) (hlen : es.length ≤ 1099511627776) :
    PCalls P G f [.slo k es, .fn g []] [some (.slo k (sortBy lt kp es)), none] (.tup []) false := by
  refine ⟨hfn, ?_⟩
  intro w R us fp hG hts hnd hfp hRb
  simp only [Ts] at hts
  obtain ⟨v, us', f1, f2, rfl, hv, ⟨v2, us2, f3, f4, rfl, hv2, ⟨rfl, rfl⟩, rfl⟩, rfl⟩ := hts
  simp only [V, Ts] at hv2
  obtain ⟨_, rfl, rfl, rfl, _⟩ := hv2
  simp only [List.append_nil] at hfp hnd
  simp only [V] at hv
  obtain ⟨us, fp', hrow, hes, rfl⟩ := hv
  obtain ⟨T, hT1, rfl, rfl, hT⟩ := es_told (α := α) (key := key) (kp := kp) (fun e he us fp => hdec e he w R us fp) ha hes
  have hn : T.length = es.length := by rw [← hT1, List.length_map]
  rcases hrow.2 with ⟨rfl, hl⟩ | ⟨b, cap, cur, et, lo, hi, rfl, q1, q2, q3, q4, q5, q6⟩
  · have he : es = [] := List.length_eq_zero_iff.1 hl
    subst he
    have hc := AnyF.slices_SortFunc_none L none 0 (.func (.func g) #[] #[]) w
    rw [hf] at hc
    refine hc.mono ?_
    rintro e w' ⟨rfl, rfl⟩
    refine ⟨_, R, [], [], rfl, by simp [V, Ts], ?_, List.nodup_nil, by simp, fun b hb => hb, fun b hb => ⟨hRb b hb, .inl hb⟩, fun _ _ _ => rfl, Nat.le_refl _, ⟨rfl, fun _ => Nat.le_refl _⟩, rfl, rfl⟩
    simp only [Bs]
    refine ⟨[], [], ?_, rfl, rfl⟩
    simp [V, Es, Row, sortBy, blkOf]
  · have hb : b < w.heap.size := (Array.getElem?_eq_some_iff.1 q1).1
    let d : Array α := (T.map (·.2.1)).toArray
    have hds : d.size = es.length := by simp [d, hn]
    have hH : HoldsK enc k w b 0 d := by
      intro j hj
      have hj' : j < (T.map (·.2.1)).length * k := by simpa [d] using hj
      have hjn : j < es.length * k := by rw [← hn]; simpa using hj'
      have hfl := flatK_list hk hk0 (T.map (·.2.1))
      have hjs : j < (flatK enc k d).size := hj
      have hc : cur[j]? = some ((flatK enc k d)[j]!) := by
        have e1 := congrArg (fun x => x[j]?) q6
        simp only [List.getElem?_take_of_lt hjn, Array.getElem?_toList] at e1
        rw [e1, ← hfl, Array.getElem?_toList, Array.getElem?_eq_getElem hjs, getElem!_pos _ j hjs]
      refine ⟨by simp [World.cell?, q1, hc], ?_⟩
      simp [World.frozen?, q1]
      have : es.length * k ≤ cap * k := Nat.mul_le_mul_right _ q3
      omega
    have hswo : SWO (ltOf fun x y : α => cf (key x) (key y)) := by
      have e : (ltOf fun x y : α => cf (key x) (key y)) = fun x y => lt (key x) (key y) := by funext x y; rw [ltOf, hcf]
      rw [e]
      exact ⟨fun x => hO.irrefl _, fun x y z => hO.trans _ _ _, fun x y z => hO.ntrans _ _ _⟩
    have hc := AnyQ.slices_SortFunc L k aE zE enc hk h1 (fun x y => cf (key x) (key y)) hswo g #[] b 0 cap d w eg (fun m os dk _ x y => hcmp x y _) hH hb (by rw [hds]; omega)
    rw [hf, hds] at hc
    refine hc.mono ?_
    rintro e w' ⟨rfl, d', n, os, ⟨hs1, _, hs3⟩, hsrt, rfl⟩
    rw [hds] at hs1
    have hperm : d'.toList.Perm (T.map (·.2.1)) := by
      have e1 : d'.extract 0 es.length = d' := by rw [← hs1]; exact Array.extract_size
      have e2 : d.extract 0 es.length = d := by rw [← hds]; exact Array.extract_size
      rw [e1, e2] at hs3
      exact hs3
    obtain ⟨T', hT', he'⟩ := perm_map_inv hperm T rfl
    have hpe : (T'.map (·.1)).Perm es := hT1 ▸ hT'.map _
    have hlT : T'.length = es.length := by rw [hT'.length_eq, hn]
    have hmem : ∀ t ∈ T', key t.2.1 = kp t.1 ∧ V w R (fun _ => none) t.1 (.agg (enc t.2.1).toArray) t.2.2 ∧ t.1 ≠ .undef ∧ (enc t.2.1).length = k ∧ ∀ u ∈ enc t.2.1, u.oneCell' = true := fun t ht => hT t (hT'.mem_iff.1 ht)
    have hget : ∀ i (h : i < T'.length), d'[i]! = T'[i].2.1 := fun i h => by
      have h2 : i < d'.size := by omega
      have h3 : d'.toList[i]? = some T'[i].2.1 := by rw [he', List.getElem?_map, List.getElem?_eq_getElem h]; rfl
      rw [Array.getElem?_toList, Array.getElem?_eq_getElem h2] at h3
      rw [getElem!_pos d' i h2]
      exact Option.some.inj h3
    have hsorted : (T'.map (·.1)).Pairwise (fun a b => lt (kp a) (kp b) = true) := by
      have hd' : (T'.map (·.1)).Pairwise fun a b => lt (kp a) (kp b) = true ∨ lt (kp b) (kp a) = true := (hpe.pairwise_iff fun h => h.symm).2 hd
      rw [List.pairwise_iff_getElem] at hd' ⊢
      intro i j hi hj hij
      refine (hd' i j hi hj hij).resolve_right fun hc => ?_
      have hi' : i < T'.length := by simpa using hi
      have hj' : j < T'.length := by simpa using hj
      have h3 := hsrt i j (Nat.zero_le _) hij (by omega)
      rw [ltOf, hget i hi', hget j hj', (hmem _ (List.getElem_mem hi')).1, (hmem _ (List.getElem_mem hj')).1, ← hcf] at h3
      simp only [List.getElem_map] at hc
      rw [h3] at hc
      cases hc
    have heq : T'.map (·.1) = sortBy lt kp es := sorted_eq (r := fun a b => lt (kp a) (kp b) = true) (fun a h => by rw [hO.irrefl] at h; cases h) (fun a b h1 h2 => by have := hO.trans _ _ _ h1 h2; rw [hO.irrefl] at this; cases this) (hpe.trans (sortBy_perm es).symm) hsorted (sortBy_sorted hO es hd)
    have hblk : ∀ m c, (blkOf (.slice (some ⟨b, 0, none⟩) m c)).toList = [b] := fun _ _ => rfl
    rw [hblk] at hfp hnd
    have hpf : (T'.flatMap (·.2.2)).Perm (T.flatMap (·.2.2)) := hT'.flatMap_right _
    have hbn : b ∉ T'.flatMap (·.2.2) := fun h => by
      have := (List.nodup_cons.1 hnd).1
      exact this (hpf.mem_iff.1 h)
    have hin : ∀ c ∈ b :: T'.flatMap (·.2.2), c ∈ [b] ++ T.flatMap (·.2.2) := fun c hc => by
      rcases List.mem_cons.1 hc with rfl | hc
      · simp
      · exact List.mem_append_right _ (hpf.mem_iff.1 hc)
    have hoth : ∀ c, c < w.heap.size → c ≠ b → (sortWorldK enc k w b 0 n d' os).heap[c]? = w.heap[c]? := fun c hc hcb => heap_putG_other hc hcb
    have hsz : (sortWorldK enc k w b 0 n d' os).heap.size = w.heap.size + os.size := heap_putG_size
    refine ⟨_, R, [], b :: T'.flatMap (·.2.2), rfl, by simp [V, Ts], ?_, ?_, ?_, fun b hb => hb, fun c hc => ⟨by rw [hsz]; have := hRb c hc; omega, .inl hc⟩, fun c hc hn => hoth c hc (fun e => hn (by simp [e, hblk])), by rw [hsz]; omega, ⟨rfl, fun _ => Nat.le_add_right _ _⟩, rfl, rfl⟩
    · simp only [Bs]
      refine ⟨b :: T'.flatMap (·.2.2), [], ?_, rfl, by simp⟩
      rw [← heq]
      simp only [V]
      refine ⟨(T'.map (·.2.1)).flatMap enc, T'.flatMap (·.2.2), ⟨by rw [flat_len hk, List.length_map, List.length_map], .inr ⟨b, cap, «Sort».putCells id 0 (flatK enc k d') cur, et, lo, hi, by rw [List.length_map, hlT], heap_putG q1, ?_, by rw [List.length_map, hlT]; exact q3, q4, by simpa [«Sort».putCells] using q5, ?_⟩⟩, ?_, rfl⟩
      · rcases q2 with q2 | q2
        · exact .inl q2
        · exact .inr (by simpa [«Sort».putCells] using q2)
      · have h3 : (flatK enc k d').size = (T'.map (·.1)).length * k := by rw [size_flatK, hs1, List.length_map, hlT]
        have h4 : (flatK enc k d').size ≤ cur.size := by rw [h3, List.length_map, hlT, q5]; exact Nat.mul_le_mul_right _ q3
        rw [← h3, put_takeG h4, ← he']
        have := flatK_list hk hk0 d'.toList
        rwa [Array.toArray_toList] at this
      · refine es_mk (κ := κ) T' fun t ht => ?_
        obtain ⟨_, m2, m3, m4, m5⟩ := hmem t ht
        have hte : t.1 ∈ es := hpe.mem_iff.1 (List.mem_map_of_mem ht)
        refine ⟨V.mono (R := fun c => R c ∧ (False)) (fun _ h => h.2.elim) (Le.refl _) (fun c hc => hc.2.elim) _ _ _ (fun c hc => ?_) (V.noR _ _ _ (hnr _ hte) m2), m3, m4, m5⟩
        have hc' : c ∈ T'.flatMap (·.2.2) := List.mem_flatMap.2 ⟨t, ht, hc⟩
        exact hoth c (hfp c (hin c (List.mem_cons_of_mem _ hc'))).1 (by rintro rfl; exact hbn hc')
    · rw [List.nil_append]
      exact ((hpf.cons b).nodup_iff).2 hnd
    · intro c hc
      rw [List.nil_append] at hc
      have h3 := hfp c (hin c hc)
      exact ⟨by rw [hsz]; omega, h3.2, .inl (by rw [hblk]; simpa using hin c hc)⟩
def keyLt (a b : List UInt8 × List UInt8) : Bool := Op.bytesLess a.1 b.1 || (decide (a.1 = b.1) && Op.bytesLess a.2 b.2)
def entKey : PV → List UInt8 × List UInt8
  | .agg (.str f :: .str t :: _) => (f, t)
  | _ => ([], [])
def IsEnt (e : PV) : Prop := ∃ f t ps, e = .agg [.str f, .str t, .slo 2 ps] ∧ PV.noRL ps
open Classical in
noncomputable def libSortE : List PV → Option Ans
  | [.slo 3 es, .fn g []] => if g = 182 ∧ (∀ e ∈ es, IsEnt e) ∧ (es.Pairwise fun a b => entKey a ≠ entKey b) ∧ es.length ≤ 1099511627776 then some ⟨[some (.slo 3 (sortBy keyLt entKey es)), none], .tup []⟩ else none
  | _ => none
end Go.Proofs.YtmanllfmgghadaaGreatDoor.PVE
