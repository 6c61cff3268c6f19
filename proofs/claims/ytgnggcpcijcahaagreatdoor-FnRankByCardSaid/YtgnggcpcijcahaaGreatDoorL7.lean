/- slices.SortFunc at structs, with a comparison that has captured variables. -/
import Derived.Test.YtgnggcpcijcahaaGreatDoorL4
import Derived.Shelf.SlSortCmp.WholeK
import Derived.Shelf.SlSortCmp.NoneTotal
set_option linter.unusedVariables false
set_option linter.unusedSimpArgs false
set_option linter.unusedSectionVars false
namespace Go.Proofs.YtgnggcpcijcahaaGreatDoor.PVE
open PV
open Go.RowKit Go.Lib Go.Sort Go.Shelf
theorem sortFunc_callsC {P : Program} {G : Nat → Option (List PV)} {f g k : Nat} {ρ : Ren} (L : SlLaysF0.n6 P ρ) (hf : ρ.f 6 = f) (aE : ∀ w, (isAgg (ρ.t 24)).run P w = .ok true w) (zE : ∀ w, (Go.sizeOf (ρ.t 24)).run P w = .ok k w) (hfn : FnOk P f)
    (eg : ∀ args w, (callFunc g args).run P w = .ok (.enter g args) w) {κ α : Type} [Inhabited α] {lt : κ → κ → Bool} (hO : SWO lt) {enc : α → List Value} {key : α → κ} {cf : κ → κ → Int} (hk : ∀ x, (enc x).length = k) (hk0 : 0 < k) (h1 : ∀ x, ∀ v ∈ enc x, v.oneCell' = true)
    (hcf : ∀ a b, lt a b = decide (cf a b < 0)) {caps : List PV} (hcmp : ∀ (x y : α) (W : World) (R : Nat → Prop) (us : List Value), Ts W R (fun _ => none) caps us [] → (∀ b, R b → b < W.heap.size) → Calls P g (#[.agg (enc x).toArray, .agg (enc y).toArray] ++ us.toArray) W fun e w' => e = .returned (.int .i64 (cf (key x) (key y))) ∧ ∃ q os', w' = grow (W.drewN q) os')
    {kp : PV → κ} {es : List PV} (ha : ∀ e ∈ es, ∃ cs, e = .agg cs) (hdec : ∀ e ∈ es, ∀ w R us fp, V w R (fun _ => none) e (.agg us.toArray) fp → (∀ u ∈ us, u.oneCell' = true) → us.length = k → ∃ x : α, enc x = us ∧ key x = kp e)
    (hnr : ∀ e ∈ es, e.noR) (hd : es.Pairwise fun a b => lt (kp a) (kp b) = true ∨ lt (kp b) (kp a) = true) (hlen : es.length ≤ 1099511627776) :
    PCalls P G f [.slo k es, .fn g caps] [some (.slo k (sortBy lt kp es)), none] (.tup []) false := by
  refine ⟨hfn, ?_⟩
  intro w R us fp hG hts hnd hfp hRb
  simp only [Ts] at hts
  obtain ⟨v, us', f1, f2, rfl, hv, ⟨v2, us2, f3, f4, rfl, hv2, ⟨rfl, rfl⟩, rfl⟩, rfl⟩ := hts
  simp only [V] at hv2
  obtain ⟨cu, rfl, rfl, hcu⟩ := hv2
  simp only [List.append_nil] at hfp hnd
  simp only [V] at hv
  obtain ⟨us, fp', hrow, hes, rfl⟩ := hv
  obtain ⟨T, hT1, rfl, rfl, hT⟩ := es_told (α := α) (key := key) (kp := kp) (fun e he us fp => hdec e he w R us fp) ha hes
  have hn : T.length = es.length := by rw [← hT1, List.length_map]
  rcases hrow.2 with ⟨rfl, hl⟩ | ⟨b, cap, cur, et, lo, hi, rfl, q1, q2, q3, q4, q5, q6⟩
  · have he : es = [] := List.length_eq_zero_iff.1 hl
    subst he
    have hc := AnyF.slices_SortFunc_none L none 0 (.func (.func g) #[] cu.toArray) w
    rw [hf] at hc
    refine hc.mono ?_
    rintro e w' ⟨rfl, rfl⟩
    refine ⟨_, R, [], [], rfl, by simp [V, Ts], ?_, List.nodup_nil, by simp, fun b hb => hb, fun b hb => ⟨hRb b hb, .inl hb⟩, fun _ _ _ => rfl, Nat.le_refl _, ⟨rfl, fun _ => Nat.le_refl _⟩, rfl, rfl⟩
    simp only [Bs]
    refine ⟨[], [], ?_, rfl, rfl⟩
    simp [V, Es, Row, sortBy, blkOf]
  · have hb : b < w.heap.size := (Array.getElem?_eq_some_iff.1 q1).1
    let d : Array α := (T.map (·.2.1)).toArray
    have hds : d.size = es.length := by simp [d, hn]
    have hH : HoldsK enc k w b 0 d := by
      intro j hj
      have hj' : j < (T.map (·.2.1)).length * k := by simpa [d] using hj
      have hjn : j < es.length * k := by rw [← hn]; simpa using hj'
      have hfl := flatK_list hk hk0 (T.map (·.2.1))
      have hjs : j < (flatK enc k d).size := hj
      have hc : cur[j]? = some ((flatK enc k d)[j]!) := by
        have e1 := congrArg (fun x => x[j]?) q6
        simp only [List.getElem?_take_of_lt hjn, Array.getElem?_toList] at e1
        rw [e1, ← hfl, Array.getElem?_toList, Array.getElem?_eq_getElem hjs, getElem!_pos _ j hjs]
      refine ⟨by simp [World.cell?, q1, hc], ?_⟩
      simp [World.frozen?, q1]
      have : es.length * k ≤ cap * k := Nat.mul_le_mul_right _ q3
      omega
    have hswo : SWO (ltOf fun x y : α => cf (key x) (key y)) := by
      have e : (ltOf fun x y : α => cf (key x) (key y)) = fun x y => lt (key x) (key y) := by funext x y; rw [ltOf, hcf]
      rw [e]
      exact ⟨fun x => hO.irrefl _, fun x y z => hO.trans _ _ _, fun x y z => hO.ntrans _ _ _⟩
    have hbR : ¬ R b := (hfp b (by simp [blkOf])).2
    have hc := AnyQ.slices_SortFunc L k aE zE enc hk h1 (fun x y => cf (key x) (key y)) hswo g cu.toArray b 0 cap d w eg (fun m os dk _ x y => hcmp x y _ R cu (Ts.mono (R := R) (R' := R) (fun _ h => h) (Le.refl _) (fun c hc => heap_putG_other (hRb c hc) (by rintro rfl; exact hbR hc)) _ _ _ (by simp) hcu) (fun c hc => by have := hRb c hc; rw [show (sortWorldK enc k w b 0 m dk os).heap.size = w.heap.size + os.size from heap_putG_size]; omega)) hH hb (by rw [hds]; omega)
    rw [hf, hds] at hc
    refine hc.mono ?_
    rintro e w' ⟨rfl, d', n, os, ⟨hs1, _, hs3⟩, hsrt, rfl⟩
    rw [hds] at hs1
    have hperm : d'.toList.Perm (T.map (·.2.1)) := by
      have e1 : d'.extract 0 es.length = d' := by rw [← hs1]; exact Array.extract_size
      have e2 : d.extract 0 es.length = d := by rw [← hds]; exact Array.extract_size
      rw [e1, e2] at hs3
      exact hs3
    obtain ⟨T', hT', he'⟩ := perm_map_inv hperm T rfl
    have hpe : (T'.map (·.1)).Perm es := hT1 ▸ hT'.map _
    have hlT : T'.length = es.length := by rw [hT'.length_eq, hn]
    have hmem : ∀ t ∈ T', key t.2.1 = kp t.1 ∧ V w R (fun _ => none) t.1 (.agg (enc t.2.1).toArray) t.2.2 ∧ t.1 ≠ .undef ∧ (enc t.2.1).length = k ∧ ∀ u ∈ enc t.2.1, u.oneCell' = true := fun t ht => hT t (hT'.mem_iff.1 ht)
    have hget : ∀ i (h : i < T'.length), d'[i]! = T'[i].2.1 := fun i h => by
      have h2 : i < d'.size := by omega
      have h3 : d'.toList[i]? = some T'[i].2.1 := by rw [he', List.getElem?_map, List.getElem?_eq_getElem h]; rfl
      rw [Array.getElem?_toList, Array.getElem?_eq_getElem h2] at h3
      rw [getElem!_pos d' i h2]
      exact Option.some.inj h3
    have hsorted : (T'.map (·.1)).Pairwise (fun a b => lt (kp a) (kp b) = true) := by
      have hd' : (T'.map (·.1)).Pairwise fun a b => lt (kp a) (kp b) = true ∨ lt (kp b) (kp a) = true := (hpe.pairwise_iff fun h => h.symm).2 hd
      rw [List.pairwise_iff_getElem] at hd' ⊢
      intro i j hi hj hij
      refine (hd' i j hi hj hij).resolve_right fun hc => ?_
      have hi' : i < T'.length := by simpa using hi
      have hj' : j < T'.length := by simpa using hj
      have h3 := hsrt i j (Nat.zero_le _) hij (by omega)
      rw [ltOf, hget i hi', hget j hj', (hmem _ (List.getElem_mem hi')).1, (hmem _ (List.getElem_mem hj')).1, ← hcf] at h3
      simp only [List.getElem_map] at hc
      rw [h3] at hc
      cases hc
    have heq : T'.map (·.1) = sortBy lt kp es := sorted_eq (r := fun a b => lt (kp a) (kp b) = true) (fun a h => by rw [hO.irrefl] at h; cases h) (fun a b h1 h2 => by have := hO.trans _ _ _ h1 h2; rw [hO.irrefl] at this; cases this) (hpe.trans (sortBy_perm es).symm) hsorted (sortBy_sorted hO es hd)
    have hblk : ∀ m c, (blkOf (.slice (some ⟨b, 0, none⟩) m c)).toList = [b] := fun _ _ => rfl
    rw [hblk] at hfp hnd
    have hpf : (T'.flatMap (·.2.2)).Perm (T.flatMap (·.2.2)) := hT'.flatMap_right _
    have hbn : b ∉ T'.flatMap (·.2.2) := fun h => by
      have := (List.nodup_cons.1 hnd).1
      exact this (hpf.mem_iff.1 h)
    have hin : ∀ c ∈ b :: T'.flatMap (·.2.2), c ∈ [b] ++ T.flatMap (·.2.2) := fun c hc => by
      rcases List.mem_cons.1 hc with rfl | hc
      · simp
      · exact List.mem_append_right _ (hpf.mem_iff.1 hc)
    have hoth : ∀ c, c < w.heap.size → c ≠ b → (sortWorldK enc k w b 0 n d' os).heap[c]? = w.heap[c]? := fun c hc hcb => heap_putG_other hc hcb
    have hsz : (sortWorldK enc k w b 0 n d' os).heap.size = w.heap.size + os.size := heap_putG_size
    refine ⟨_, R, [], b :: T'.flatMap (·.2.2), rfl, by simp [V, Ts], ?_, ?_, ?_, fun b hb => hb, fun c hc => ⟨by rw [hsz]; have := hRb c hc; omega, .inl hc⟩, fun c hc hn => hoth c hc (fun e => hn (by simp [e, hblk])), by rw [hsz]; omega, ⟨rfl, fun _ => Nat.le_add_right _ _⟩, rfl, rfl⟩
    · simp only [Bs]
      refine ⟨b :: T'.flatMap (·.2.2), [], ?_, rfl, by simp⟩
      rw [← heq]
      simp only [V]
      refine ⟨(T'.map (·.2.1)).flatMap enc, T'.flatMap (·.2.2), ⟨by rw [flat_len hk, List.length_map, List.length_map], .inr ⟨b, cap, «Sort».putCells id 0 (flatK enc k d') cur, et, lo, hi, by rw [List.length_map, hlT], heap_putG q1, ?_, by rw [List.length_map, hlT]; exact q3, q4, by simpa [«Sort».putCells] using q5, ?_⟩⟩, ?_, rfl⟩
      · rcases q2 with q2 | q2
        · exact .inl q2
        · exact .inr (by simpa [«Sort».putCells] using q2)
      · have h3 : (flatK enc k d').size = (T'.map (·.1)).length * k := by rw [size_flatK, hs1, List.length_map, hlT]
        have h4 : (flatK enc k d').size ≤ cur.size := by rw [h3, List.length_map, hlT, q5]; exact Nat.mul_le_mul_right _ q3
        rw [← h3, put_takeG h4, ← he']
        have := flatK_list hk hk0 d'.toList
        rwa [Array.toArray_toList] at this
      · refine es_mk (κ := κ) T' fun t ht => ?_
        obtain ⟨_, m2, m3, m4, m5⟩ := hmem t ht
        have hte : t.1 ∈ es := hpe.mem_iff.1 (List.mem_map_of_mem ht)
        refine ⟨V.mono (R := fun c => R c ∧ (False)) (fun _ h => h.2.elim) (Le.refl _) (fun c hc => hc.2.elim) _ _ _ (fun c hc => ?_) (V.noR _ _ _ (hnr _ hte) m2), m3, m4, m5⟩
        have hc' : c ∈ T'.flatMap (·.2.2) := List.mem_flatMap.2 ⟨t, ht, hc⟩
        exact hoth c (hfp c (hin c (List.mem_cons_of_mem _ hc'))).1 (by rintro rfl; exact hbn hc')
    · rw [List.nil_append]
      exact ((hpf.cons b).nodup_iff).2 hnd
    · intro c hc
      rw [List.nil_append] at hc
      have h3 := hfp c (hin c hc)
      exact ⟨by rw [hsz]; omega, h3.2, .inl (by rw [hblk]; simpa using hin c hc)⟩
end Go.Proofs.YtgnggcpcijcahaaGreatDoor.PVE
