/- The PV engine, part 30: what a row's reading tells of an argument. -/
import Derived.Test.YtanbccpabgcmaaaGreatDoorE29
import Derived.ChangeArms
import Derived.DataReads
import Derived.Below
set_option linter.unusedVariables false
set_option linter.unusedSimpArgs false
set_option linter.unusedSectionVars false
namespace Go.Proofs.YtanbccpabgcmaaaGreatDoor.PVE
open PV

def contig (P : Program) : List Field → Nat → Nat → Bool
  | [], o, tot => o == tot
  | f :: fs, o, tot => f.offset == o && contig P fs (o + P.cellsOf f.type) tot
def simpleTy (P : Program) : Nat → TypeId → Bool
  | 0, _ => false
  | n + 1, t => match P.underlying t with
    | some .bool => true
    | some (.int _) => true
    | some .string => true
    | some (.slice e) => decide (0 < P.cellsOf e) && simpleTy P n e
    | some (.struct fs) => contig P fs.toList 0 (P.cellsOf t) && fs.toList.all fun f => simpleTy P n f.type
    | _ => false
/-- A pure value is of the type. -/
def Ty (P : Program) : Nat → TypeId → PV → Prop
  | 0, _, _ => False
  | n + 1, t, pv => match P.underlying t with
    | some .bool => ∃ b, pv = .bool b
    | some (.int k) => ∃ i, pv = .int k i ∧ (Lit.int k i).wf = true
    | some .string => ∃ s, pv = .str s ∧ s.length ≤ maxLen
    | some (.slice e) => ∃ es, pv = .sl es ∧ es.length ≤ maxLen ∧ ∀ x ∈ es, Ty P n e x
    | some (.struct fs) => ∃ ps : List PV, pv = .agg (ps.flatMap PV.cells) ∧ ps.length = fs.size ∧ ∀ (i : Nat) (f : Field) (p : PV), fs.toList[i]? = some f → ps[i]? = some p → Ty P n f.type p
    | _ => False

section
variable {H : Type} {enc : TypeId × Value → H} {P : Program} {w : World} {R : Nat → Prop} {σ : Nat → Option Hd} {base : Nat} {spare : Nat → Bool} {held : Bool}

/-- The cells, and the value that they are. -/
def Told (w : World) (R : Nat → Prop) (σ : Nat → Option Hd) (pv : PV) (cs : List Value) : Prop :=
  pv ≠ .undef ∧ Cs w R σ pv.cells cs [] ∧ ∃ v : Value, v.cells.toList = cs ∧ V w R σ pv v []

theorem told_one {pv : PV} {u : Value} (h0 : pv ≠ .undef) (hc : pv.cells = [pv]) (hu : u.oneCell' = true) (hcs : u.cells = #[u]) (hv : V w R σ pv u []) : Told w R σ pv [u] := by
  refine ⟨h0, ?_, u, by rw [hcs], hv⟩
  rw [hc]
  simp only [Cs]
  exact ⟨u, [], [], [], rfl, hu, hv, ⟨rfl, rfl⟩, rfl⟩

theorem contig_le {l : List Field} : ∀ {o tot : Nat}, contig P l o tot = true → o ≤ tot := by
  induction l with
  | nil => intro o tot h; simp only [contig, beq_iff_eq] at h; omega
  | cons f l ih =>
    intro o tot h
    simp only [contig, Bool.and_eq_true] at h
    have := ih h.2
    omega
theorem trod_told (hR : ∀ b, b < w.heap.size → R b) : ∀ (m fuel : Nat) (t : TypeId) (cs : List Value) (x : DataW H × List MemPlace), simpleTy P m t = true → DataW.trod enc P w base spare held fuel t cs = some x →
    ∃ pv, Ty P m t pv ∧ Told w R σ pv cs := by
  intro m
  induction m with
  | zero => intro fuel t cs x hs; simp [simpleTy] at hs
  | succ m ih =>
    intro fuel t cs x hs h
    simp only [simpleTy] at hs
    cases ht : P.underlying t with
    | none => rw [ht] at hs; cases hs
    | some d =>
      rw [ht] at hs
      cases d with
      | bool =>
        obtain ⟨b, rfl, _⟩ := DataW.trod_bool ht h
        exact ⟨.bool b, by simp only [Ty, ht]; exact ⟨b, rfl⟩, told_one (by simp) rfl rfl rfl (by simp [V])⟩
      | int k =>
        obtain ⟨i, rfl, _, hw⟩ := DataW.trod_int ht h
        exact ⟨.int k i, by simp only [Ty, ht]; exact ⟨i, rfl, hw⟩, told_one (by simp) rfl rfl rfl (by simp [V])⟩
      | string =>
        obtain ⟨s, rfl, _, hw⟩ := DataW.trod_string ht h
        exact ⟨.str s.data.toList, by simp only [Ty, ht]; exact ⟨_, rfl, by simpa using hw⟩, told_one (by simp) rfl rfl rfl (by simp [V])⟩
      | slice e =>
        simp only [Bool.and_eq_true, decide_eq_true_eq] at hs
        obtain ⟨hk, hse⟩ := hs
        rcases DataW.trod_slice ht h with ⟨rfl, _⟩ | ⟨a, len, cap, elems, rest, n, _, rfl, _, hb, hl, hm, hlen, hel, _, _⟩
        · refine ⟨.sl [], by simp only [Ty, ht]; exact ⟨[], rfl, by simp [maxLen], by simp⟩, told_one (by simp) rfl rfl rfl ?_⟩
          simp only [V]
          exact ⟨trivial, none, 0, [], 0, rfl, by simp, by simp, by simp, by simp [Es]⟩
        · have key : ∀ j, j ≤ len → ∃ (es : List PV) (us : List Value), es.length = j ∧ us.length = j * P.cellsOf e ∧ Es w R σ (P.cellsOf e) es us [] ∧ (∀ i u, us[i]? = some u → w.cell? (a.add i) = some u) ∧ ∀ x ∈ es, Ty P m e x := by
            intro j
            induction j with
            | zero => intro _; exact ⟨[], [], rfl, by simp, by simp [Es], by simp, by simp⟩
            | succ j ihj =>
              intro hj
              obtain ⟨es, us, e1, e2, e3, e4, e5⟩ := ihj (by omega)
              have hj' : j < elems.length := by omega
              have := hel j (by omega)
              rw [List.getElem?_eq_getElem hj', Option.bind_eq_some_iff] at this
              obtain ⟨ci, hci, htr⟩ := this
              obtain ⟨pv, hty, hne, hcs, v, hv, hV⟩ := ih n e ci _ hse htr
              obtain ⟨_, c1, c2⟩ := World.cells?_some hci
              refine ⟨es ++ [pv], us ++ ci, by simp [e1], by simp [e2, c1, Nat.add_mul], Es.append.2 ⟨us, ci, [], [], rfl, rfl, e3, ?_⟩, ?_, ?_⟩
              · simp only [Es]
                refine ⟨v, [], [], [], by simp [hv], by rw [← Array.length_toList, hv, c1], fun u hu => ?_, hne, hV, ⟨rfl, rfl⟩, rfl⟩
                exact hcs.one u (by rw [← hv]; simpa using hu)
              · intro i u hu
                by_cases hi : i < us.length
                · rw [List.getElem?_append_left hi] at hu; exact e4 i u hu
                · rw [List.getElem?_append_right (by omega)] at hu
                  have hi2 : i - us.length < ci.length := (List.getElem?_eq_some_iff.1 hu).1
                  have := c2 (i - us.length) (by omega)
                  rw [add_add', hu] at this
                  rw [← this]
                  congr 2
                  omega
              · intro y hy
                rcases List.mem_append.1 hy with hy | hy
                · exact e5 y hy
                · simp only [List.mem_singleton] at hy; subst hy; exact hty
          obtain ⟨es, us, e1, e2, e3, e4, e5⟩ := key len (Nat.le_refl _)
          refine ⟨.sl es, by simp only [Ty, ht]; exact ⟨es, rfl, by omega, e5⟩, told_one (by simp) rfl rfl rfl ?_⟩
          simp only [V]
          refine ⟨trivial, some a, cap, us, P.cellsOf e, by rw [e1], by omega, hm, fun hpos => ⟨a, rfl, ?_, e4⟩, e3⟩
          have h0 : 0 < elems.length := by omega
          have := hel 0 (by omega)
          rw [List.getElem?_eq_getElem h0, Option.bind_eq_some_iff] at this
          obtain ⟨ci, hci, _⟩ := this
          have hblk := World.cells?_block hci hk
          have hab : (a.add (0 * P.cellsOf e)).block = a.block := by unfold Addr.add; split <;> rfl
          rw [hab] at hblk
          exact hR _ hblk
      | struct fs =>
        simp only [Bool.and_eq_true] at hs
        obtain ⟨hcon, hall⟩ := hs
        obtain ⟨xs, n, _, _, hlen, hxl, hf⟩ := DataW.trod_struct ht h
        have key : ∀ (l : List Field) (o : Nat) (k : Nat), (∀ i, l[i]? = fs.toList[k + i]?) → contig P l o (P.cellsOf t) = true → o ≤ cs.length → 
            ∃ ps : List PV, ps.length = l.length ∧ Cs w R σ (ps.flatMap PV.cells) (cs.drop o) [] ∧ ∀ (i : Nat) (f : Field) (p : PV), l[i]? = some f → ps[i]? = some p → Ty P m f.type p := by
          intro l
          induction l with
          | nil =>
            intro o k hl hc ho
            simp only [contig, beq_iff_eq] at hc
            refine ⟨[], rfl, ?_, by simp⟩
            rw [List.drop_eq_nil_of_le (by omega)]
            simp [Cs]
          | cons f l ihl =>
            intro o k hl hc ho
            simp only [contig, Bool.and_eq_true, beq_iff_eq] at hc
            obtain ⟨rfl, hc⟩ := hc
            have hfk : fs.toList[k]? = some f := by have := hl 0; simpa using this.symm
            have hmem : f ∈ fs.toList := List.mem_of_getElem? hfk
            have hfa : fs[k]? = some f := by simpa using hfk
            have hk' : k < xs.length := by rw [hxl]; have := (Array.getElem?_eq_some_iff.1 hfa).1; omega
            have htr := hf k f hfa
            rw [List.getElem?_eq_getElem hk'] at htr
            obtain ⟨pv, hty, hne, hcs, v, hv, hV⟩ := ih n f.type _ _ (List.all_eq_true.1 hall f hmem) htr
            have hle := contig_le hc
            obtain ⟨ps, p1, p2, p3⟩ := ihl _ (k + 1) (fun i => by have := hl (i + 1); rw [List.getElem?_cons_succ] at this; rw [this]; congr 1; omega) hc (by omega)
            refine ⟨pv :: ps, by simp [p1], ?_, ?_⟩
            · rw [List.flatMap_cons]
              refine Cs.append.2 ⟨(cs.drop f.offset).take (P.cellsOf f.type), cs.drop (f.offset + P.cellsOf f.type), [], [], ?_, rfl, hcs, p2⟩
              rw [← List.drop_drop, List.take_append_drop]
            · intro i f' p' hi hp
              cases i with
              | zero => simp at hi hp; subst hi hp; exact hty
              | succ i => exact p3 i f' p' (by simpa using hi) (by simpa using hp)
        obtain ⟨ps, p1, p2, p3⟩ := key fs.toList 0 0 (fun i => by simp) hcon (Nat.zero_le _)
        rw [List.drop_zero] at p2
        refine ⟨.agg (ps.flatMap PV.cells), by simp only [Ty, ht]; exact ⟨ps, rfl, by simpa using p1, p3⟩, by simp, p2, .agg cs.toArray, by simp [Value.cells], ?_⟩
        simp only [V]
        exact ⟨cs, rfl, p2⟩
      | _ => cases hs
/-- A slice that came in. -/
theorem arg_slice (hR : ∀ b, b < w.heap.size → R b) {m : Nat} {t e : TypeId} {a : Option Addr} {len cap : Nat} {d : DataW H} {ps : List MemPlace} (hs : simpleTy P (m + 1) t = true) (ht : P.underlying t = some (.slice e))
    (h : DataW.Trod enc P w base spare held t (.slice a len cap) d ps) : ∃ es, es.length ≤ maxLen ∧ (∀ x ∈ es, Ty P m e x) ∧ V w R σ (.sl es) (.slice a len cap) [] := by
  obtain ⟨fuel, h⟩ := h
  obtain ⟨pv, hty, hne, hcs, _⟩ := trod_told (R := R) (σ := σ) hR _ _ _ _ _ hs h
  simp only [Ty, ht] at hty
  obtain ⟨es, rfl, h1, h2⟩ := hty
  refine ⟨es, h1, h2, ?_⟩
  simp only [PV.cells, Value.cells, List.toList_toArray, Cs] at hcs
  obtain ⟨u, us', f1, f2, hu, _, hV, _, hf⟩ := hcs
  simp only [List.cons.injEq] at hu
  obtain ⟨rfl, _⟩ := hu
  obtain ⟨rfl, rfl⟩ : f1 = [] ∧ f2 = [] := by simpa using hf.symm
  exact hV
/-- A list of texts, as its reading tells it. -/
theorem trod_strs (hR : ∀ b, b < w.heap.size → R b) {t e : TypeId} {fuel : Nat} {cs : List Value} {l : List (List UInt8)} {ps : List MemPlace} (ht : P.underlying t = some (.slice e)) (he : P.underlying e = some .string) (hc : P.cellsOf e = 1)
    (h : DataW.trod enc P w base spare held fuel t cs = some (.slice (l.map fun s => .lit (.string s)) [], ps)) : ∃ v, cs = [v] ∧ v.oneCell' = true ∧ V w R σ (.sl (l.map .str)) v [] := by
  rcases DataW.trod_slice ht h with ⟨rfl, hx⟩ | ⟨a, len, cap, elems, rest, n, _, rfl, hx, hb, hl, hm, hlen, hel, _, _⟩
  · cases hx
  · simp only [Prod.mk.injEq, DataW.slice.injEq] at hx
    obtain ⟨⟨hx, _⟩, _⟩ := hx
    have hll : l.length = len := by
      have := congrArg List.length hx
      simp at this
      omega
    have key : ∀ j, (hj : j < len) → w.cell? (a.add j) = some (.string ⟨(l[j]'(by omega)).toArray⟩) ∧ R (a.add j).block := by
      intro j hj
      have hj' : j < elems.length := by omega
      have h1 := hel j hj
      rw [List.getElem?_eq_getElem hj', Option.bind_eq_some_iff, hc, Nat.mul_one] at h1
      obtain ⟨ci, hci, htr⟩ := h1
      obtain ⟨s, hcs, hxx, _⟩ := DataW.trod_string he htr
      have hy : (elems[j]).1 = .lit (.string (l[j]'(by omega))) := by
        have := congrArg (fun x => x[j]?) hx
        simp only [List.getElem?_map, List.getElem?_eq_getElem hj', Option.map_some] at this
        rw [List.getElem?_eq_getElem (by omega)] at this
        simp only [Option.map_some, Option.some.injEq] at this
        exact this.symm
      rw [hxx] at hy
      simp only [DataW.lit.injEq, Lit.string.injEq] at hy
      refine ⟨?_, hR _ (World.cells?_block hci (by omega))⟩
      obtain ⟨_, c1, c2⟩ := World.cells?_some hci
      have := c2 0 (by omega)
      rw [hcs, add_add', Nat.add_zero] at this
      simp only [List.getElem?_cons_zero] at this
      rw [this, ← hy]
    refine ⟨_, rfl, rfl, ?_⟩
    simp only [V]
    refine ⟨trivial, some a, cap, l.map fun s => .string ⟨s.toArray⟩, 1, by simp [hll], by simp; omega, hm, fun hpos => ⟨a, rfl, ?_, ?_⟩, ?_⟩
    · have hab : (a.add 0).block = a.block := by unfold Addr.add; split <;> rfl
      rw [← hab]
      exact (key 0 (by simpa [hll] using hpos)).2
    · intro i u hu
      rw [List.getElem?_map, Option.map_eq_some_iff] at hu
      obtain ⟨s, hs, rfl⟩ := hu
      obtain ⟨hi, rfl⟩ := List.getElem?_eq_some_iff.1 hs
      exact (key i (by omega)).1
    · clear h hx hll key hel hlen
      induction l with
      | nil => simp [Es]
      | cons s l ih =>
        simp only [List.map_cons, Es]
        refine ⟨.string ⟨s.toArray⟩, l.map fun s => .string ⟨s.toArray⟩, [], [], rfl, rfl, fun u hu => ?_, by simp, by simp [V], ih, rfl⟩
        simp [Value.cells] at hu
        subst hu
        rfl
theorem lift_list {α : Type} {f : α → PV} : ∀ {es : List PV}, (∀ x ∈ es, ∃ a, x = f a) → ∃ l : List α, es = l.map f
  | [], _ => ⟨[], rfl⟩
  | x :: es, h => by
    obtain ⟨a, rfl⟩ := h x (by simp)
    obtain ⟨l, rfl⟩ := lift_list (es := es) fun y hy => h y (by simp [hy])
    exact ⟨a :: l, rfl⟩
/-- The library's contracts, one by one. -/
theorem callOk_of {t : Tab} (h : ∀ p ∈ t.lib, ∀ xs a, p.2 xs = some a → PCalls t.P t.G p.1 xs a.bks a.res (t.M p.1).al) : CallOk t.P t.E t.L := by
  intro f xs a hc
  unfold Tab.L at hc
  cases hl : t.lib.lookup f with
  | none => rw [hl] at hc; cases hc
  | some g =>
    rw [hl] at hc
    have hm : (f, g) ∈ t.lib := by
      generalize t.lib = l at hl
      induction l with
      | nil => cases hl
      | cons p l ih =>
        rw [List.lookup_cons] at hl
        split at hl
        · rename_i hp
          have : f = p.1 := by simpa using hp
          cases hl
          rw [this]
          exact List.mem_cons_self
        · exact List.mem_cons_of_mem _ (ih hl)
    exact h _ hm xs a hc
/-- A law's run: true, and all that was there stays. -/
theorem law_calls {G : Nat → Option (List PV)} {f : Nat} {args : List PV} {bks : List (Option PV)} {al : Bool} {vs : List Value} (hc : PCalls P G f args bks (.bool true) al) (hG : GlobOk G w fun b => b < w.heap.size)
    (ht : Ts w (fun b => b < w.heap.size) (fun _ => none) args vs []) : Calls P f vs.toArray w fun e w' => e = .returned (.bool true) ∧ Go.RowKit.Below w.heap.size w w' := by
  refine (hc.2 w (fun b => b < w.heap.size) vs [] hG ht List.nodup_nil (by simp) (fun b hb => hb)).mono ?_
  rintro e w' ⟨v, R', fr, fb, rfl, r1, r2, r3, r4, r5, r6, r7, r8, r9, r10, r11⟩
  simp only [V] at r1
  obtain ⟨rfl, _⟩ := r1
  exact ⟨rfl, r10, r9, r11, r8, fun k hk => r7 k hk (by simp)⟩
end
end Go.Proofs.YtanbccpabgcmaaaGreatDoor.PVE
/-! ### Arguments of types that hold themselves -/
namespace Go.Proofs.YtanbccpabgcmaaaGreatDoor.PVE
open PV
/-- A type whose parts' types are listed. -/
def okTy (P : Program) (T : List TypeId) (t : TypeId) : Bool := match P.underlying t with
  | some .bool => true
  | some (.int _) => true
  | some .string => true
  | some (.slice e) => decide (0 < P.cellsOf e) && T.contains e
  | some (.struct fs) => contig P fs.toList 0 (P.cellsOf t) && fs.toList.all fun f => T.contains f.type
  | _ => false
def closedTys (P : Program) (T : List TypeId) : Bool := T.all (okTy P T)
section
variable {H : Type} {enc : TypeId × Value → H} {P : Program} {w : World} {R : Nat → Prop} {σ : Nat → Option Hd} {base : Nat} {spare : Nat → Bool} {held : Bool}
theorem trod_told2 {T : List TypeId} (hT : closedTys P T = true) (hR : ∀ b, b < w.heap.size → R b) : ∀ (m : Nat) (t : TypeId) (cs : List Value) (x : DataW H × List MemPlace), T.contains t = true → DataW.trod enc P w base spare held m t cs = some x →
    ∃ pv, Ty P m t pv ∧ Told w R σ pv cs := by
  intro m
  induction m with
  | zero => intro t cs x _ h; simp [DataW.trod] at h
  | succ m ih =>
    intro t cs x hc0 h
    have hs : okTy P T t = true := List.all_eq_true.1 hT t (List.contains_iff_mem.1 hc0)
    simp only [okTy] at hs
    cases ht : P.underlying t with
    | none => rw [ht] at hs; cases hs
    | some d =>
      rw [ht] at hs
      cases d with
      | bool =>
        obtain ⟨b, rfl, _⟩ := DataW.trod_bool ht h
        exact ⟨.bool b, by simp only [Ty, ht]; exact ⟨b, rfl⟩, told_one (by simp) rfl rfl rfl (by simp [V])⟩
      | int k =>
        obtain ⟨i, rfl, _, hw⟩ := DataW.trod_int ht h
        exact ⟨.int k i, by simp only [Ty, ht]; exact ⟨i, rfl, hw⟩, told_one (by simp) rfl rfl rfl (by simp [V])⟩
      | string =>
        obtain ⟨s, rfl, _, hw⟩ := DataW.trod_string ht h
        exact ⟨.str s.data.toList, by simp only [Ty, ht]; exact ⟨_, rfl, by simpa using hw⟩, told_one (by simp) rfl rfl rfl (by simp [V])⟩
      | slice e =>
        simp only [Bool.and_eq_true, decide_eq_true_eq] at hs
        obtain ⟨hk, hse⟩ := hs
        rcases DataW.trod_slice ht h with ⟨rfl, _⟩ | ⟨a, len, cap, elems, rest, n, hn, rfl, _, hb, hl, hm, hlen, hel, _, _⟩
        · refine ⟨.sl [], by simp only [Ty, ht]; exact ⟨[], rfl, by simp [maxLen], by simp⟩, told_one (by simp) rfl rfl rfl ?_⟩
          simp only [V]
          exact ⟨trivial, none, 0, [], 0, rfl, by simp, by simp, by simp, by simp [Es]⟩
        · obtain rfl : m = n := by omega
          have key : ∀ j, j ≤ len → ∃ (es : List PV) (us : List Value), es.length = j ∧ us.length = j * P.cellsOf e ∧ Es w R σ (P.cellsOf e) es us [] ∧ (∀ i u, us[i]? = some u → w.cell? (a.add i) = some u) ∧ ∀ x ∈ es, Ty P m e x := by
            intro j
            induction j with
            | zero => intro _; exact ⟨[], [], rfl, by simp, by simp [Es], by simp, by simp⟩
            | succ j ihj =>
              intro hj
              obtain ⟨es, us, e1, e2, e3, e4, e5⟩ := ihj (by omega)
              have hj' : j < elems.length := by omega
              have := hel j (by omega)
              rw [List.getElem?_eq_getElem hj', Option.bind_eq_some_iff] at this
              obtain ⟨ci, hci, htr⟩ := this
              obtain ⟨pv, hty, hne, hcs, v, hv, hV⟩ := ih e ci _ hse htr
              obtain ⟨_, c1, c2⟩ := World.cells?_some hci
              refine ⟨es ++ [pv], us ++ ci, by simp [e1], by simp [e2, c1, Nat.add_mul], Es.append.2 ⟨us, ci, [], [], rfl, rfl, e3, ?_⟩, ?_, ?_⟩
              · simp only [Es]
                refine ⟨v, [], [], [], by simp [hv], by rw [← Array.length_toList, hv, c1], fun u hu => ?_, hne, hV, ⟨rfl, rfl⟩, rfl⟩
                exact hcs.one u (by rw [← hv]; simpa using hu)
              · intro i u hu
                by_cases hi : i < us.length
                · rw [List.getElem?_append_left hi] at hu; exact e4 i u hu
                · rw [List.getElem?_append_right (by omega)] at hu
                  have hi2 : i - us.length < ci.length := (List.getElem?_eq_some_iff.1 hu).1
                  have := c2 (i - us.length) (by omega)
                  rw [add_add', hu] at this
                  rw [← this]
                  congr 2
                  omega
              · intro y hy
                rcases List.mem_append.1 hy with hy | hy
                · exact e5 y hy
                · simp only [List.mem_singleton] at hy; subst hy; exact hty
          obtain ⟨es, us, e1, e2, e3, e4, e5⟩ := key len (Nat.le_refl _)
          refine ⟨.sl es, by simp only [Ty, ht]; exact ⟨es, rfl, by omega, e5⟩, told_one (by simp) rfl rfl rfl ?_⟩
          simp only [V]
          refine ⟨trivial, some a, cap, us, P.cellsOf e, by rw [e1], by omega, hm, fun hpos => ⟨a, rfl, ?_, e4⟩, e3⟩
          have h0 : 0 < elems.length := by omega
          have := hel 0 (by omega)
          rw [List.getElem?_eq_getElem h0, Option.bind_eq_some_iff] at this
          obtain ⟨ci, hci, _⟩ := this
          have hblk := World.cells?_block hci hk
          have hab : (a.add (0 * P.cellsOf e)).block = a.block := by unfold Addr.add; split <;> rfl
          rw [hab] at hblk
          exact hR _ hblk
      | struct fs =>
        simp only [Bool.and_eq_true] at hs
        obtain ⟨hcon, hall⟩ := hs
        obtain ⟨xs, n, hn, _, hlen, hxl, hf⟩ := DataW.trod_struct ht h
        obtain rfl : m = n := by omega
        have key : ∀ (l : List Field) (o : Nat) (k : Nat), (∀ i, l[i]? = fs.toList[k + i]?) → contig P l o (P.cellsOf t) = true → o ≤ cs.length → 
            ∃ ps : List PV, ps.length = l.length ∧ Cs w R σ (ps.flatMap PV.cells) (cs.drop o) [] ∧ ∀ (i : Nat) (f : Field) (p : PV), l[i]? = some f → ps[i]? = some p → Ty P m f.type p := by
          intro l
          induction l with
          | nil =>
            intro o k hl hc ho
            simp only [contig, beq_iff_eq] at hc
            refine ⟨[], rfl, ?_, by simp⟩
            rw [List.drop_eq_nil_of_le (by omega)]
            simp [Cs]
          | cons f l ihl =>
            intro o k hl hc ho
            simp only [contig, Bool.and_eq_true, beq_iff_eq] at hc
            obtain ⟨rfl, hc⟩ := hc
            have hfk : fs.toList[k]? = some f := by have := hl 0; simpa using this.symm
            have hmem : f ∈ fs.toList := List.mem_of_getElem? hfk
            have hfa : fs[k]? = some f := by simpa using hfk
            have hk' : k < xs.length := by rw [hxl]; have := (Array.getElem?_eq_some_iff.1 hfa).1; omega
            have htr := hf k f hfa
            rw [List.getElem?_eq_getElem hk'] at htr
            obtain ⟨pv, hty, hne, hcs, v, hv, hV⟩ := ih f.type _ _ (List.all_eq_true.1 hall f hmem) htr
            have hle := contig_le hc
            obtain ⟨ps, p1, p2, p3⟩ := ihl _ (k + 1) (fun i => by have := hl (i + 1); rw [List.getElem?_cons_succ] at this; rw [this]; congr 1; omega) hc (by omega)
            refine ⟨pv :: ps, by simp [p1], ?_, ?_⟩
            · rw [List.flatMap_cons]
              refine Cs.append.2 ⟨(cs.drop f.offset).take (P.cellsOf f.type), cs.drop (f.offset + P.cellsOf f.type), [], [], ?_, rfl, hcs, p2⟩
              rw [← List.drop_drop, List.take_append_drop]
            · intro i f' p' hi hp
              cases i with
              | zero => simp at hi hp; subst hi hp; exact hty
              | succ i => exact p3 i f' p' (by simpa using hi) (by simpa using hp)
        obtain ⟨ps, p1, p2, p3⟩ := key fs.toList 0 0 (fun i => by simp) hcon (Nat.zero_le _)
        rw [List.drop_zero] at p2
        refine ⟨.agg (ps.flatMap PV.cells), by simp only [Ty, ht]; exact ⟨ps, rfl, by simpa using p1, p3⟩, by simp, p2, .agg cs.toArray, by simp [Value.cells], ?_⟩
        simp only [V]
        exact ⟨cs, rfl, p2⟩
      | _ => cases hs
/-- An argument that came in. -/
theorem arg_told {T : List TypeId} (hT : closedTys P T = true) (hR : ∀ b, b < w.heap.size → R b) {t : TypeId} {v : Value} {d : DataW H} {ps : List MemPlace} (ht : T.contains t = true)
    (h : DataW.Trod enc P w base spare held t v d ps) : ∃ n pv, Ty P n t pv ∧ Told w R σ pv v.cells.toList := by
  obtain ⟨fuel, h⟩ := h
  obtain ⟨pv, h1, h2⟩ := trod_told2 (R := R) (σ := σ) hT hR _ _ _ _ ht h
  exact ⟨fuel, pv, h1, h2⟩
end
end Go.Proofs.YtanbccpabgcmaaaGreatDoor.PVE
