/- The PV engine, part 5: operations that only yield a value. -/
import Derived.Test.YtanbccpabgcmaaaGreatDoorE4
set_option linter.unusedVariables false
set_option linter.unusedSimpArgs false
set_option linter.unusedSectionVars false
namespace Go.Proofs.YtanbccpabgcmaaaGreatDoor.PVE
open PV

/-- A cell of a zero value. -/
def zv : PV → Option Value
  | .int k n => some (.int k n)
  | .bool b => some (.bool b)
  | .str s => some (.string ⟨s.toArray⟩)
  | .slo _ [] => some (.slice none 0 0)
  | .lit v => if v.oneCell' then some v else none
  | _ => none

/-- The engine's table of types tells the truth. -/
def DescOk (P : Program) (T : Nat → Option TyI) (t : Nat) : TyD → Prop
  | .int k => P.underlying t = some (.int k)
  | .bool => P.underlying t = some .bool
  | .str => P.underlying t = some .string
  | .slice e => P.underlying t = some (.slice e)
  | .ptr e => P.underlying t = some (.pointer e)
  | .struct fs => ∃ fds : Array Field, P.underlying t = some (.struct fds) ∧ fds.toList.map (fun f => (f.offset, f.type)) = fs ∧ ∀ f ∈ fds.toList, ∃ ti, P.info? f.type = some ti ∧ ti.size ≠ 0
  | .other => ∃ d, P.underlying t = some d ∧ (match d with | .struct _ | .array _ _ => False | _ => True)
def TyOk (P : Program) (T : Nat → Option TyI) : Prop := ∀ t i, T t = some i → DescOk P T t i.d ∧
  ∃ ti z, P.info? t = some ti ∧ ti.zero = some z ∧ ti.size = i.size ∧ ti.bytes = i.bytes ∧ z.cells.size = i.size ∧ 0 < i.size ∧ (isAggT i = true → ∃ us, z = .agg us) ∧ (isAggT i = false → z.oneCell' = true) ∧ i.zero.map zv = z.cells.toList.map some

theorem zv_V {w : World} {R : Nat → Prop} {σ : Nat → Option Hd} {c : PV} {u : Value} (h : zv c = some u) : V w R σ c u [] ∧ u.oneCell' = true ∧ c ≠ .undef := by
  cases c with
  | slo sz es =>
    cases es with
    | nil =>
      simp [zv] at h; subst h
      refine ⟨?_, rfl, by simp⟩
      simp only [V]
      exact ⟨[], [], ⟨by simp, .inl ⟨rfl, rfl⟩⟩, by simp [Es], rfl⟩
    | cons _ _ => simp [zv] at h
  | lit v =>
    simp only [zv] at h
    split at h
    · rename_i hv; simp at h; subst h; exact ⟨by simp [V, hv], hv, by simp⟩
    · cases h
  | _ => simp [zv] at h <;> subst h <;> simp [V, Value.oneCell']
theorem zv_Cs {w : World} {R : Nat → Prop} {σ : Nat → Option Hd} : ∀ {cs : List PV} {us : List Value}, cs.map zv = us.map some → Cs w R σ cs us [] ∧ ∀ c ∈ cs, c ≠ .undef
  | [], us, h => by simp at h; subst h; simp [Cs]
  | c :: cs, [], h => by simp at h
  | c :: cs, u :: us, h => by
    simp only [List.map_cons, List.cons.injEq] at h
    obtain ⟨h1, h2, h3⟩ := zv_V (w := w) (R := R) (σ := σ) h.1
    obtain ⟨h4, h5⟩ := zv_Cs (w := w) (R := R) (σ := σ) h.2
    refine ⟨?_, ?_⟩
    · simp only [Cs]; exact ⟨u, us, [], [], rfl, h2, h1, h4, rfl⟩
    · intro x hx; rcases List.mem_cons.1 hx with rfl | hx
      · exact h3
      · exact h5 x hx

section
variable {P : Program} {E : Env} {w0 : World} {R0 : Nat → Prop} {F0 : List Nat} {gh : Nat → Value} {n : Nat} {Fr : Nat → Prop} {R : Nat → Prop} {σ : Nat → Option Hd} {fps : Nat → List Nat} {st : St} {a : Act} {w : World}

theorem leaf_V {v : Value} (hv : v.oneCell' = true) : V w R σ (leafPV v) v [] := by
  cases v with
  | slice A n c =>
    cases A with
    | none =>
      cases n with
      | zero =>
        cases c with
        | zero =>
          simp only [leafPV, V]
          exact ⟨[], [], ⟨by simp, .inl ⟨rfl, rfl⟩⟩, by simp [Es], rfl⟩
        | succ c => simp [leafPV, V, Value.oneCell']
      | succ n => simp [leafPV, V, Value.oneCell']
    | some A => simp [leafPV, V, Value.oneCell']
  | _ => simp_all [leafPV, V, Value.oneCell']
theorem leaf_Cs : ∀ {us : List Value}, us.all (·.oneCell') = true → Cs w R σ (us.map leafPV) us []
  | [], _ => by simp [Cs]
  | u :: us, h => by
    simp only [List.all_cons, Bool.and_eq_true] at h
    simp only [List.map_cons, Cs]
    exact ⟨u, us, [], [], rfl, h.1, leaf_V h.1, leaf_Cs h.2, rfl⟩
theorem const_V (v : Value) : V w R σ (constPV v) v [] := by
  cases v with
  | slice A n c =>
    cases A with
    | none =>
      cases n with
      | zero => cases c <;> simp [constPV, V, Value.oneCell']
      | succ n => simp [constPV, V, Value.oneCell']
    | some A => simp [constPV, V, Value.oneCell']
  | agg cs =>
    simp only [constPV]
    split
    · rename_i h; simp only [V]; exact ⟨cs.toList, by simp, leaf_Cs h⟩
    · simp [V]
  | _ => simp_all [constPV, V, Value.oneCell']

theorem ev_V (h : Rel w0 R0 F0 gh E.G n Fr R σ fps st a w) (x : Operand) : V w R σ (ev E st x) (a.eval x) [] := by
  cases x with
  | tmp t =>
    have := h.tm t
    unfold tmv at this
    simp only [ev]
    split
    · rename_i hlt; simp only [hlt, if_true] at this; exact this
    · simp [V]
  | const v => exact const_V v
  | global g =>
    simp only [ev, Act.eval]
    cases hg : E.G g with
    | none => simp [V]
    | some cs => exact V.mono (fun _ h => h) (fun _ _ h => by simp at h) (fun _ _ => rfl) _ _ _ (by simp) (h.gl g cs hg).1
  | func f => simp only [ev, Act.eval, V]; exact ⟨[], rfl, trivial, by simp [Ts]⟩

/-- The operation is carried out, and the states stand as before. -/
def Out (P : Program) (E : Env) (w0 : World) (R0 : Nat → Prop) (F0 : List Nat) (gh : Nat → Value) (n : Nat) (Fr : Nat → Prop) (st : St) (o : Oper) (a : Act) (w : World) (e : Eff) : Prop :=
  (∀ r, st.next ≤ r → r < e.nx → Fr r) → ∃ nx u w' R' σ' fps', (execOp a.eval o).run P w = .ok nx w' ∧ (nx = .value u ∨ (nx = .skip ∧ u = Go.undef)) ∧ Rel w0 R0 F0 gh E.G n (frA Fr st.next e.nx) R' σ' fps' (st.app o.dst e) (a.put o.dst u) w'

theorem out_plain {o : Oper} {v : PV} {u : Value} {p : Prop} {e : Eff} (h : Rel w0 R0 F0 gh E.G n Fr R σ fps st a w) (hd : dstOk n o.dst) (he : plainE st v = some (p, e)) (hv : V w R σ v u []) (hr : (execOp a.eval o).run P w = .ok (.value u) w) : Out P E w0 R0 F0 gh n Fr st o a w e := by
  simp only [plainE, Option.some.injEq, Prod.mk.injEq] at he
  obtain ⟨_, rfl⟩ := he
  exact fun _ => ⟨_, u, w, R, σ, fps, hr, .inl rfl, h.value hd hv⟩
theorem out_val {o : Oper} {v : PV} {u : Value} (h : Rel w0 R0 F0 gh E.G n Fr R σ fps st a w) (hd : dstOk n o.dst) (hv : V w R σ v u []) (hr : (execOp a.eval o).run P w = .ok (.value u) w) : Out P E w0 R0 F0 gh n Fr st o a w ⟨v, [], [], st.next⟩ :=
  fun _ => ⟨_, u, w, R, σ, fps, hr, .inl rfl, h.value hd hv⟩

/-! ### Binary operations -/
def scalarT (P : Program) (t : Nat) : Option Nat := match P.underlying t with
  | some (.int _) => some 0
  | some .bool => some 1
  | some .string => some 2
  | _ => none
def flatF (P : Program) : List Field → Nat → Option (List Nat)
  | [], _ => some []
  | f :: fs, o => if f.name ≠ "_" ∧ f.offset = o then match scalarT P f.type, flatF P fs (o + 1) with
    | some k, some ks => some (k :: ks)
    | _, _ => none else none
/-- A struct of numbers, bools and strings: compared cell by cell. -/
def flatS (P : Program) (t : Nat) : Option (List Nat) := if P.stoodInHeld t = false ∧ P.eqGuardType P.depth t = false then match P.underlying t with
  | some (.struct fs) => flatF P fs.toList 0
  | _ => none else none
def SOk (P : Program) (S : Nat → Option (List Nat)) : Prop := ∀ t ks, S t = some ks → flatS P t = some ks
theorem run_part_scalar {t k : Nat} (ht : scalarT P t = some k) {cs : Array Value} {o : Nat} {v : Value} (hv : cs[o]? = some v) (w : World) : (part t cs o).run P w = .ok v w := by
  have hag : (isAgg t).run P w = .ok false w := by
    unfold scalarT at ht
    split at ht
    · rename_i k hu; simp [isAgg, run_underlying hu]
    · rename_i hu; simp [isAgg, run_underlying hu]
    · rename_i hu; simp [isAgg, run_underlying hu]
    · cases ht
  simp only [part, Sem.run_bind, hag, Result.andThen_ok, Bool.false_eq_true, if_false, hv, Sem.run_pure]
theorem beq_dec {α : Type} [BEq α] [LawfulBEq α] [DecidableEq α] (a b : α) : (a == b) = decide (a = b) := by by_cases h : a = b <;> simp [h]
theorem decide_toList (x y : List UInt8) : ((ByteArray.mk x.toArray).toList == (ByteArray.mk y.toArray).toList) = decide (x = y) := by
  rw [ByteArray.toList_mk, ByteArray.toList_mk]
  by_cases h : x = y <;> simp [h]
theorem eqFields_run (d : Nat) (xs ys : Array Value) : ∀ (fs : List Field) (o : Nat) (ks : List Nat) (cs ds : List PV) (r : Bool), flatF P fs o = some ks → Cs w R σ cs (xs.toList.drop o) [] → Cs w R σ ds (ys.toList.drop o) [] → eqCells ks cs ds = some r →
    (Op.eqFields (d + 1) xs ys fs).run P w = .ok r w
  | [], o, ks, cs, ds, r, hf, _, _, he => by
    simp only [flatF, Option.some.injEq] at hf
    subst hf
    cases cs <;> cases ds <;> simp [eqCells] at he
    subst he
    simp [Op.eqFields]
  | f :: fs, o, ks, cs, ds, r, hf, hx, hy, he => by
    simp only [flatF] at hf
    split at hf
    case isFalse => cases hf
    rename_i hno
    obtain ⟨hn, rfl⟩ := hno
    split at hf
    case h_2 => cases hf
    rename_i k ks' hk hks
    simp only [Option.some.injEq] at hf
    subst hf
    have key : ∀ (c e : PV) (cs ds : List PV) (r' : Bool) (b : Bool), Cs w R σ (c :: cs) (xs.toList.drop f.offset) [] → Cs w R σ (e :: ds) (ys.toList.drop f.offset) [] → eqCells ks' cs ds = some r' →
        (∀ u v, V w R σ c u [] → V w R σ e v [] → (Op.equalIn (d + 1) f.type u v).run P w = .ok b w) → r = (b && r') → (Op.eqFields (d + 1) xs ys (f :: fs)).run P w = .ok r w := by
      intro c e cs ds r' b hx hy hr' hb hr
      simp only [Cs] at hx hy
      obtain ⟨u, us, f1, f2, hxe, _, hu, hxs, hf12⟩ := hx
      obtain ⟨v, vs, g1, g2, hye, _, hv, hys, hg12⟩ := hy
      obtain ⟨rfl, rfl⟩ : f1 = [] ∧ f2 = [] := by simpa using hf12.symm
      obtain ⟨rfl, rfl⟩ : g1 = [] ∧ g2 = [] := by simpa using hg12.symm
      have hx0 : xs[f.offset]? = some u := by
        have := congrArg (·[0]?) hxe
        simpa using this
      have hy0 : ys[f.offset]? = some v := by
        have := congrArg (·[0]?) hye
        simpa using this
      have hxt : us = xs.toList.drop (f.offset + 1) := by
        have := congrArg List.tail hxe
        simpa using this.symm
      have hyt : vs = ys.toList.drop (f.offset + 1) := by
        have := congrArg List.tail hye
        simpa using this.symm
      subst hxt hyt
      have ih := eqFields_run d xs ys fs (f.offset + 1) ks' cs ds r' hks hxs hys hr'
      simp only [Op.eqFields, hn, ne_eq, not_false_eq_true, if_true, Sem.run_bind, run_part_scalar hk hx0, run_part_scalar hk hy0, Result.andThen_ok, hb u v hu hv]
      cases b with
      | true => simp only [Bool.not_true, Bool.false_eq_true, if_false]; rw [ih, hr]; simp
      | false => simp [hr]
    have hmap : ∀ (x : Option Bool) (g : Bool → Bool), x.map g = some r → ∃ r', x = some r' ∧ r = g r' := by
      intro x g h
      cases x with
      | none => cases h
      | some r' => simp at h; exact ⟨r', rfl, h.symm⟩
    unfold scalarT at hk
    split at hk
    · rename_i k0 hut
      obtain rfl : 0 = k := by simpa using hk
      cases cs with
      | nil => simp [eqCells] at he
      | cons c cs => cases ds with
        | nil => cases c <;> simp [eqCells] at he
        | cons e ds =>
          cases c <;> cases e <;> simp only [eqCells] at he <;> try (cases he; done)
          split at he
          case isFalse => cases he
          rename_i hkk
          subst hkk
          obtain ⟨r', h1, h2⟩ := hmap _ _ he
          refine key _ _ _ _ r' _ hx hy h1 (fun u v hu hv => ?_) h2
          simp only [V] at hu hv
          rw [hu.1, hv.1, run_equalIn_int w d f.type _ _ _ _ hut, beq_dec]
    · rename_i hut
      obtain rfl : 1 = k := by simpa using hk
      cases cs with
      | nil => simp [eqCells] at he
      | cons c cs => cases ds with
        | nil => cases c <;> simp [eqCells] at he
        | cons e ds =>
          cases c <;> cases e <;> simp only [eqCells] at he <;> try (cases he; done)
          obtain ⟨r', h1, h2⟩ := hmap _ _ he
          refine key _ _ _ _ r' _ hx hy h1 (fun u v hu hv => ?_) h2
          simp only [V] at hu hv
          rw [hu.1, hv.1, run_equalIn_bool w d f.type _ _ hut]
    · rename_i hut
      obtain rfl : 2 = k := by simpa using hk
      cases cs with
      | nil => simp [eqCells] at he
      | cons c cs => cases ds with
        | nil => cases c <;> simp [eqCells] at he
        | cons e ds =>
          cases c <;> cases e <;> simp only [eqCells] at he <;> try (cases he; done)
          obtain ⟨r', h1, h2⟩ := hmap _ _ he
          refine key _ _ _ _ r' _ hx hy h1 (fun u v hu hv => ?_) h2
          simp only [V] at hu hv
          rw [hu.1, hv.1, run_equalIn_string w d f.type _ _ hut, decide_toList]
    · cases hk
theorem bin_sound (hT : TyOk P E.T) (hS : SOk P E.S) {t : Nat} {op : BinOp} {x y : PV} {u v : Value} {p : Prop} {r : PV} {xo yo : Operand} (he : binE E t op x y = some (p, r)) (hp : p) (hx : V w R σ x u []) (hy : V w R σ y v []) :
    ∃ z, (do eqGuard op t xo yo u v; binOp op t u v : Sem Value).run P w = .ok z w ∧ V w R σ r z [] := by
  by_cases hagg : ∃ a b, x = .agg a ∧ y = .agg b
  · obtain ⟨cs, ds, rfl, rfl⟩ := hagg
    simp only [binE] at he
    split at he
    case h_2 => cases he
    rename_i ks hks
    have hfl := hS t ks hks
    unfold flatS at hfl
    split at hfl
    case isFalse => cases hfl
    rename_i hcond
    split at hfl
    case h_2 => cases hfl
    rename_i fs hut
    simp only [V] at hx hy
    obtain ⟨xs, rfl, hxc⟩ := hx
    obtain ⟨ys, rfl, hyc⟩ := hy
    have hfo : P.fieldsOf t = fs := by simp [Program.fieldsOf, hut]
    cases hq : eqCells ks cs ds with
    | none => simp [aggBin, hq] at he
    | some b =>
      have hrun : (Op.equalIn 10000 t (.agg xs.toArray) (.agg ys.toArray)).run P w = .ok b w := by
        rw [run_equalIn_agg w 9999 t _ _ (by rw [hfo]; exact hut) hcond.1, hfo]
        exact eqFields_run 9998 _ _ fs.toList 0 ks cs ds b hfl (by simpa using hxc) (by simpa using hyc) hq
      cases op <;> simp only [aggBin, hq, Option.some.injEq, Prod.mk.injEq, reduceCtorEq] at he <;> obtain ⟨rfl, rfl⟩ := he
      · exact ⟨.bool b, by simp only [Sem.run_bind, run_eqGuard_agg w _ t xo yo _ _ hcond.2, Result.andThen_ok, run_eql_struct, hrun], by simp [V]⟩
      · exact ⟨.bool (!b), by simp only [Sem.run_bind, run_eqGuard_agg w _ t xo yo _ _ hcond.2, Result.andThen_ok, run_neq_struct, hrun], by simp [V]⟩
  have hagg' : ∀ a b, x = .agg a → y = .agg b → False := fun a b h1 h2 => hagg ⟨a, b, h1, h2⟩
  clear hagg
  cases x <;> cases y <;> simp only [binE] at he <;> try (first | (cases he; done) | (exact (hagg' _ _ rfl rfl).elim))
  · -- bools
    rename_i a b
    simp only [V] at hx hy
    obtain ⟨rfl, _⟩ := hx
    obtain ⟨rfl, _⟩ := hy
    split at he
    · rename_i sz by_ ze hTt
      have ht : P.underlying t = some .bool := (hT t _ hTt).1
      cases op <;> simp only [Option.some.injEq, Prod.mk.injEq, reduceCtorEq] at he
      · obtain ⟨_, rfl⟩ := he
        exact ⟨.bool (a == b), by simp [eqGuard_at_bool, run_eql_bool w t a b ht], by simp [V]⟩
      · obtain ⟨_, rfl⟩ := he
        exact ⟨.bool (!(a == b)), by simp [eqGuard_at_bool, run_neq_bool w t a b ht], by simp [V]⟩
    · cases he
  · -- whole numbers
    rename_i k a k' b
    simp only [V] at hx hy
    obtain ⟨rfl, _⟩ := hx
    obtain ⟨rfl, _⟩ := hy
    split at he
    · rename_i hk
      subst hk
      cases op <;> simp only [intBin, Option.some.injEq, Prod.mk.injEq, reduceCtorEq] at he <;> obtain ⟨rfl, rfl⟩ := he
      · exact ⟨.int k (k.wrap (a + b)), by simp [eqGuard_at_int, binOp_add, Op.intArith], by simp [V]⟩
      · exact ⟨.int k (k.wrap (a - b)), by simp [eqGuard_at_int, binOp_sub, Op.intArith], by simp [V]⟩
      · exact ⟨.int k (k.wrap (a * b)), by simp [eqGuard_at_int, binOp_mul, Op.intArith], by simp [V]⟩
      · exact ⟨.int k (k.wrap (a.tdiv b)), by simp [eqGuard_at_int, binOp_quo, Op.intDiv, hp], by simp [V]⟩
      · exact ⟨.int k (a.tmod b), by simp [eqGuard_at_int, binOp_rem, Op.intDiv, hp], by simp [V]⟩
      · exact ⟨.int k (bits .and k a b), by simp [eqGuard_at_int, binOp_and, intBits_and], by simp [V]⟩
      · exact ⟨.int k (bits .or k a b), by simp [eqGuard_at_int, binOp_or, intBits_or], by simp [V]⟩
      · exact ⟨.int k (bits .xor k a b), by simp [eqGuard_at_int, binOp_xor, intBits_xor], by simp [V]⟩
      · exact ⟨.bool (a == b), by simp [eqGuard_at_int, binOp_eql], by simp [V, beq_dec]⟩
      · exact ⟨.bool (a != b), by simp [eqGuard_at_int, binOp_neq], by simp [V, bne, beq_dec]⟩
      · exact ⟨.bool (decide (a < b)), by simp [eqGuard_at_int, binOp_lss], by simp [V]⟩
      · exact ⟨.bool (decide (a ≤ b)), by simp [eqGuard_at_int, binOp_leq], by simp [V]⟩
      · exact ⟨.bool (decide (b < a)), by simp [eqGuard_at_int, binOp_gtr], by simp [V]⟩
      · exact ⟨.bool (decide (b ≤ a)), by simp [eqGuard_at_int, binOp_geq], by simp [V]⟩
    · cases he
  · -- strings
    rename_i a b
    simp only [V] at hx hy
    obtain ⟨rfl, _⟩ := hx
    obtain ⟨rfl, _⟩ := hy
    have hbin : ∀ op, (do eqGuard op t xo yo (.string ⟨a.toArray⟩) (.string ⟨b.toArray⟩); binOp op t (.string ⟨a.toArray⟩) (.string ⟨b.toArray⟩) : Sem Value).run P w = (binOp op t (.string ⟨a.toArray⟩) (.string ⟨b.toArray⟩)).run P w := by
      intro op; simp [eqGuard_at_string]
    have hso : ∀ op, binOp op t (.string ⟨a.toArray⟩) (.string ⟨b.toArray⟩) = Op.stringOp op ⟨a.toArray⟩ ⟨b.toArray⟩ := by
      intro op; cases op <;> simp [binOp]
    rw [hbin, hso]
    cases op <;> simp only [strBin, Option.some.injEq, Prod.mk.injEq, reduceCtorEq] at he <;> obtain ⟨rfl, rfl⟩ := he
    · refine ⟨_, run_string_add_sum w _ _ (by simpa [ByteArray.size] using hp), ?_⟩
      simp only [V]
      refine ⟨?_, trivial⟩
      congr 1
    all_goals (refine ⟨_, by simp only [Op.stringOp]; rfl, ?_⟩; simp only [V, decide_toList, ByteArray.toList_mk]; try simp [beq_dec])
end

end Go.Proofs.YtanbccpabgcmaaaGreatDoor.PVE
