/- The PV engine, part 5: operations that only yield a value. -/
import Derived.Test.YtfphffeonmjfcaaE4
set_option linter.unusedVariables false
set_option linter.unusedSimpArgs false
set_option linter.unusedSectionVars false
namespace Go.Proofs.Ytfphffeonmjfcaa.PVE
open PV

/-- A cell of a zero value. -/
def zv : PV → Option Value
  | .int k n => some (.int k n)
  | .bool b => some (.bool b)
  | .str s => some (.string ⟨s.toArray⟩)
  | .slo _ [] => some (.slice none 0 0)
  | .lit v => if v.oneCell' then some v else none
  | _ => none

/-- The engine's table of types tells the truth. -/
def DescOk (P : Program) (T : Nat → Option TyI) (t : Nat) : TyD → Prop
  | .int k => P.underlying t = some (.int k)
  | .bool => P.underlying t = some .bool
  | .str => P.underlying t = some .string
  | .slice e => P.underlying t = some (.slice e)
  | .ptr e => P.underlying t = some (.pointer e)
  | .struct fs => ∃ fds : Array Field, P.underlying t = some (.struct fds) ∧ fds.toList.map (fun f => (f.offset, f.type)) = fs ∧ ∀ f ∈ fds.toList, ∃ ti, P.info? f.type = some ti ∧ ti.size ≠ 0
  | .other => ∃ d, P.underlying t = some d ∧ (match d with | .struct _ | .array _ _ => False | _ => True)
def TyOk (P : Program) (T : Nat → Option TyI) : Prop := ∀ t i, T t = some i → DescOk P T t i.d ∧
  ∃ ti z, P.info? t = some ti ∧ ti.zero = some z ∧ ti.size = i.size ∧ ti.bytes = i.bytes ∧ z.cells.size = i.size ∧ 0 < i.size ∧ (isAggT i = true → ∃ us, z = .agg us) ∧ (isAggT i = false → z.oneCell' = true) ∧ i.zero.map zv = z.cells.toList.map some

theorem zv_V {w : World} {R : Nat → Prop} {σ : Nat → Option Hd} {c : PV} {u : Value} (h : zv c = some u) : V w R σ c u [] ∧ u.oneCell' = true ∧ c ≠ .undef := by
  cases c with
  | slo sz es =>
    cases es with
    | nil =>
      simp [zv] at h; subst h
      refine ⟨?_, rfl, by simp⟩
      simp only [V]
      exact ⟨[], [], ⟨by simp, .inl ⟨rfl, rfl⟩⟩, by simp [Es], rfl⟩
    | cons _ _ => simp [zv] at h
  | lit v =>
    simp only [zv] at h
    split at h
    · rename_i hv; simp at h; subst h; exact ⟨by simp [V, hv], hv, by simp⟩
    · cases h
  | _ => simp [zv] at h <;> subst h <;> simp [V, Value.oneCell']
theorem zv_Cs {w : World} {R : Nat → Prop} {σ : Nat → Option Hd} : ∀ {cs : List PV} {us : List Value}, cs.map zv = us.map some → Cs w R σ cs us [] ∧ ∀ c ∈ cs, c ≠ .undef
  | [], us, h => by simp at h; subst h; simp [Cs]
  | c :: cs, [], h => by simp at h
  | c :: cs, u :: us, h => by
    simp only [List.map_cons, List.cons.injEq] at h
    obtain ⟨h1, h2, h3⟩ := zv_V (w := w) (R := R) (σ := σ) h.1
    obtain ⟨h4, h5⟩ := zv_Cs (w := w) (R := R) (σ := σ) h.2
    refine ⟨?_, ?_⟩
    · simp only [Cs]; exact ⟨u, us, [], [], rfl, h2, h1, h4, rfl⟩
    · intro x hx; rcases List.mem_cons.1 hx with rfl | hx
      · exact h3
      · exact h5 x hx

section
variable {P : Program} {E : Env} {w0 : World} {R0 : Nat → Prop} {F0 : List Nat} {gh : Nat → Value} {n : Nat} {R : Nat → Prop} {σ : Nat → Option Hd} {fps : Nat → List Nat} {st : St} {a : Act} {w : World}

theorem leaf_V {v : Value} (hv : v.oneCell' = true) : V w R σ (leafPV v) v [] := by
  cases v with
  | slice A n c =>
    cases A with
    | none =>
      cases n with
      | zero =>
        cases c with
        | zero =>
          simp only [leafPV, V]
          exact ⟨[], [], ⟨by simp, .inl ⟨rfl, rfl⟩⟩, by simp [Es], rfl⟩
        | succ c => simp [leafPV, V, Value.oneCell']
      | succ n => simp [leafPV, V, Value.oneCell']
    | some A => simp [leafPV, V, Value.oneCell']
  | _ => simp_all [leafPV, V, Value.oneCell']
theorem leaf_Cs : ∀ {us : List Value}, us.all (·.oneCell') = true → Cs w R σ (us.map leafPV) us []
  | [], _ => by simp [Cs]
  | u :: us, h => by
    simp only [List.all_cons, Bool.and_eq_true] at h
    simp only [List.map_cons, Cs]
    exact ⟨u, us, [], [], rfl, h.1, leaf_V h.1, leaf_Cs h.2, rfl⟩
theorem const_V (v : Value) : V w R σ (constPV v) v [] := by
  cases v with
  | slice A n c =>
    cases A with
    | none =>
      cases n with
      | zero => cases c <;> simp [constPV, V, Value.oneCell']
      | succ n => simp [constPV, V, Value.oneCell']
    | some A => simp [constPV, V, Value.oneCell']
  | agg cs =>
    simp only [constPV]
    split
    · rename_i h; simp only [V]; exact ⟨cs.toList, by simp, leaf_Cs h⟩
    · simp [V]
  | _ => simp_all [constPV, V, Value.oneCell']

theorem ev_V (h : Rel w0 R0 F0 gh E.G n R σ fps st a w) (x : Operand) : V w R σ (ev E st x) (a.eval x) [] := by
  cases x with
  | tmp t =>
    have := h.tm t
    unfold tmv at this
    simp only [ev]
    split
    · rename_i hlt; simp only [hlt, if_true] at this; exact this
    · simp [V]
  | const v => exact const_V v
  | global g =>
    simp only [ev, Act.eval]
    cases hg : E.G g with
    | none => simp [V]
    | some cs => exact V.mono (fun _ h => h) (fun _ _ h => by simp at h) (fun _ _ => rfl) _ _ _ (by simp) (h.gl g cs hg)
  | func f => simp only [ev, Act.eval, V]; exact ⟨[], rfl, trivial, by simp [Ts]⟩

/-- The operation is carried out, and the states stand as before. -/
def Out (P : Program) (E : Env) (w0 : World) (R0 : Nat → Prop) (F0 : List Nat) (gh : Nat → Value) (n : Nat) (st : St) (o : Oper) (a : Act) (w : World) (e : Eff) : Prop :=
  ∃ nx u w' R' σ' fps', (execOp a.eval o).run P w = .ok nx w' ∧ (nx = .value u ∨ (nx = .skip ∧ u = Go.undef)) ∧ Rel w0 R0 F0 gh E.G n R' σ' fps' (st.app o.dst e) (a.put o.dst u) w'

theorem out_plain {o : Oper} {v : PV} {u : Value} {p : Prop} {e : Eff} (h : Rel w0 R0 F0 gh E.G n R σ fps st a w) (hd : dstOk n o.dst) (he : plainE st v = some (p, e)) (hv : V w R σ v u []) (hr : (execOp a.eval o).run P w = .ok (.value u) w) : Out P E w0 R0 F0 gh n st o a w e := by
  simp only [plainE, Option.some.injEq, Prod.mk.injEq] at he
  obtain ⟨_, rfl⟩ := he
  exact ⟨_, u, w, R, σ, fps, hr, .inl rfl, h.value hd hv⟩
theorem out_val {o : Oper} {v : PV} {u : Value} (h : Rel w0 R0 F0 gh E.G n R σ fps st a w) (hd : dstOk n o.dst) (hv : V w R σ v u []) (hr : (execOp a.eval o).run P w = .ok (.value u) w) : Out P E w0 R0 F0 gh n st o a w ⟨v, [], [], st.next⟩ :=
  ⟨_, u, w, R, σ, fps, hr, .inl rfl, h.value hd hv⟩

/-! ### Binary operations -/
theorem beq_dec {α : Type} [BEq α] [LawfulBEq α] [DecidableEq α] (a b : α) : (a == b) = decide (a = b) := by by_cases h : a = b <;> simp [h]
theorem decide_toList (x y : List UInt8) : ((ByteArray.mk x.toArray).toList == (ByteArray.mk y.toArray).toList) = decide (x = y) := by
  rw [ByteArray.toList_mk, ByteArray.toList_mk]
  by_cases h : x = y <;> simp [h]

theorem bin_sound (hT : TyOk P E.T) {t : Nat} {op : BinOp} {x y : PV} {u v : Value} {p : Prop} {r : PV} {xo yo : Operand} (he : binE E t op x y = some (p, r)) (hp : p) (hx : V w R σ x u []) (hy : V w R σ y v []) :
    ∃ z, (do eqGuard op t xo yo u v; binOp op t u v : Sem Value).run P w = .ok z w ∧ V w R σ r z [] := by
  cases x <;> cases y <;> simp only [binE] at he <;> try (cases he; done)
  · -- bools
    rename_i a b
    simp only [V] at hx hy
    obtain ⟨rfl, _⟩ := hx
    obtain ⟨rfl, _⟩ := hy
    split at he
    · rename_i sz by_ ze hTt
      have ht : P.underlying t = some .bool := (hT t _ hTt).1
      cases op <;> simp only [Option.some.injEq, Prod.mk.injEq, reduceCtorEq] at he
      · obtain ⟨_, rfl⟩ := he
        exact ⟨.bool (a == b), by simp [eqGuard_at_bool, run_eql_bool w t a b ht], by simp [V]⟩
      · obtain ⟨_, rfl⟩ := he
        exact ⟨.bool (!(a == b)), by simp [eqGuard_at_bool, run_neq_bool w t a b ht], by simp [V]⟩
    · cases he
  · -- whole numbers
    rename_i k a k' b
    simp only [V] at hx hy
    obtain ⟨rfl, _⟩ := hx
    obtain ⟨rfl, _⟩ := hy
    split at he
    · rename_i hk
      subst hk
      cases op <;> simp only [intBin, Option.some.injEq, Prod.mk.injEq, reduceCtorEq] at he <;> obtain ⟨rfl, rfl⟩ := he
      · exact ⟨.int k (k.wrap (a + b)), by simp [eqGuard_at_int, binOp_add, Op.intArith], by simp [V]⟩
      · exact ⟨.int k (k.wrap (a - b)), by simp [eqGuard_at_int, binOp_sub, Op.intArith], by simp [V]⟩
      · exact ⟨.int k (k.wrap (a * b)), by simp [eqGuard_at_int, binOp_mul, Op.intArith], by simp [V]⟩
      · exact ⟨.int k (k.wrap (a.tdiv b)), by simp [eqGuard_at_int, binOp_quo, Op.intDiv, hp], by simp [V]⟩
      · exact ⟨.int k (a.tmod b), by simp [eqGuard_at_int, binOp_rem, Op.intDiv, hp], by simp [V]⟩
      · exact ⟨.int k (bits .and k a b), by simp [eqGuard_at_int, binOp_and, intBits_and], by simp [V]⟩
      · exact ⟨.int k (bits .or k a b), by simp [eqGuard_at_int, binOp_or, intBits_or], by simp [V]⟩
      · exact ⟨.int k (bits .xor k a b), by simp [eqGuard_at_int, binOp_xor, intBits_xor], by simp [V]⟩
      · exact ⟨.bool (a == b), by simp [eqGuard_at_int, binOp_eql], by simp [V, beq_dec]⟩
      · exact ⟨.bool (a != b), by simp [eqGuard_at_int, binOp_neq], by simp [V, bne, beq_dec]⟩
      · exact ⟨.bool (decide (a < b)), by simp [eqGuard_at_int, binOp_lss], by simp [V]⟩
      · exact ⟨.bool (decide (a ≤ b)), by simp [eqGuard_at_int, binOp_leq], by simp [V]⟩
      · exact ⟨.bool (decide (b < a)), by simp [eqGuard_at_int, binOp_gtr], by simp [V]⟩
      · exact ⟨.bool (decide (b ≤ a)), by simp [eqGuard_at_int, binOp_geq], by simp [V]⟩
    · cases he
  · -- strings
    rename_i a b
    simp only [V] at hx hy
    obtain ⟨rfl, _⟩ := hx
    obtain ⟨rfl, _⟩ := hy
    have hbin : ∀ op, (do eqGuard op t xo yo (.string ⟨a.toArray⟩) (.string ⟨b.toArray⟩); binOp op t (.string ⟨a.toArray⟩) (.string ⟨b.toArray⟩) : Sem Value).run P w = (binOp op t (.string ⟨a.toArray⟩) (.string ⟨b.toArray⟩)).run P w := by
      intro op; simp [eqGuard_at_string]
    have hso : ∀ op, binOp op t (.string ⟨a.toArray⟩) (.string ⟨b.toArray⟩) = Op.stringOp op ⟨a.toArray⟩ ⟨b.toArray⟩ := by
      intro op; cases op <;> simp [binOp]
    rw [hbin, hso]
    cases op <;> simp only [strBin, Option.some.injEq, Prod.mk.injEq, reduceCtorEq] at he <;> obtain ⟨rfl, rfl⟩ := he
    · refine ⟨_, run_string_add_sum w _ _ (by simpa [ByteArray.size] using hp), ?_⟩
      simp only [V]
      refine ⟨?_, trivial⟩
      congr 1
    all_goals (refine ⟨_, by simp only [Op.stringOp]; rfl, ?_⟩; simp only [V, decide_toList, ByteArray.toList_mk]; try simp [beq_dec])
end

end Go.Proofs.Ytfphffeonmjfcaa.PVE
