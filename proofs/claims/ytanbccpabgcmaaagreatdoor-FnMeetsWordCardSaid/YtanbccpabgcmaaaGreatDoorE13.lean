/- The PV engine, part 13: all operations but calls. -/
import Derived.Test.YtanbccpabgcmaaaGreatDoorE12
set_option linter.unusedVariables false
set_option linter.unusedSimpArgs false
set_option linter.unusedSectionVars false
namespace Go.Proofs.YtanbccpabgcmaaaGreatDoor.PVE
open PV

section
variable {P : Program} {E : Env} {w0 : World} {R0 : Nat → Prop} {F0 : List Nat} {gh : Nat → Value} {n : Nat} {Fr : Nat → Prop} {R : Nat → Prop} {σ : Nat → Option Hd} {fps : Nat → List Nat} {st : St} {a : Act} {w : World}

theorem Es.mem {sz : Nat} {es : List PV} {us : List Value} {f : List Nat} (h : Es w R σ sz es us f) (hf : f = []) {k : Nat} {e : PV} (he : es[k]? = some e) :
    ∃ us1, us1.length = sz ∧ (∀ j u, us1[j]? = some u → us[k * sz + j]? = some u) ∧ Cs w R σ e.cells us1 [] := by
  subst hf
  obtain ⟨u1, v, u2, f1, f, f2, rfl, hl, hs, hone, hu, hv, hff, _, _⟩ := h.at he
  obtain ⟨rfl, rfl, rfl⟩ : f1 = [] ∧ f = [] ∧ f2 = [] := by simpa using hff.symm
  refine ⟨v.cells.toList, by simpa using hs, fun j u hj => ?_, V.cellsOf hv hone hu⟩
  have hj' : j < v.cells.toList.length := (List.getElem?_eq_some_iff.1 hj).1
  rw [← hl, List.append_assoc, List.getElem?_append_right (by omega), Nat.add_sub_cancel_left, List.getElem?_append_left hj', hj]

theorem out_indexAddr (hT : TyOk P E.T) (h : Rel w0 R0 F0 gh E.G n Fr R σ fps st a w) {o : Oper} (hd : dstOk n o.dst) {t : Nat} {x ix : Operand} (ho : o.op = .indexAddr t x ix) {p : Prop} {e : Eff} (he : eff E st o.op = some (p, e)) (hp : p) : Out P E w0 R0 F0 gh n Fr st o a w e := by
  rw [ho] at he
  simp only [eff] at he
  have hx := ev_V h x
  have hix := ev_V h ix
  split at he
  case h_2 => cases he
  rename_i el sz0 b0 z0 hTt
  have ht : P.underlying t = some (.slice el) := (hT t _ hTt).1
  have htt : P.underlying t = some (.slice (P.elem t)) := by rw [ht]; simp [Program.elem, ht]
  have hel : P.elem t = el := by simp [Program.elem, ht]
  split at he
  case h_2 => cases he
  rename_i ti k m hTe hevi
  obtain ⟨_, tinf, z, g1, g2, g3, g4, g5, g6, g7, g8, g9⟩ := hT el ti hTe
  rw [hevi] at hix
  simp only [V] at hix
  have run : ∀ {ad : Addr} {len cap : Nat}, a.eval x = .slice (some ad) len cap → 0 ≤ m → m.toNat < len → (execOp a.eval o).run P w = .ok (.value (.pointer (some (ad.add (m.toNat * ti.size))))) w := by
    intro ad len cap hxv h0 hlt
    have : 0 ≤ m ∧ m < (len : Int) := ⟨h0, by omega⟩
    simp only [execOp, ho, Sem.run_bind, hxv, hix.1, run_indexAt_slice w t ad len cap k m htt, this, and_self, if_true, hel, sizeOf, typeInfo, run_program, Result.andThen_ok, g1, Sem.run_pure, g3]
  cases hev : ev E st x <;> rw [hev] at he hx <;> simp only at he <;> try (cases he; done)
  · rename_i es
    split at he
    case h_2 => cases he
    rename_i el' hes
    split at he
    case isFalse => cases he
    rename_i hcl
    simp only [Option.some.injEq, Prod.mk.injEq] at he
    obtain ⟨rfl, rfl⟩ := he
    simp only [V] at hx
    obtain ⟨_, A, cap, us, sz, hxv, k1, k2, k3, k4⟩ := hx
    have hlt := (List.getElem?_eq_some_iff.1 hes).1
    obtain ⟨ad, rfl, hR, hc⟩ := k3 (by omega)
    obtain ⟨us1, l1, l2, l3⟩ := k4.mem rfl hes
    have hsz : sz = ti.size := by rw [← l1, l3.length, hcl]
    subst hsz
    refine out_val h hd (u := .pointer (some (ad.add (m.toNat * ti.size)))) ?_ (run hxv hp hlt)
    simp only [V]
    exact ⟨trivial, _, us1, rfl, by rw [add_block]; exact hR, fun j u hj => by rw [add_add']; exact hc _ u (l2 j u hj), l3⟩
  · rename_i r
    split at he
    case h_2 => cases he
    rename_i sz es links hr
    split at he
    case h_2 => cases he
    rename_i el' hes
    split at he
    case isFalse => cases he
    rename_i hsz
    subst hsz
    simp only [Option.some.injEq, Prod.mk.injEq] at he
    obtain ⟨rfl, rfl⟩ := he
    obtain ⟨kk, q1, q2, q3⟩ := h.rt r _ hr
    simp only [V] at hx q2
    obtain ⟨_, k', hk', hxv, _⟩ := hx
    obtain rfl : kk = k' := by rw [q1] at hk'; exact Option.some.inj hk'
    obtain ⟨us, fp', hrow, hes', hfp⟩ := q2
    have hlt := (List.getElem?_eq_some_iff.1 hes).1
    rcases hrow.2 with ⟨_, h0⟩ | ⟨g, cap, cur, e', lo, hi, hh, _⟩
    · omega
    · refine out_val h hd (u := .pointer (some ((⟨g, 0, none⟩ : Addr).add (m.toNat * ti.size)))) ?_ (run (hxv.trans hh) hp hlt)
      simp only [V]
      simp only [RootTy] at q3
      exact ⟨trivial, kk, g, q1, by rw [hh]; rfl, by rw [add_lit', q3]; simp⟩
  · rename_i r x0 y0
    split at he
    case h_2 => cases he
    rename_i sz es links hr
    split at he
    case isFalse => cases he
    rename_i hsz
    subst hsz
    simp only [Option.some.injEq, Prod.mk.injEq] at he
    obtain ⟨rfl, rfl⟩ := he
    obtain ⟨kk, q1, q2, q3⟩ := h.rt r _ hr
    simp only [V] at hx q2
    obtain ⟨_, k', A, m', c, B, c', hk', hhv, r1, r2, hxv, r3, r4, r5⟩ := hx
    obtain rfl : kk = k' := by rw [q1] at hk'; exact Option.some.inj hk'
    obtain ⟨us, fp', hrow, hes', hfp⟩ := q2
    simp only [RootTy] at q3
    rcases hrow.2 with ⟨hh, h0⟩ | ⟨g, cap, cur, e', lo, hi, hh, _⟩
    · rw [hhv] at hh
      simp only [Value.slice.injEq] at hh
      omega
    · rw [hhv] at hh
      simp only [Value.slice.injEq] at hh
      obtain ⟨rfl, rfl, rfl⟩ := hh
      have hB := r5 (by omega)
      rw [hB] at hxv
      refine out_val h hd (u := .pointer (some (((⟨g, 0, none⟩ : Addr).add (x0 * kk.sz)).add (m.toNat * ti.size)))) ?_ (run hxv hp.1 hp.2)
      simp only [V]
      exact ⟨trivial, kk, g, q1, by rw [hhv]; rfl, by rw [add_add', add_lit', q3]; simp [Nat.add_mul]⟩

theorem out_fieldAddr (hT : TyOk P E.T) (h : Rel w0 R0 F0 gh E.G n Fr R σ fps st a w) {o : Oper} (hd : dstOk n o.dst) {t f : Nat} {x : Operand} (ho : o.op = .fieldAddr t x f) {p : Prop} {e : Eff} (he : eff E st o.op = some (p, e)) (hp : p) : Out P E w0 R0 F0 gh n Fr st o a w e := by
  rw [ho] at he
  simp only [eff] at he
  have hx := ev_V h x
  split at he
  case h_2 => cases he
  rename_i fs sz0 b0 z0 hTt
  obtain ⟨fds, hu, hfds, hfsz⟩ := (hT t _ hTt).1
  split at he
  case h_2 => cases he
  rename_i off ft hfs
  rw [← hfds, List.getElem?_map] at hfs
  cases hf : fds.toList[f]? with
  | none => rw [hf] at hfs; cases hfs
  | some fd =>
    rw [hf] at hfs
    simp only [Option.map_some, Option.some.injEq, Prod.mk.injEq] at hfs
    obtain ⟨rfl, rfl⟩ := hfs
    obtain ⟨tinf, g1, g2⟩ := hfsz fd (List.mem_of_getElem? hf)
    have hfa : fds[f]? = some fd := by simpa using hf
    have run : ∀ {ad : Addr}, a.eval x = .pointer (some ad) → (execOp a.eval o).run P w = .ok (.value (.pointer (some (ad.add fd.offset)))) w := by
      intro ad hxv
      simp [execOp, ho, hxv, Instr.fieldAt, run_underlying hu, hfa, Instr.sureAddr, fieldPlace, sizeOf, typeInfo, g1, g2]
    cases hev : ev E st x <;> rw [hev] at he hx <;> simp only at he <;> try (cases he; done)
    · simp only [V] at hx
      obtain ⟨_, ad, us, hxv, hR, hc, hcs⟩ := hx
      refine out_plain h hd he (u := .pointer (some (ad.add fd.offset))) ?_ (run hxv)
      simp only [V]
      refine ⟨trivial, _, us.drop fd.offset, rfl, by rw [add_block]; exact hR, fun j u hj => ?_, hcs.drop_ _⟩
      rw [List.getElem?_drop] at hj
      rw [add_add']; exact hc _ u hj
    · rename_i r i o'
      simp only [V] at hx
      obtain ⟨_, hh, b, k1, k2, hxv⟩ := hx
      refine out_plain h hd he (u := .pointer (some ((⟨b, i * hh.sz + o', none⟩ : Addr).add fd.offset))) ?_ (run hxv)
      simp only [V]
      exact ⟨trivial, hh, b, k1, k2, by rw [add_lit']; simp [Nat.add_assoc]⟩

theorem out_field (hT : TyOk P E.T) (h : Rel w0 R0 F0 gh E.G n Fr R σ fps st a w) {o : Oper} (hd : dstOk n o.dst) {t f : Nat} {x : Operand} (ho : o.op = .field t x f) {p : Prop} {e : Eff} (he : eff E st o.op = some (p, e)) (hp : p) : Out P E w0 R0 F0 gh n Fr st o a w e := by
  rw [ho] at he
  simp only [eff] at he
  have hx := ev_V h x
  split at he
  case h_2 => cases he
  rename_i fs sz0 b0 z0 hTt
  obtain ⟨fds, hu, hfds, hfsz⟩ := (hT t _ hTt).1
  split at he
  case h_2 => cases he
  rename_i off ft hfs
  rw [← hfds, List.getElem?_map] at hfs
  cases hf : fds.toList[f]? with
  | none => rw [hf] at hfs; cases hfs
  | some fd =>
    rw [hf] at hfs
    simp only [Option.map_some, Option.some.injEq, Prod.mk.injEq] at hfs
    obtain ⟨rfl, rfl⟩ := hfs
    have hfa : fds[f]? = some fd := by simpa using hf
    split at he
    case h_2 => cases he
    rename_i i cs hTf hev
    rw [hev] at hx
    simp only [V] at hx
    obtain ⟨us, hxv, hcs⟩ := hx
    obtain ⟨_, tinf, z, g1, g2, g3, g4, g5, g6, g7, g8, g9⟩ := hT _ i hTf
    have hag := run_isAgg hT hTf w
    split at he
    case isFalse => cases he
    rename_i hlen
    split at he
    · rename_i hb
      rw [hb] at hag
      refine out_plain h hd he (u := .agg ((us.drop fd.offset).take i.size).toArray) ?_ ?_
      · simp only [V]; exact ⟨_, rfl, (hcs.drop_ _).take_ _⟩
      · simp [execOp, ho, hxv, Instr.field, run_underlying hu, hfa, asAgg, part, hag, sizeOf, typeInfo, g1, g3]
    · rename_i hb
      have hb : isAggT i = false := by simpa using hb
      rw [hb] at hag
      split at he
      case h_2 => cases he
      rename_i c hc
      obtain ⟨u, f', k1, k2, k3, k4⟩ := hcs.at hc
      obtain rfl : f' = [] := List.eq_nil_iff_forall_not_mem.2 fun b hb => by simpa using k4 b hb
      refine out_plain h hd he (u := u) k3 ?_
      simp [execOp, ho, hxv, Instr.field, run_underlying hu, hfa, asAgg, part, hag, k1]

theorem out_index (hT : TyOk P E.T) (h : Rel w0 R0 F0 gh E.G n Fr R σ fps st a w) {o : Oper} (hd : dstOk n o.dst) {t : Nat} {x ix : Operand} (ho : o.op = .index t x ix) {p : Prop} {e : Eff} (he : eff E st o.op = some (p, e)) (hp : p) : Out P E w0 R0 F0 gh n Fr st o a w e := by
  rw [ho] at he
  simp only [eff] at he
  have hx := ev_V h x
  have hix := ev_V h ix
  split at he
  case h_2 => cases he
  rename_i sz0 b0 z0 hTt
  have ht : P.underlying t = some .string := (hT t _ hTt).1
  split at he
  case h_2 => cases he
  rename_i k m s hevi hevx
  simp only [Option.some.injEq, Prod.mk.injEq] at he
  obtain ⟨rfl, rfl⟩ := he
  rw [hevi] at hix
  rw [hevx] at hx
  simp only [V] at hx hix
  have hlt : m.toNat < s.length := by omega
  obtain ⟨b, hbe⟩ : ∃ b, s[m.toNat] = b := ⟨_, rfl⟩
  have hgd : s.getD m.toNat 0 = b := by rw [List.getD_eq_getElem?_getD, List.getElem?_eq_getElem hlt, hbe]; rfl
  rw [hgd]
  refine out_val h hd (u := .int .u8 b.toNat) (by simp [V]) ?_
  have hsz : (ByteArray.mk s.toArray).size = s.length := by simp [ByteArray.size]
  have hcond : 0 ≤ m ∧ m < ((ByteArray.mk s.toArray).size : Int) := ⟨hp.1, by rw [hsz]; omega⟩
  simp only [execOp, ho, Sem.run_bind, hx.1, hix.1, run_index_string w t _ k m ht, hcond, dif_pos, and_self, Result.andThen_ok, Sem.run_pure]
  have : (ByteArray.mk s.toArray)[m.toNat]'(by rw [hsz]; exact hlt) = b := by rw [← hbe]; rfl
  rw [this]

theorem out_makeSlice (hT : TyOk P E.T) (h : Rel w0 R0 F0 gh E.G n Fr R σ fps st a w) {o : Oper} (hd : dstOk n o.dst) {t : Nat} {x y : Operand} (ho : o.op = .makeSlice t x y) {p : Prop} {e : Eff} (he : eff E st o.op = some (p, e)) (hp : p) : Out P E w0 R0 F0 gh n Fr st o a w e := by
  rw [ho] at he
  simp only [eff] at he
  have hx := ev_V h x
  have hy := ev_V h y
  split at he
  case h_2 => cases he
  rename_i el sz0 b0 z0 hTt
  have ht : P.underlying t = some (.slice el) := (hT t _ hTt).1
  split at he
  case h_2 => cases he
  rename_i i m m' hTe hex hey
  simp only [Option.some.injEq, Prod.mk.injEq] at he
  obtain ⟨rfl, rfl⟩ := he
  obtain ⟨p0, rfl, p2, p3⟩ := hp
  obtain ⟨_, tinf, z, g1, g2, g3, g4, g5, g6, g7, g8, g9⟩ := hT el i hTe
  rw [hex] at hx
  rw [hey] at hy
  simp only [V] at hx hy
  have hN : m.toNat ≤ m.toNat * i.bytes := Nat.le_mul_of_pos_right _ p3
  have hr := run_make (P := P) w t el tinf z ht g1 g2 .i64 .i64 m m p0 (Int.le_refl _) (by
    rw [g4]
    have : ((i.bytes * m.toNat : Nat) : Int) ≤ 281474976710656 := by rw [Nat.mul_comm]; omega
    rw [Int.natCast_mul] at this
    rwa [Int.toNat_of_nonneg p0] at this) (by omega)
  rw [g3] at hr
  obtain ⟨zc, zu⟩ := zv_Cs (w := w) (R := R) (σ := σ) g9
  have hzl : i.zero.length = i.size := by rw [← zc.length]; simp [g5]
  have hzV : V w R σ (zeroElem i) z [] ∧ zeroElem i ≠ .undef ∧ ∀ u ∈ z.cells, u.oneCell' = true := by
    refine ⟨?_, ?_, fun u hu => zc.one u (by simpa using hu)⟩
    · unfold zeroElem
      cases hb : isAggT i with
      | true => obtain ⟨us, rfl⟩ := g7 hb; simp only [if_true, V]; exact ⟨us.toList, by simp, by simpa [Value.cells] using zc⟩
      | false =>
        have ho := g8 hb
        rw [oneCell_cells ho] at zc
        match hzz : i.zero, zc with
        | [], zc => simp [Cs] at zc
        | c :: cs, zc =>
          simp only [Cs, List.toList_toArray] at zc
          obtain ⟨u, us', f1, f2, hu, _, hv, _, hf⟩ := zc
          obtain ⟨rfl, rfl⟩ : f1 = [] ∧ f2 = [] := by simpa using hf.symm
          simp at hu
          obtain ⟨rfl, _⟩ := hu
          simpa using hv
    · unfold zeroElem
      cases hb : isAggT i with
      | true => simp
      | false =>
        match hzz : i.zero with
        | [] => rw [hzz] at hzl; simp at hzl; omega
        | c :: cs => simp; exact zu c (by simp [hzz])
  have hmade : ∀ k : Nat, (madeCells z.cells (k * i.size)).toList = (List.replicate k z.cells.toList).flatten := by
    intro k
    apply List.ext_getElem?
    intro j
    rw [Array.getElem?_toList, madeCells, Array.getElem?_map]
    by_cases hj : j < k * i.size
    · rw [Array.getElem?_range, if_pos hj]
      have : ∀ (k j : Nat), j < k * i.size → ((List.replicate k z.cells.toList).flatten)[j]? = z.cells[j % i.size]? := by
        intro k
        induction k with
        | zero => intro j hj; omega
        | succ k ih =>
          intro j hj
          rw [List.replicate_succ, List.flatten_cons]
          by_cases hj2 : j < i.size
          · rw [List.getElem?_append_left (by simpa [g5] using hj2), Nat.mod_eq_of_lt hj2, Array.getElem?_toList]
          · rw [List.getElem?_append_right (by simp [g5]; omega), Array.length_toList, g5, ih (j - i.size) (by rw [Nat.add_mul] at hj; omega)]
            congr 1
            conv => rhs; rw [← Nat.sub_add_cancel (show i.size ≤ j by omega), Nat.add_mod_right]
      rw [this k j hj]
      have hmod : j % i.size < z.cells.size := by rw [g5]; exact Nat.mod_lt _ g6
      simp [g5, hmod, Array.getElem?_eq_getElem hmod]
      exact getElem!_pos z.cells _ hmod
    · rw [Array.getElem?_range, if_neg hj]
      rw [List.getElem?_eq_none (by simp [g5]; omega)]
      rfl
  have hes : ∀ k : Nat, Es w R σ i.size (List.replicate k (zeroElem i)) ((List.replicate k z.cells.toList).flatten) [] := by
    intro k
    induction k with
    | zero => simp [Es]
    | succ k ih =>
      simp only [List.replicate_succ, List.flatten_cons, Es]
      exact ⟨z, _, [], [], rfl, g5, hzV.2.2, hzV.2.1, hzV.1, ih, rfl⟩
  refine out_row h hd List.nodup_nil (hes m.toNat) (by simp) (v := .slice (some ⟨w.heap.size, 0, none⟩) m.toNat m.toNat) (w' := w.alloc (.cells (madeCells z.cells (m.toNat * i.size)) el)) ?_ rfl ?_ (fun b hb => heap_old w _ b hb) (by simp) rfl rfl rfl ?_
  · rw [List.length_replicate]
    exact Row.new w (Nat.le_refl _) (by rw [maxLen_val]; omega) (size_madeCells _ _) (by rw [hmade]; apply List.take_of_length_le; simp [g5])
  · intro b hb
    simp [blkOf] at hb
    subst hb
    simp
  · simp only [execOp, ho, Sem.run_bind, hx.1, hy.1, hr, Result.andThen_ok, Sem.run_pure]

end
end Go.Proofs.YtanbccpabgcmaaaGreatDoor.PVE
