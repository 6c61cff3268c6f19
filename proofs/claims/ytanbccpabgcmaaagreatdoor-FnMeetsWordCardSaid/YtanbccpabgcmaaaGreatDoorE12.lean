/- The PV engine, part 12: the other operations; all operations together. -/
import Derived.Test.YtanbccpabgcmaaaGreatDoorE11
set_option linter.unusedVariables false
set_option linter.unusedSimpArgs false
set_option linter.unusedSectionVars false
namespace Go.Proofs.YtanbccpabgcmaaaGreatDoor.PVE
open PV

section
variable {P : Program} {E : Env} {w0 : World} {R0 : Nat → Prop} {F0 : List Nat} {gh : Nat → Value} {n : Nat} {Fr : Nat → Prop} {R : Nat → Prop} {σ : Nat → Option Hd} {fps : Nat → List Nat} {st : St} {a : Act} {w : World}

theorem out_slice (hT : TyOk P E.T) (h : Rel w0 R0 F0 gh E.G n Fr R σ fps st a w) {o : Oper} (hd : dstOk n o.dst) {t : Nat} {x : Operand} {lo hi : Option Operand} (ho : o.op = .slice t x lo hi none) {p : Prop} {e : Eff} (he : eff E st o.op = some (p, e)) (hp : p) : Out P E w0 R0 F0 gh n Fr st o a w e := by
  rw [ho] at he
  simp only [eff] at he
  have hx := ev_V h x
  have hlo := opt_V h lo
  have hhi := opt_V h hi
  split at he
  · -- strings
    rename_i sz b0 z0 hTt
    have ht : P.underlying t = some .string := (hT t _ hTt).1
    cases hev : ev E st x <;> rw [hev] at he hx <;> simp only [sliceStrE] at he <;> try (cases he; done)
    rename_i s
    split at he
    · rename_i aa bb hla hlb
      simp only [Option.some.injEq, Prod.mk.injEq] at he
      obtain ⟨rfl, rfl⟩ := he
      obtain ⟨p0, p1, p2⟩ := hp
      simp only [V] at hx
      have hb := run_bounds (P := P) (isS := false) (len := s.length) (cap := s.length) (lo_val hla hlo) (hi_val hlb hhi) p0 p1 p2 (Nat.le_refl _) w
      refine out_val h hd (u := .string ⟨(cut s aa bb).toArray⟩) (by simp [V]) ?_
      have hsz : (ByteArray.mk s.toArray).size = s.length := by simp [ByteArray.size]
      simp only [execOp, ho, Sem.run_bind, Option.map_none, run_sliceAt_string w t _ _ _ _ ht, hx.1, Instr.slice, run_underlying ht, Result.andThen_ok, hsz, Option.isSome_none, Bool.false_eq_true, if_false, Sem.run_pure, hb, ByteArray.extract_mk]
      rfl
    · cases he
  · -- slices
    rename_i el sz b0 z0 hTt
    have ht : P.underlying t = some (.slice el) := (hT t _ hTt).1
    have htt : P.underlying t = some (.slice (P.elem t)) := by rw [ht]; simp [Program.elem, ht]
    have hel : P.elem t = el := by simp [Program.elem, ht]
    split at he
    case h_2 => cases he
    rename_i i hTe
    obtain ⟨_, ti, z, g1, g2, g3, g4, g5, g6, g7, g8, g9⟩ := hT el i hTe
    have run : ∀ {A : Option Addr} {len cap : Nat} {aa bb : Int}, a.eval x = .slice A len cap → loOf (lo.map (ev E st)) = some aa → hiOf len (hi.map (ev E st)) = some bb → 0 ≤ aa → aa ≤ bb → bb ≤ len → len ≤ cap →
        (execOp a.eval o).run P w = .ok (.value (.slice (if cap = aa.toNat then A else A.map (·.add (aa.toNat * i.size))) (bb.toNat - aa.toNat) (cap - aa.toNat))) w := by
      intro A len cap aa bb hxv hla hlb p0 p1 p2 p3
      have hb := run_bounds (P := P) (isS := true) (len := len) (cap := cap) (lo_val hla hlo) (hi_val hlb hhi) p0 p1 p2 p3 w
      simp only [execOp, ho, Sem.run_bind, Option.map_none, run_sliceAt_slice w t _ _ _ _ htt, hxv, Instr.slice, run_underlying ht, Result.andThen_ok, hb, sizeOf, typeInfo, run_program, g1, Sem.run_pure, g3]
    cases hev : ev E st x <;> rw [hev] at he hx <;> simp only [sliceE] at he <;> try (cases he; done)
    · rename_i es
      split at he
      · rename_i aa bb hla hlb
        simp only [Option.some.injEq, Prod.mk.injEq] at he
        obtain ⟨rfl, rfl⟩ := he
        obtain ⟨p0, p1, p2, p3⟩ := hp
        have hx' := hx
        simp only [V] at hx
        obtain ⟨_, A, cap, us, sz', hxv, k1, k2, _⟩ := hx
        rw [hxv] at hx'
        exact out_val h hd (sl_cut p0 p1 p2 hx' (el := el) p3) (run hxv hla hlb p0 p1 p2 k1)
      · cases he
    · rename_i r
      split at he
      · rename_i sz' es links hr
        split at he
        case isFalse => cases he
        rename_i hsz
        subst hsz
        split at he
        · rename_i aa bb hla hlb
          simp only [Option.some.injEq, Prod.mk.injEq] at he
          obtain ⟨rfl, rfl⟩ := he
          obtain ⟨p0, p1, p2⟩ := hp
          obtain ⟨k, hk, hV, hty⟩ := h.rt r _ hr
          simp only [V] at hx hV
          obtain ⟨_, k', hk', hxv, _⟩ := hx
          obtain rfl : k = k' := by rw [hk] at hk'; exact Option.some.inj hk'
          obtain ⟨us, fp', hrow, hes, hfp⟩ := hV
          obtain ⟨A, cap, hhv, k1, k2⟩ := hrow.form
          simp only [RootTy] at hty
          refine out_val h hd ?_ (run (hxv.trans hhv) hla hlb p0 p1 p2 k1)
          simp only [V]
          refine ⟨trivial, k, A, es.length, cap, _, _, hk, hhv, by omega, by omega, rfl, by omega, by omega, fun hlt => ?_⟩
          rw [if_neg (by omega), hty]
        · cases he
      · cases he
    · rename_i r x0 y0
      split at he
      · rename_i sz' es links hr
        split at he
        case isFalse => cases he
        rename_i hsz
        subst hsz
        split at he
        · rename_i aa bb hla hlb
          simp only [Option.some.injEq, Prod.mk.injEq] at he
          obtain ⟨rfl, rfl⟩ := he
          obtain ⟨p0, p1, p2⟩ := hp
          obtain ⟨k, hk, hV, hty⟩ := h.rt r _ hr
          simp only [V] at hx
          obtain ⟨_, k', A, m, c, B, c', hk', hhv, q1, q2, hxv, q3, q4, q5⟩ := hx
          obtain rfl : k = k' := by rw [hk] at hk'; exact Option.some.inj hk'
          simp only [RootTy] at hty
          refine out_val h hd ?_ (run hxv hla hlb p0 p1 p2 q3)
          simp only [V]
          refine ⟨trivial, k, A, m, c, (if c' = aa.toNat then B else B.map (·.add (aa.toNat * i.size))), c' - aa.toNat, hk, hhv, by omega, by omega, ?_, by omega, by omega, fun hlt => ?_⟩
          · rw [show x0 + bb.toNat - (x0 + aa.toNat) = bb.toNat - aa.toNat by omega]
          · rw [if_neg (by omega), q5 (by omega), hty, Option.map_map]
            congr 1
            funext ad
            simp only [Function.comp_def, add_add', Nat.add_mul]
        · cases he
      · cases he
  · cases he

theorem out_conv (hT : TyOk P E.T) (h : Rel w0 R0 F0 gh E.G n Fr R σ fps st a w) {o : Oper} (hd : dstOk n o.dst) {src dst : Nat} {x : Operand} (ho : o.op = .convert src dst x) {p : Prop} {e : Eff} (he : eff E st o.op = some (p, e)) (hp : p) : Out P E w0 R0 F0 gh n Fr st o a w e := by
  rw [ho] at he
  simp only [eff, convE] at he
  have hx := ev_V h x
  split at he
  case h_2 => cases he
  rename_i ts td hTs hTd
  have hds := (hT src ts hTs).1
  have hdd := (hT dst td hTd).1
  have bytes : ∀ {es : List PV} {us : List Value} {sz el : Nat} {f : List Nat} {A : Option Addr} {cap : Nat} {sz0 b0 : Nat} {z0 : List PV}, P.underlying src = some (.slice el) → P.underlying dst = some .string → E.T el = some ⟨.int .u8, sz0, b0, z0⟩ → Es w R σ sz es us f → (∀ e ∈ es, e.isByte = true) →
      a.eval x = .slice A es.length cap → (0 < es.length → ∃ ad, A = some ad ∧ ∀ j u, us[j]? = some u → w.cell? (ad.add j) = some u) →
      (execOp a.eval o).run P w = .ok (.value (.string ⟨(es.map toByte).toArray⟩)) w := by
    intro es us sz el f A cap sz0 b0 z0 hs hd' hTe hes hall hxv hcell
    have he8 : P.underlying el = some (.int .u8) := (hT el _ hTe).1
    have hform : ∀ (es : List PV) (us : List Value) (f : List Nat), Es w R σ sz es us f → (∀ e ∈ es, e.isByte = true) → us = es.map (fun e => match e with | .int _ n => Value.int .u8 n | _ => Go.undef) := by
      intro es
      induction es with
      | nil => intro us f h _; simp only [Es] at h; simp [h.1]
      | cons e es ih =>
        intro us f h hall
        simp only [Es] at h
        obtain ⟨v, us', f1, f2, rfl, _, _, _, hv, h2, _⟩ := h
        obtain ⟨m, rfl⟩ := isByte_form (hall e (by simp))
        simp only [V] at hv
        obtain ⟨rfl, _⟩ := hv
        simp [Value.cells, ih us' f2 h2 (fun e he => hall e (by simp [he]))]
    have hus := hform es us f hes hall
    rcases Nat.eq_zero_or_pos es.length with h0 | h0
    · have : es = [] := List.eq_nil_of_length_eq_zero h0
      subst this
      have hl0 : ∀ ad : Addr, (loadCells ad 0).run P w = .ok #[] w := fun ad => by simpa using run_loadCells_list (P := P) w ad [] (by simp)
      have : (convert src dst (.slice A 0 cap)).run P w = .ok (.string ⟨#[]⟩) w := by
        rw [run_convert_bytes_string w src dst el A 0 cap hs he8 hd']
        cases A with
        | none => simp [Conv.bytesToString]; rfl
        | some ad => simp [Conv.bytesToString, hl0]; rfl
      simp only [execOp, ho, Sem.run_bind, hxv, List.length_nil, this, Result.andThen_ok, Sem.run_pure]
      rfl
    · obtain ⟨ad, rfl, hc⟩ := hcell h0
      have hl : (loadCells ad es.length).run P w = .ok us.toArray w := by
        have := run_loadCells_list (P := P) w ad us hc
        rwa [show us.length = es.length by rw [hus]; simp] at this
      have hus2 : us = (es.map (fun e => match e with | .int _ n => n | _ => 0)).map (Value.int .u8) := by
        rw [hus, List.map_map]
        apply List.map_congr_left
        intro e he
        obtain ⟨m, rfl⟩ := isByte_form (hall e he)
        rfl
      rw [hus2] at hl
      have : (convert src dst (.slice (some ad) es.length cap)).run P w = .ok (.string ⟨(es.map toByte).toArray⟩) w := by
        rw [run_convert_bytes_string w src dst el _ es.length cap hs he8 hd', run_bytesToString w _ es.length cap _ hl, foldl_push_bytes]
        have : (es.map (fun e => match e with | .int _ n => n | _ => 0)).map (fun n => UInt8.ofNat n.toNat) = es.map toByte := by
          rw [List.map_map]
          apply List.map_congr_left
          intro e he
          obtain ⟨m, rfl⟩ := isByte_form (hall e he)
          rfl
        rw [this]
        simp [ByteArray.empty, ByteArray.emptyWithCapacity]
        rfl
      simp only [execOp, ho, Sem.run_bind, hxv, this, Result.andThen_ok, Sem.run_pure]
  cases hts : ts.d <;> cases htd : td.d <;> rw [hts, htd] at he <;> rw [hts] at hds <;> rw [htd] at hdd <;> cases hev : ev E st x <;> rw [hev] at he hx <;> simp only at he <;> try (cases he; done)
  · -- whole numbers
    rename_i k0 k k' m
    simp only [V] at hx
    refine out_plain h hd he (u := .int k (k.wrap m)) (by simp [V]) ?_
    simp only [DescOk] at hds hdd
    simp [execOp, ho, hx.1, convert, run_underlying hds, run_underlying hdd, Conv.intToInt]
  · -- a string as a string
    rename_i s
    simp only [V] at hx
    refine out_plain h hd he (u := .string ⟨s.toArray⟩) (by simp [V]) ?_
    simp only [DescOk] at hds hdd
    simp [execOp, ho, hx.1, convert, run_underlying hds, run_underlying hdd]
  · -- a string's bytes
    rename_i el s
    split at he
    · rename_i sz0 b0 z0 hTe
      simp only [Option.some.injEq, Prod.mk.injEq] at he
      obtain ⟨rfl, rfl⟩ := he
      have he8 : P.underlying el = some (.int .u8) := (hT el _ hTe).1
      simp only [V] at hx
      simp only [DescOk] at hds hdd
      have hr := run_bytes_of_string (P := P) w src dst el ⟨s.toArray⟩ hds hdd he8
      have hsz : (ByteArray.mk s.toArray).size = s.length := by simp [ByteArray.size]
      rw [hsz] at hr
      have hlm : s.length ≤ maxLen := by rw [maxLen_val]; omega
      have hge := grownCap_ge w s.length 0 el
      have hle := grownCap_le_maxLen w s.length 0 el hlm
      have hrs : (bytesRow ⟨s.toArray⟩ (grownCap w s.length 0 el)).size = grownCap w s.length 0 el := by simp [bytesRow, hsz]; omega
      have htk : (bytesRow ⟨s.toArray⟩ (grownCap w s.length 0 el)).toList.take s.length = s.map fun b => Value.int .u8 b.toNat := by
        simp only [bytesRow, Array.toList_append, Array.toList_map]
        exact List.take_left' (by simp)
      have hes : Es w R σ 1 (s.map fun b => PV.int .u8 b.toNat) (s.map fun b => Value.int .u8 b.toNat) [] := by
        clear hx htk hrs hge hle hlm hsz hr hev hp
        induction s with
        | nil => simp [Es]
        | cons b s ih =>
          simp only [List.map_cons, Es]
          exact ⟨.int .u8 b.toNat, _, [], [], rfl, rfl, by simp [Value.cells, Value.oneCell'], by simp, by simp [V], ih, rfl⟩
      refine out_row h hd List.nodup_nil hes (by simp) (v := .slice (some ⟨w.heap.size, 0, none⟩) s.length (grownCap w s.length 0 el)) (w' := w.drew.alloc (.cells (bytesRow ⟨s.toArray⟩ (grownCap w s.length 0 el)) el ((bytesRow ⟨s.toArray⟩ (grownCap w s.length 0 el)).size, (bytesRow ⟨s.toArray⟩ (grownCap w s.length 0 el)).size + 1))) ?_ rfl ?_ (fun b hb => heap_old w.drew _ b hb) (by simp) rfl rfl rfl ?_
      · refine ⟨by simp, .inr ⟨w.heap.size, _, _, el, _, _, by simp, heap_new w.drew _, .inr (Nat.le_refl _), by simpa using hge, hle, by rw [hrs]; omega, ?_⟩⟩
        simpa using htk
      · intro b hb
        simp [blkOf] at hb
        subst hb
        simp
      · simp only [execOp, ho, Sem.run_bind, hx.1, hr, Result.andThen_ok, Sem.run_pure]
    · cases he
  · -- bytes that are read
    rename_i el es
    split at he
    · rename_i sz0 b0 z0 hTe
      simp only [Option.some.injEq, Prod.mk.injEq] at he
      obtain ⟨rfl, rfl⟩ := he
      simp only [V] at hx
      obtain ⟨_, A, cap, us, sz, hxv, k1, k2, k3, k4⟩ := hx
      exact out_val h hd (by simp [V]) (bytes hds hdd hTe k4 hp hxv (fun hn => by obtain ⟨ad, e, _, hc⟩ := k3 hn; exact ⟨ad, e, hc⟩))
    · cases he
  · -- bytes that are owned
    rename_i el r
    split at he
    · rename_i sz0 b0 z0 sz es links hTe hr
      simp only [Option.some.injEq, Prod.mk.injEq] at he
      obtain ⟨rfl, rfl⟩ := he
      obtain ⟨k, q1, q2, q3⟩ := h.rt r _ hr
      simp only [V] at hx q2
      obtain ⟨_, k', hk', hxv, _⟩ := hx
      obtain rfl : k = k' := by rw [q1] at hk'; exact Option.some.inj hk'
      obtain ⟨us, fp', hrow, hes, hfp⟩ := q2
      obtain ⟨A, c, hh, h1, h2⟩ := hrow.form
      exact out_val h hd (by simp [V]) (bytes hds hdd hTe hes hp (hxv.trans hh) (fun hn => hrow.cells hh hn))
    · cases he

end
end Go.Proofs.YtanbccpabgcmaaaGreatDoor.PVE
