/- The PV engine, part 14: every operation but calls of Go functions. -/
import Derived.Test.YtanbccpabgcmaaaGreatDoorE13
set_option linter.unusedVariables false
set_option linter.unusedSimpArgs false
set_option linter.unusedSectionVars false
namespace Go.Proofs.YtanbccpabgcmaaaGreatDoor.PVE
open PV

section
variable {P : Program} {E : Env} {w0 : World} {R0 : Nat → Prop} {F0 : List Nat} {gh : Nat → Value} {n : Nat} {Fr : Nat → Prop} {R : Nat → Prop} {σ : Nat → Option Hd} {fps : Nat → List Nat} {st : St} {a : Act} {w : World}

theorem Ts.at {cs : List PV} {us : List Value} (h : Ts w R σ cs us []) {k : Nat} {c : PV} (hc : cs[k]? = some c) : ∃ u, us[k]? = some u ∧ V w R σ c u [] := by
  induction cs generalizing us k with
  | nil => simp at hc
  | cons x cs ih =>
    simp only [Ts] at h
    obtain ⟨u, us', f1, f2, rfl, hv, hts, hf⟩ := h
    obtain ⟨rfl, rfl⟩ : f1 = [] ∧ f2 = [] := by simpa using hf.symm
    cases k with
    | zero => simp at hc; subst hc; exact ⟨u, rfl, hv⟩
    | succ k => simp at hc; obtain ⟨u', h1, h2⟩ := ih hts hc; exact ⟨u', by simpa using h1, h2⟩

theorem out_builtin (hT : TyOk P E.T) (h : Rel w0 R0 F0 gh E.G n Fr R σ fps st a w) {o : Oper} (hd : dstOk n o.dst) {c : Call} (ho : o.op = .call c) {p : Prop} {e : Eff} (he : eff E st o.op = some (p, e)) (hp : p) : Out P E w0 R0 F0 gh n Fr st o a w e := by
  rw [ho] at he
  simp only [eff] at he
  have hrun : ∀ {b : Builtin} {l : List Operand}, c.callee = .builtin b → c.args.toList = l → ∃ fl : Array Bool, (execOp a.eval o).run P w = (builtin b c.argTypes o.type fl (l.map a.eval).toArray).run P w := by
    intro b l hc hl
    have : c.args = l.toArray := by rw [← Array.toArray_toList (xs := c.args), hl]
    exact ⟨_, by simp only [execOp, ho, resolve, hc, invoke, Sem.run_bind, Sem.run_pure, Result.andThen_ok, this, List.map_toArray]; rfl⟩
  split at he
  · -- len
    rename_i x hc hl
    have hx := ev_V h x
    obtain ⟨fl, hr⟩ := hrun hc hl
    have key : ∀ {t : Nat} {m : Int}, (Builtin.len_ c.argTypes o.type #[a.eval x]).run P w = .ok (goInt m) w → (execOp a.eval o).run P w = .ok (.value (.int .i64 m)) w := by
      intro t m hh
      rw [hr]
      simp only [builtin, List.map_cons, List.map_nil, Sem.run_bind, hh, Result.andThen_ok, Sem.run_pure, goInt]
    cases hat : c.argTypes[0]? with
    | none => simp [hat] at he
    | some t =>
      simp only [hat, Option.bind_some] at he
      split at he
      · rename_i sz b0 z0 hTt
        have ht : P.underlying t = some .string := (hT t _ hTt).1
        cases hev : ev E st x <;> rw [hev] at he hx <;> simp only [lenStrE] at he <;> try (cases he; done)
        rename_i s
        simp only [V] at hx
        refine out_plain h hd he (u := .int .i64 s.length) (by simp [V]) (key (t := 0) ?_)
        have hs : (ByteArray.mk s.toArray).size = s.length := by simp [ByteArray.size]
        simp [Builtin.len_, hat, hx.1, run_underlying ht, hs]
      · rename_i el sz b0 z0 hTt
        have ht : P.underlying t = some (.slice el) := (hT t _ hTt).1
        cases hev : ev E st x <;> rw [hev] at he hx <;> simp only [lenE] at he <;> try (cases he; done)
        · simp only [V] at hx
          refine out_plain h hd he (by simp [V]; rfl) (key (t := 0) ?_)
          simp [Builtin.len_, hat, hx.1, run_underlying ht]
        · simp only [V] at hx
          obtain ⟨_, A, cap, us, sz', hxv, _⟩ := hx
          refine out_plain h hd he (by simp [V]; rfl) (key (t := 0) ?_)
          simp [Builtin.len_, hat, hxv, run_underlying ht]
        · rename_i r
          split at he
          case h_2 => cases he
          rename_i sz' es links hr'
          obtain ⟨kk, q1, q2, q3⟩ := h.rt r _ hr'
          simp only [V] at hx q2
          obtain ⟨_, k', hk', hxv, _⟩ := hx
          obtain rfl : kk = k' := by rw [q1] at hk'; exact Option.some.inj hk'
          obtain ⟨us, fp', hrow, _⟩ := q2
          obtain ⟨A, cc, hh, _⟩ := hrow.form
          refine out_plain h hd he (by simp [V]; rfl) (key (t := 0) ?_)
          simp [Builtin.len_, hat, hxv, hh, run_underlying ht]
        · simp only [V] at hx
          obtain ⟨_, k', A, m', c', B, c2, _, _, _, _, hxv, _⟩ := hx
          refine out_plain h hd he (by simp [V]; rfl) (key (t := 0) ?_)
          simp [Builtin.len_, hat, hxv, run_underlying ht]
      · cases he
  · -- append
    rename_i s x hc hl
    split at he
    case h_2 => cases he
    rename_i t u hat
    split at he
    case isFalse => cases he
    rename_i htu
    subst htu
    split at he
    case h_2 => cases he
    rename_i el sz b0 z0 hTt
    split at he
    case h_2 => cases he
    rename_i ti hTe
    have hat' : c.argTypes = #[t, t] := by rw [← Array.toArray_toList (xs := c.argTypes), hat]
    exact out_append hT h hd ho hc hl hat' hTt hTe he hp
  · -- min
    rename_i x y hc hl
    have hx := ev_V h x
    have hy := ev_V h y
    split at he
    case h_2 => cases he
    rename_i k A k' B hex hey
    rw [hex] at hx
    rw [hey] at hy
    simp only [V] at hx hy
    refine out_plain h hd he (u := .int k (if B < A then B else A)) (by simp [V]) ?_
    obtain ⟨fl, hr⟩ := hrun hc hl
    rw [hr]
    simp only [builtin, List.map_cons, List.map_nil, hx.1, hy.1, Sem.run_bind, run_min_int2, Result.andThen_ok, Sem.run_pure]
  · cases he

theorem eff_sound (hT : TyOk P E.T) (hS : SOk P E.S) (h : Rel w0 R0 F0 gh E.G n Fr R σ fps st a w) {o : Oper} (hd : dstOk n o.dst) {p : Prop} {e : Eff} (he : eff E st o.op = some (p, e)) (hp : p) : Out P E w0 R0 F0 gh n Fr st o a w e := by
  cases hop : o.op with
  | move x =>
    have he' := he
    rw [hop] at he'
    exact out_plain h hd he' (ev_V h x) (by simp [execOp, hop])
  | assign x =>
    have he' := he
    rw [hop] at he'
    exact out_plain h hd he' (ev_V h x) (by simp [execOp, hop])
  | pick c x y =>
    have he' := he
    rw [hop] at he'
    simp only [eff] at he'
    split at he'
    case h_2 => cases he'
    rename_i t hev
    have hc := ev_V h c
    rw [hev] at hc
    simp only [V] at hc
    refine out_plain h hd he' (u := if t then a.eval x else a.eval y) ?_ ?_
    · cases t
      · exact ev_V h y
      · exact ev_V h x
    · cases t <;> simp [execOp, hop, hc.1, asBool]
  | alloc t => exact out_alloc hT h hd hop he hp
  | box t x => exact out_boxop h hd hop he hp
  | build t parts => exact out_build hT h hd hop he hp
  | buildSlice t len parts => exact out_buildSlice hT h hd hop he hp
  | load t x => exact out_load hT h hd hop he hp
  | store t x y => exact out_store hT h hd hop he hp
  | nilCheck x =>
    have he' := he
    rw [hop] at he'
    simp only [eff] at he'
    have hx := ev_V h x
    split at he'
    · rename_i cs hev
      rw [hev] at hx
      refine out_plain h hd he' hx ?_
      simp only [V] at hx
      obtain ⟨_, ad, us, hxv, _⟩ := hx
      simp [execOp, hop, hxv]
    · rename_i r i o' hev
      rw [hev] at hx
      refine out_plain h hd he' hx ?_
      simp only [V] at hx
      obtain ⟨_, hh, b, _, _, hxv⟩ := hx
      simp [execOp, hop, hxv]
    · rename_i f cs hev
      rw [hev] at hx
      refine out_plain h hd he' hx ?_
      simp only [V] at hx
      obtain ⟨us, hxv, _⟩ := hx
      simp [execOp, hop, hxv]
    · cases he'
  | binOp op t x y yt =>
    have he' := he
    rw [hop] at he'
    simp only [eff] at he'
    split at he'
    case h_2 => cases he'
    rename_i q v hb
    simp only [Option.some.injEq, Prod.mk.injEq] at he'
    obtain ⟨rfl, rfl⟩ := he'
    obtain ⟨z, h1, h2⟩ := bin_sound (P := P) hT hS (xo := x) (yo := y) hb hp (ev_V h x) (ev_V h y)
    refine out_val h hd h2 ?_
    simp only [execOp, hop]
    rw [Sem.run_bind, h1]; rfl
  | unOp op t x =>
    have he' := he
    rw [hop] at he'
    simp only [eff] at he'
    have hx := ev_V h x
    split at he'
    · rename_i b hev
      rw [hev] at hx
      simp only [V] at hx
      exact out_plain h hd he' (u := .bool (!b)) (by simp [V]) (by simp [execOp, hop, hx.1, unary_not])
    · rename_i k m hev
      rw [hev] at hx
      simp only [V] at hx
      exact out_plain h hd he' (u := .int k (k.wrap (0 - m))) (by simp [V]) (by simp [execOp, hop, hx.1, unary_neg, Op.intArith])
    · cases he'
  | convert src dst x => exact out_conv hT h hd hop he hp
  | slice t x lo hi mx =>
    cases mx with
    | none => exact out_slice hT h hd hop he hp
    | some m => rw [hop] at he; simp [eff] at he
  | fieldAddr t x f => exact out_fieldAddr hT h hd hop he hp
  | field t x f => exact out_field hT h hd hop he hp
  | indexAddr t x ix => exact out_indexAddr hT h hd hop he hp
  | index t x ix => exact out_index hT h hd hop he hp
  | extract x i =>
    have he' := he
    rw [hop] at he'
    simp only [eff] at he'
    have hx := ev_V h x
    split at he'
    case h_2 => cases he'
    rename_i vs hev
    split at he'
    case h_2 => cases he'
    rename_i v hvs
    rw [hev] at hx
    simp only [V] at hx
    obtain ⟨us, hxv, hts⟩ := hx
    obtain ⟨u, h1, h2⟩ := hts.at hvs
    exact out_plain h hd he' h2 (by simp [execOp, hop, hxv, Instr.extract, h1])
  | makeSlice t x y => exact out_makeSlice hT h hd hop he hp
  | makeFunc fn first caps =>
    have he' := he
    rw [hop] at he'
    simp only [eff] at he'
    split at he'
    case h_2 => cases he'
    rename_i f hfi
    have hf0 : first = #[] := by rw [← Array.toArray_toList (xs := first), hfi]
    split at he'
    case h_2 => cases he'
    rename_i cs l add hfz
    split at he'
    case isFalse => cases he'
    rename_i hnd
    simp only [Option.some.injEq, Prod.mk.injEq] at he'
    obtain ⟨_, rfl⟩ := he'
    obtain ⟨q1, q2⟩ := frz_sound h _ _ hfz (evs_Ts h _)
    have hn : ∀ m : List Nat, (m.flatMap fun _ => ([] : List Nat)) = [] := by
      intro m
      induction m with
      | nil => rfl
      | cons x m ih => simp [ih]
    refine fun _ => ⟨.value (.func (.func f) #[] (caps.toList.map a.eval).toArray), .func (.func f) #[] (caps.toList.map a.eval).toArray, w, addR R (l.flatMap fps), σ, _, ?_, .inl rfl, h.change (e := ⟨.fn f cs, l, add, st.next⟩) hd (fun _ => []) hnd (fun b hb => .inl hb) ?_ (Le.refl _) (fun _ _ => rfl) (fun _ _ _ _ _ => rfl) q2 (by rw [hn]; exact List.nodup_nil) (by simp) (fun _ _ _ => rfl) (Nat.le_refl _) rfl rfl rfl (fun r hr => (h.fr r hr.1).1) ?_ ?_⟩
    · simp [execOp, hop, Instr.makeFunc, hf0]
      apply Array.ext'
      simp
    · intro b hb
      rcases hb with hb | hb
      · exact ⟨(h.Rb b hb).1, .inl hb⟩
      · obtain ⟨x, hx, hbx⟩ := List.mem_flatMap.1 hb
        exact ⟨(h.fb x b hbx).1, .inr (.inl ⟨x, by simp [hx], hbx⟩)⟩
    · intro r hr
      obtain ⟨x, hx, rfl⟩ := List.mem_map.1 hr
      obtain ⟨k, hk, _⟩ := q2 x.1 x.2 hx
      exact .inl ⟨k, hk⟩
    · simp only [V]; exact ⟨_, rfl, trivial, q1⟩
  | call c => exact out_builtin hT h hd hop he hp
  | _ => rw [hop] at he; simp [eff] at he

end
end Go.Proofs.YtanbccpabgcmaaaGreatDoor.PVE
