/- The PV engine, part 18: regions, in the text's order and in any order; the transformer 'pwp' over the code. -/
import Derived.Test.YtfphffeonmjfcaaE17
set_option linter.unusedVariables false
set_option linter.unusedSimpArgs false
set_option linter.unusedSectionVars false
namespace Go.Proofs.Ytfphffeonmjfcaa.PVE
open PV

/-- The operations of a region, in the order of the text. -/
def pwpOps (P : Program) (E : Env) (n : Nat) (ops : Array Oper) (Q : St → Prop) : List Oper → St → Prop
  | [], st => Q st
  | o :: rest, st => match o.guard with
    | none => opP P E st o.op fun e => dstOk n o.dst ∧ pwpOps P E n ops Q rest (st.app o.dst e)
    | some (j, want) => match (ops[j]?).bind (·.dst) with
      | some d => match ev E st (.tmp d) with
        | .bool b => if b = want then opP P E st o.op fun e => dstOk n o.dst ∧ pwpOps P E n ops Q rest (st.app o.dst e)
          else dstOk n o.dst ∧ pwpOps P E n ops Q rest ⟨st.put o.dst .void, st.store, st.next⟩
        | .void => dstOk n o.dst ∧ pwpOps P E n ops Q rest ⟨st.put o.dst .void, st.store, st.next⟩
        | _ => False
      | none => False

/-- The same, where nothing but values comes of it. -/
def pwpVal (P : Program) (E : Env) (n : Nat) (ops : Array Oper) (Q : St → Prop) : List Oper → St → Prop
  | [], st => Q st
  | o :: rest, st => match o.guard with
    | none => opP P E st o.op fun e => (dstOk n o.dst ∧ e.rem = [] ∧ e.add = [] ∧ e.nx = st.next) ∧ pwpVal P E n ops Q rest (st.app o.dst e)
    | some (j, want) => match (ops[j]?).bind (·.dst) with
      | some d => match ev E st (.tmp d) with
        | .bool b => if b = want then opP P E st o.op fun e => (dstOk n o.dst ∧ e.rem = [] ∧ e.add = [] ∧ e.nx = st.next) ∧ pwpVal P E n ops Q rest (st.app o.dst e)
          else dstOk n o.dst ∧ pwpVal P E n ops Q rest ⟨st.put o.dst .void, st.store, st.next⟩
        | .void => dstOk n o.dst ∧ pwpVal P E n ops Q rest ⟨st.put o.dst .void, st.store, st.next⟩
        | _ => False
      | none => False

def isTmp (d : Nat) : Operand → Bool
  | .tmp t => t == d
  | _ => false
def dstAt (ops : Array Oper) (j : Nat) : Option Nat := (ops[j]?).bind (·.dst)
/-- What a region's operations look at comes before them in any order. -/
def drawOk (ops : Array Oper) : Bool :=
  (List.range ops.size).all fun i => match ops[i]? with
    | none => true
    | some o => o.after.toList.all (fun e => decide (e.on < i)) &&
      ((match o.guard with
        | some (g, _) => o.after.toList.any fun e => Region.binds .any e && e.on == g
        | none => true) &&
      (List.range ops.size).all fun j => match dstAt ops j with
        | none => true
        | some d => (j == i || o.dst != some d) && (!(o.op.operands.toList.any (isTmp d)) || o.after.toList.any fun e => Region.binds .any e && e.on == j))

inductive Ex where
  | normal
  | exit (id : Nat)
  | ret

mutual
/-- A handle's root under another name. -/
def PV.ren (ρ : Nat → Nat) : PV → PV
  | .own r => .own (ρ r)
  | .addr r i o => .addr (ρ r) i o
  | .agg cs => .agg (PV.renL ρ cs)
  | .fn f cs => .fn f (PV.renL ρ cs)
  | .tup cs => .tup (PV.renL ρ cs)
  | pv => pv
def PV.renL (ρ : Nat → Nat) : List PV → List PV
  | [] => []
  | c :: cs => PV.ren ρ c :: PV.renL ρ cs
end
mutual
/-- Handles stand where 'ren' finds them. -/
def PV.okr : PV → Prop
  | .sl es => PV.freeL es
  | .slo _ es => PV.freeL es
  | .pro cs => PV.freeL cs
  | .pto cs => PV.freeL cs
  | .agg cs => PV.okrL cs
  | .fn _ cs => PV.okrL cs
  | .tup cs => PV.okrL cs
  | _ => True
def PV.okrL : List PV → Prop
  | [] => True
  | c :: cs => PV.okr c ∧ PV.okrL cs
end
/-- The state at the head of a loop, or behind a cut: the named temporaries, the roots 0, 1, .. -/
def mkSt (ts : List (Nat × PV)) (rs : List PV) : St := ⟨fun t => (ts.lookup t).getD .undef, fun r => (rs[r]?).map fun pv => ⟨pv, []⟩, rs.length⟩
def SimT (st : St) (ids : List Nat) : List (Nat × PV) → Prop
  | [] => True
  | (t, pv) :: ts => pv.okr ∧ st.temps t = pv.ren (fun r => ids.getD r st.next) ∧ SimT st ids ts
def SimR (st : St) : List Nat → List PV → Prop
  | [], [] => True
  | id :: ids, pv :: rs => st.store id = some ⟨pv, []⟩ ∧ pv.free ∧ SimR st ids rs
  | _, _ => False
/-- st holds what is named. -/
def Sim (st : St) (ts : List (Nat × PV)) (rs : List PV) : Prop := ∃ ids : List Nat, ids.Nodup ∧ SimT st ids ts ∧ SimR st ids rs
def SimS (st s : St) : Prop := ∃ ts rs, s = mkSt ts rs ∧ Sim st ts rs

/-- The transformer over the code. -/
def pwp (P : Program) (E : Env) (n : Nat) : Code → (Ex → St → Prop) → St → Prop
  | .skip, Q, st => Q .normal st
  | .region _ ops false, Q, st => pwpOps P E n ops (Q .normal) ops.toList st
  | .region _ ops true, Q, st => drawOk ops = true ∧ pwpVal P E n ops (Q .normal) ops.toList st
  | .seq a b, Q, st => pwp P E n a (fun e s => match e with
    | .normal => ∃ s', (s' = s ∨ SimS s s') ∧ pwp P E n b Q s'
    | .exit i => Q (.exit i) s
    | .ret => Q .ret s) st
  | .cond c a b, Q, st => match ev E st c with
    | .bool t => if t then pwp P E n a Q st else pwp P E n b Q st
    | _ => False
  | .block id c, Q, st => pwp P E n c (fun e s => match e with
    | .exit i => if i = id then Q .normal s else Q (.exit i) s
    | .normal => Q .normal s
    | .ret => Q .ret s) st
  | .loop c, Q, st => ∃ (I : St → Prop) (μ : St → Nat), (∃ s, SimS st s ∧ I s) ∧ ∀ s, I s → pwp P E n c (fun e s' => match e with
    | .normal => ∃ s'', SimS s' s'' ∧ I s'' ∧ μ s'' < μ s
    | .exit i => Q (.exit i) s'
    | .ret => Q .ret s') s
  | .exit id, Q, st => Q (.exit id) st
  | .ret, Q, st => Q .ret st
  | _, _, _ => False

section
variable {P : Program} {E : Env} {w0 : World} {R0 : Nat → Prop} {F0 : List Nat} {gh : Nat → Value} {n : Nat} {R : Nat → Prop} {σ : Nat → Option Hd} {fps : Nat → List Nat} {st : St} {a : Act} {w : World}

theorem opP_call {f : Operand} {args : Array Operand} {tys : Array Nat} {K : Eff → Prop} : opP P E st (.call ⟨.value f, args, tys⟩) K = (match ev E st f with
    | .fn g caps => callP P E st g (args.toList.map (ev E st) ++ caps) K
    | _ => False) := rfl
theorem opP_other {o : Op} {K : Eff → Prop} (h : ∀ f args tys, o ≠ .call ⟨.value f, args, tys⟩) : opP P E st o K = (match eff E st o with
    | some (p, e) => p ∧ K e
    | none => False) := by
  unfold opP
  split
  · rename_i f args tys
    exact absurd rfl (h f args tys)
  · rfl
theorem opP_cases (o : Op) : (∃ f args tys, o = .call ⟨.value f, args, tys⟩) ∨ ∀ f args tys, o ≠ .call ⟨.value f, args, tys⟩ := by
  by_cases h : ∃ f args tys, o = .call ⟨.value f, args, tys⟩
  · exact .inl h
  · exact .inr fun f args tys he => h ⟨f, args, tys, he⟩

theorem callP_ex {f : Nat} {xs : List PV} {K : Eff → Prop} (h : callP P E st f xs K) : ∃ e, (∀ K' : Eff → Prop, K' e → callP P E st f xs K') ∧ K e := by
  unfold callP at h
  split at h
  · exact h.elim
  rename_i A hA
  obtain ⟨h1, bks, res, al, h2, h3⟩ := h
  split at h3
  · exact h3.elim
  rename_i l hl
  refine ⟨_, fun K' hk => ?_, h3⟩
  unfold callP
  rw [hA]
  refine ⟨h1, bks, res, al, h2, ?_⟩
  rw [hl]
  exact hk

theorem opP_ex {o : Op} {K : Eff → Prop} (h : opP P E st o K) : ∃ e, (∀ K' : Eff → Prop, K' e → opP P E st o K') ∧ K e := by
  rcases opP_cases o with ⟨f, args, tys, rfl⟩ | ho
  · rw [opP_call] at h
    split at h
    case h_2 => exact h.elim
    rename_i g caps hf
    obtain ⟨e, h1, h2⟩ := callP_ex h
    refine ⟨e, fun K' hk => ?_, h2⟩
    rw [opP_call, hf]
    exact h1 K' hk
  · rw [opP_other ho] at h
    split at h
    case h_2 => exact h.elim
    rename_i p e he
    refine ⟨e, fun K' hk => ?_, h.2⟩
    rw [opP_other ho, he]
    exact ⟨h.1, hk⟩

theorem opP_mono {o : Op} {K K' : Eff → Prop} (hk : ∀ e, K e → K' e) (h : opP P E st o K) : opP P E st o K' := by
  obtain ⟨e, h1, h2⟩ := opP_ex h
  exact h1 K' (hk e h2)

/-- Only the operands' values count. -/
theorem eff_temps {st' : St} {o : Op} (hs : st.store = st'.store) (hn : st.next = st'.next) (h : ∀ x ∈ o.operands, ev E st x = ev E st' x) : eff E st o = eff E st' o := by
  obtain ⟨t, s, nx⟩ := st
  obtain ⟨t', s', nx'⟩ := st'
  simp only at hs hn
  subst hs hn
  have hmap : ∀ l : List (Nat × Operand), (∀ x ∈ l, ev E ⟨t, s, nx⟩ x.2 = ev E ⟨t', s, nx⟩ x.2) → l.map (fun x => ev E ⟨t, s, nx⟩ x.2) = l.map (fun x => ev E ⟨t', s, nx⟩ x.2) := fun l hl => List.map_congr_left hl
  have hmap2 : ∀ l : List (Nat × Operand), (∀ x ∈ l, ev E ⟨t, s, nx⟩ x.2 = ev E ⟨t', s, nx⟩ x.2) → l.map (fun x => (x.1, ev E ⟨t, s, nx⟩ x.2)) = l.map (fun x => (x.1, ev E ⟨t', s, nx⟩ x.2)) := fun l hl => List.map_congr_left fun x hx => by rw [hl x hx]
  cases o with
  | build ty ps =>
    simp only [eff]
    rw [hmap2 ps.toList fun x hx => h x.2 (by simp only [Op.operands, List.mem_toArray]; exact List.mem_map_of_mem hx)]
    rfl
  | buildSlice ty len ps =>
    simp only [eff]
    rw [hmap ps.toList fun x hx => h x.2 (by simp only [Op.operands, List.mem_toArray]; exact List.mem_map_of_mem hx)]
    rfl
  | makeFunc fn first caps =>
    simp only [eff]
    have : caps.toList.map (ev E ⟨t, s, nx⟩) = caps.toList.map (ev E ⟨t', s, nx⟩) := List.map_congr_left fun x hx => h x (by simp only [Op.operands, Array.mem_append]; exact .inr (by simpa using hx))
    rw [this]
    rfl
  | slice ty x lo hi mx =>
    cases mx with
    | some m => simp [eff]
    | none =>
      simp only [eff]
      rw [h x (by simp [Op.operands])]
      have h1 : lo.map (ev E ⟨t, s, nx⟩) = lo.map (ev E ⟨t', s, nx⟩) := by
        cases lo with
        | none => rfl
        | some y => simp only [Option.map_some]; rw [h y (by simp [Op.operands])]
      have h2 : hi.map (ev E ⟨t, s, nx⟩) = hi.map (ev E ⟨t', s, nx⟩) := by
        cases hi with
        | none => rfl
        | some y => simp only [Option.map_some]; rw [h y (by simp [Op.operands])]
      rw [h1, h2]
      rfl
  | call c =>
    obtain ⟨callee, args, tys⟩ := c
    simp only [eff]
    cases callee with
    | builtin b =>
      have hx : ∀ x ∈ args.toList, ev E ⟨t, s, nx⟩ x = ev E ⟨t', s, nx⟩ x := fun x hx => h x (by simp only [Op.operands, Call.operands, Array.mem_append]; exact .inr (by simpa using hx))
      generalize args.toList = l at hx ⊢
      rcases l with _ | ⟨x, _ | ⟨y, _ | ⟨z, l⟩⟩⟩
      · cases b <;> rfl
      · have e1 := hx x (by simp)
        cases b <;> (try rfl) <;> (simp only []; rw [e1]; rfl)
      · have e1 := hx x (by simp)
        have e2 := hx y (by simp)
        cases b <;> (try rfl) <;> (simp only []; rw [e1, e2]; rfl)
      · cases b <;> rfl
    | _ => rfl
  | pick c x y => simp only [eff]; rw [h c (by simp [Op.operands]), h x (by simp [Op.operands]), h y (by simp [Op.operands])]; rfl
  | store _ x y => simp only [eff]; rw [h x (by simp [Op.operands]), h y (by simp [Op.operands])]; rfl
  | binOp _ _ x y _ => simp only [eff]; rw [h x (by simp [Op.operands]), h y (by simp [Op.operands])]
  | makeSlice _ x y => simp only [eff]; rw [h x (by simp [Op.operands]), h y (by simp [Op.operands])]
  | indexAddr _ x y => simp only [eff]; rw [h x (by simp [Op.operands]), h y (by simp [Op.operands])]
  | index _ x y => simp only [eff]; rw [h x (by simp [Op.operands]), h y (by simp [Op.operands])]
  | move x => simp only [eff]; rw [h x (by simp [Op.operands])]; rfl
  | assign x => simp only [eff]; rw [h x (by simp [Op.operands])]; rfl
  | box _ x => simp only [eff]; rw [h x (by simp [Op.operands])]; rfl
  | load _ x => simp only [eff]; rw [h x (by simp [Op.operands])]; rfl
  | nilCheck x => simp only [eff]; rw [h x (by simp [Op.operands])]; rfl
  | unOp _ _ x => simp only [eff]; rw [h x (by simp [Op.operands])]; rfl
  | convert _ _ x => simp only [eff]; rw [h x (by simp [Op.operands])]; rfl
  | fieldAddr _ x _ => simp only [eff]; rw [h x (by simp [Op.operands])]; rfl
  | field _ x _ => simp only [eff]; rw [h x (by simp [Op.operands])]; rfl
  | extract x _ => simp only [eff]; rw [h x (by simp [Op.operands])]; rfl
  | alloc _ => rfl
  | _ => rfl

theorem opP_temps {st' : St} {o : Op} {K : Eff → Prop} (hs : st.store = st'.store) (hn : st.next = st'.next) (h : ∀ x ∈ o.operands, ev E st x = ev E st' x) (hp : opP P E st o K) : opP P E st' o K := by
  rcases opP_cases o with ⟨f, args, tys, rfl⟩ | ho
  · have hf : ev E st f = ev E st' f := h f (by simp [Op.operands, Call.operands])
    have ha : args.toList.map (ev E st) = args.toList.map (ev E st') := List.map_congr_left fun x hx => h x (by simp only [Op.operands, Call.operands, Array.mem_append]; exact .inr (by simpa using hx))
    rw [opP_call, hf, ha] at hp
    rw [opP_call]
    split at hp
    case h_2 => exact hp.elim
    rename_i g caps hg
    unfold callP at hp ⊢
    rw [hs, hn] at hp
    exact hp
  · rw [opP_other ho, eff_temps hs hn h] at hp
    rw [opP_other ho]
    exact hp

theorem opP_sound {next : Act → World → Prop} {Q : Exit → Act → World → Prop} (hT : TyOk P E.T) (h : Rel w0 R0 F0 gh E.G n R σ fps st a w) {o : Oper} (hd : dstOk n o.dst) {K : Eff → Prop} (hc : opP P E st o.op K)
    (hK : ∀ e w' R' σ' fps' u, K e → Rel w0 R0 F0 gh E.G n R' σ' fps' (st.app o.dst e) (a.put o.dst u) w' → next (a.put o.dst u) w') : o.wp P a w next Q := by
  rcases opP_cases o.op with ⟨f, args, tys, ho⟩ | ho
  · rw [ho, opP_call] at hc
    split at hc
    case h_2 => exact hc.elim
    rename_i g caps hf
    exact call_sound h hd ho hf hc hK
  · rw [opP_other ho] at hc
    split at hc
    case h_2 => exact hc.elim
    rename_i p e he
    obtain ⟨nx, u, w', R', σ', fps', hr, hn, hrel⟩ := eff_sound hT h hd he hc.1
    unfold Oper.wp
    rw [hr]
    rcases hn with rfl | ⟨rfl, rfl⟩
    · rw [Oper.upon_value]; exact hK e w' R' σ' fps' u hc.2 hrel
    · rw [Oper.upon_skip]; exact hK e w' R' σ' fps' _ hc.2 hrel

end
end Go.Proofs.Ytfphffeonmjfcaa.PVE
