/- The PV engine, part 23: the run of the transformer, by 'simp only [go_sem]'. -/
import Derived.Test.YtfphffeonmjfcaaE22
set_option linter.unusedVariables false
set_option linter.unusedSimpArgs false
set_option linter.unusedSectionVars false
namespace Go.Proofs.Ytfphffeonmjfcaa.PVE
open PV

/-- Behind the first of two codes. -/
def seqQ (K : St → Prop) (Q : Ex → St → Prop) : Ex → St → Prop
  | .normal, s => K s
  | .exit i, s => Q (.exit i) s
  | .ret, s => Q .ret s
def blockQ (id : Nat) (Q : Ex → St → Prop) : Ex → St → Prop
  | .exit i, s => if i = id then Q .normal s else Q (.exit i) s
  | .normal, s => Q .normal s
  | .ret, s => Q .ret s
def loopQ (I : St → Prop) (μ : St → Nat) (m : Nat) (Q : Ex → St → Prop) : Ex → St → Prop
  | .normal, s' => ∃ s'', SimS s' s'' ∧ I s'' ∧ μ s'' < m
  | .exit i, s' => Q (.exit i) s'
  | .ret, s' => Q .ret s'
def finQ (F : St → Prop) : Ex → St → Prop
  | .exit _, _ => False
  | _, s => F s
@[go_sem] theorem seqQ_n {K : St → Prop} {Q : Ex → St → Prop} {s : St} : seqQ K Q .normal s = K s := rfl
@[go_sem] theorem seqQ_e {K : St → Prop} {Q : Ex → St → Prop} {s : St} {i : Nat} : seqQ K Q (.exit i) s = Q (.exit i) s := rfl
@[go_sem] theorem seqQ_r {K : St → Prop} {Q : Ex → St → Prop} {s : St} : seqQ K Q .ret s = Q .ret s := rfl
@[go_sem] theorem blockQ_n {id : Nat} {Q : Ex → St → Prop} {s : St} : blockQ id Q .normal s = Q .normal s := rfl
@[go_sem] theorem blockQ_e {id : Nat} {Q : Ex → St → Prop} {s : St} {i : Nat} : blockQ id Q (.exit i) s = if i = id then Q .normal s else Q (.exit i) s := rfl
@[go_sem] theorem blockQ_r {id : Nat} {Q : Ex → St → Prop} {s : St} : blockQ id Q .ret s = Q .ret s := rfl
theorem loopQ_n {I : St → Prop} {μ : St → Nat} {m : Nat} {Q : Ex → St → Prop} {s : St} : loopQ I μ m Q .normal s = ∃ s'', SimS s s'' ∧ I s'' ∧ μ s'' < m := rfl
@[go_sem] theorem loopQ_e {I : St → Prop} {μ : St → Nat} {m : Nat} {Q : Ex → St → Prop} {s : St} {i : Nat} : loopQ I μ m Q (.exit i) s = Q (.exit i) s := rfl
@[go_sem] theorem loopQ_r {I : St → Prop} {μ : St → Nat} {m : Nat} {Q : Ex → St → Prop} {s : St} : loopQ I μ m Q .ret s = Q .ret s := rfl
@[go_sem] theorem finQ_n {F : St → Prop} {s : St} : finQ F .normal s = F s := rfl
@[go_sem] theorem finQ_r {F : St → Prop} {s : St} : finQ F .ret s = F s := rfl

section
variable {P : Program} {E : Env} {n : Nat} {st : St} {Q : Ex → St → Prop}

theorem pwp_congr {Q' : Ex → St → Prop} (h : ∀ ex s, Q ex s → Q' ex s) : ∀ (c : Code) (st : St), pwp P E n c Q st → pwp P E n c Q' st := by
  have ops : ∀ (ops : Array Oper) (K K' : St → Prop), (∀ s, K s → K' s) → ∀ (l : List Oper) (st : St), pwpOps P E n ops K l st → pwpOps P E n ops K' l st := by
    intro ops K K' hK l
    induction l with
    | nil => intro st hp; exact hK st hp
    | cons o l ih =>
      intro st hp
      simp only [pwpOps] at hp ⊢
      have run : ∀ st, opP P E st o.op (fun e => dstOk n o.dst ∧ pwpOps P E n ops K l (st.app o.dst e)) → opP P E st o.op (fun e => dstOk n o.dst ∧ pwpOps P E n ops K' l (st.app o.dst e)) := fun st hp => opP_mono (fun e he => ⟨he.1, ih _ he.2⟩) hp
      cases hg : o.guard with
      | none => rw [hg] at hp; exact run st hp
      | some g =>
        obtain ⟨j, want⟩ := g
        rw [hg] at hp
        simp only at hp ⊢
        split at hp
        case h_2 => exact hp.elim
        split at hp
        · split at hp
          · rename_i hbw; simp only [hbw, if_true]; exact run st hp
          · rename_i hbw; simp only [hbw, if_false]; exact ⟨hp.1, ih _ hp.2⟩
        · exact ⟨hp.1, ih _ hp.2⟩
        · exact hp.elim
  have vals : ∀ (ops : Array Oper) (K K' : St → Prop), (∀ s, K s → K' s) → ∀ (l : List Oper) (st : St), pwpVal P E n ops K l st → pwpVal P E n ops K' l st := by
    intro ops K K' hK l
    induction l with
    | nil => intro st hp; exact hK st hp
    | cons o l ih =>
      intro st hp
      simp only [pwpVal] at hp ⊢
      have run : ∀ st, opP P E st o.op (fun e => (dstOk n o.dst ∧ e.rem = [] ∧ e.add = [] ∧ e.nx = st.next) ∧ pwpVal P E n ops K l (st.app o.dst e)) → opP P E st o.op (fun e => (dstOk n o.dst ∧ e.rem = [] ∧ e.add = [] ∧ e.nx = st.next) ∧ pwpVal P E n ops K' l (st.app o.dst e)) := fun st hp => opP_mono (fun e he => ⟨he.1, ih _ he.2⟩) hp
      cases hg : o.guard with
      | none => rw [hg] at hp; exact run st hp
      | some g =>
        obtain ⟨j, want⟩ := g
        rw [hg] at hp
        simp only at hp ⊢
        split at hp
        case h_2 => exact hp.elim
        split at hp
        · split at hp
          · rename_i hbw; simp only [hbw, if_true]; exact run st hp
          · rename_i hbw; simp only [hbw, if_false]; exact ⟨hp.1, ih _ hp.2⟩
        · exact ⟨hp.1, ih _ hp.2⟩
        · exact hp.elim
  intro c
  induction c generalizing Q Q' with
  | skip => intro st hp; exact h _ _ hp
  | region id os d =>
    intro st hp
    cases d with
    | false => exact ops os _ _ (h .normal) _ _ hp
    | true => exact ⟨hp.1, vals os _ _ (h .normal) _ _ hp.2⟩
  | seq x y ihx ihy =>
    intro st hp
    simp only [pwp] at hp ⊢
    refine ihx (fun ex s hs => ?_) st hp
    cases ex with
    | normal =>
      obtain ⟨s', h1, h2⟩ := hs
      exact ⟨s', h1, ihy h s' h2⟩
    | exit i => exact h _ _ hs
    | ret => exact h _ _ hs
  | cond c x y ihx ihy =>
    intro st hp
    simp only [pwp] at hp ⊢
    split at hp
    case h_2 => exact hp.elim
    split at hp
    · rename_i ht; simp only [ht, if_true]; exact ihx h st hp
    · rename_i ht; simp only [ht, if_false]; exact ihy h st hp
  | block id c ih =>
    intro st hp
    simp only [pwp] at hp ⊢
    refine ih (fun ex s hs => ?_) st hp
    cases ex with
    | normal => exact h _ _ hs
    | exit i =>
      simp only at hs ⊢
      split
      · rename_i hi; simp only [hi, if_true] at hs; exact h _ _ hs
      · rename_i hi; simp only [hi, if_false] at hs; exact h _ _ hs
    | ret => exact h _ _ hs
  | loop c ih =>
    intro st hp
    obtain ⟨I, μ, h0, hr⟩ := hp
    refine ⟨I, μ, h0, fun s hI => ih (fun ex s' hs => ?_) s (hr s hI)⟩
    cases ex with
    | normal => exact hs
    | exit i => exact h _ _ hs
    | ret => exact h _ _ hs
  | exit id => intro st hp; exact h _ _ hp
  | ret => intro st hp; exact h _ _ hp
  | _ => intro st hp; simp only [pwp] at hp

theorem pwp_seq {a b : Code} (h : ∀ K : St → Prop, (∀ s, pwp P E n b Q s → K s) → pwp P E n a (seqQ K Q) st) : pwp P E n (.seq a b) Q st := by
  refine pwp_congr (fun ex s hs => ?_) a st (h (fun s => pwp P E n b Q s) (fun _ h => h))
  cases ex with
  | normal => exact ⟨s, .inl rfl, hs⟩
  | exit i => exact hs
  | ret => exact hs
/-- Between the two codes only what X names is kept. -/
theorem pwp_cut {α : Type} {a b : Code} (X : α → St) (I : α → Prop) (h : ∀ K : St → Prop, (∀ x s, I x → SimS s (X x) → K s) → pwp P E n a (seqQ K Q) st) (hb : ∀ x, I x → pwp P E n b Q (X x)) : pwp P E n (.seq a b) Q st := by
  refine pwp_congr (fun ex s hs => ?_) a st (h (fun s => ∃ x, I x ∧ SimS s (X x)) (fun x s h1 h2 => ⟨x, h1, h2⟩))
  cases ex with
  | normal =>
    obtain ⟨x, h1, h2⟩ := hs
    exact ⟨X x, .inr h2, hb x h1⟩
  | exit i => exact hs
  | ret => exact hs
theorem pwp_region {id : Nat} {ops : Array Oper} (h : pwpOps P E n ops (Q .normal) ops.toList st) : pwp P E n (.region id ops false) Q st := h
theorem pwp_draw {id : Nat} {ops : Array Oper} (h1 : drawOk ops = true) (h : pwpVal P E n ops (Q .normal) ops.toList st) : pwp P E n (.region id ops true) Q st := ⟨h1, h⟩
theorem pwp_cond {c : Operand} {a b : Code} {t : Bool} (hc : ev E st c = .bool t) (h1 : t = true → pwp P E n a Q st) (h2 : t = false → pwp P E n b Q st) : pwp P E n (.cond c a b) Q st := by
  simp only [pwp, hc]
  cases t with
  | true => exact h1 rfl
  | false => exact h2 rfl
theorem pwp_condT {c : Operand} {a b : Code} (hc : ev E st c = .bool true) (h1 : pwp P E n a Q st) : pwp P E n (.cond c a b) Q st := pwp_cond hc (fun _ => h1) (fun h => by cases h)
theorem pwp_condF {c : Operand} {a b : Code} (hc : ev E st c = .bool false) (h1 : pwp P E n b Q st) : pwp P E n (.cond c a b) Q st := pwp_cond hc (fun h => by cases h) (fun _ => h1)
theorem pwp_block {id : Nat} {c : Code} (h : pwp P E n c (blockQ id Q) st) : pwp P E n (.block id c) Q st := by
  refine pwp_congr (fun ex s hs => ?_) c st h
  cases ex <;> exact hs
theorem pwp_skip (h : Q .normal st) : pwp P E n .skip Q st := h
theorem pwp_exit {id : Nat} (h : Q (.exit id) st) : pwp P E n (.exit id) Q st := h
theorem pwp_ret (h : Q .ret st) : pwp P E n .ret Q st := h
theorem pwp_loop {α : Type} {c : Code} (X : α → St) (I : α → Prop) (m : α → Nat) (x0 : α) (h0 : SimS st (X x0)) (hI : I x0)
    (hr : ∀ x, I x → pwp P E n c (loopQ (fun s => ∃ y, s = X y ∧ I y ∧ m y < m x) (fun _ => 0) 1 Q) (X x)) : pwp P E n (.loop c) Q st := by
  refine ⟨fun s => ∃ y, s = X y ∧ I y, fun s => leastOf (fun k => ∃ y, s = X y ∧ I y ∧ m y = k), ⟨_, h0, x0, rfl, hI⟩, ?_⟩
  rintro s ⟨y, rfl, hy⟩
  obtain ⟨⟨z, hz1, hz2, hz3⟩, hz4⟩ := leastOf_spec (p := fun k => ∃ z, X y = X z ∧ I z ∧ m z = k) ⟨m y, y, rfl, hy, rfl⟩
  rw [hz1]
  rw [hz1] at hz3
  refine pwp_congr (fun ex s' hs => ?_) c _ (hr z hz2)
  cases ex with
  | normal =>
    obtain ⟨s'', h1, ⟨y', rfl, h3, h4⟩, _⟩ := hs
    refine ⟨_, h1, ⟨y', rfl, h3⟩, ?_⟩
    simp only
    rw [← hz3]
    exact Nat.lt_of_le_of_lt ((leastOf_spec (p := fun k => ∃ z, X y' = X z ∧ I z ∧ m z = k) ⟨m y', y', rfl, h3, rfl⟩).2 _ ⟨y', rfl, h3, rfl⟩) h4
  | exit i => exact hs
  | ret => exact hs

theorem loop_next {α : Type} {X : α → St} {I : α → Prop} {m : α → Nat} {k : Nat} {s : St} (y : α) (h : SimS s (X y)) (hI : I y) (hm : m y < k) : loopQ (fun s => ∃ y, s = X y ∧ I y ∧ m y < k) (fun _ => 0) 1 Q .normal s :=
  ⟨X y, h, ⟨y, rfl, hI, hm⟩, Nat.zero_lt_one⟩
theorem simS_of {ts : List (Nat × PV)} {rs : List PV} (ids : List Nat) (h0 : ids.Nodup) (h1 : SimT st ids ts) (h2 : SimR st ids rs) : SimS st (mkSt ts rs) := ⟨ts, rs, rfl, ids, h0, h1, h2⟩
theorem fin1 {s : St} {t : ResultVar} {res : PV} {al : Bool} {bks : List (Option PV)} (h : ExpK (expRV E s t) res fun lo lf => BackL s 0 bks fun lb => (lo ++ lb).Nodup ∧ ∀ r ∈ lf, r ∉ lo ++ lb) (h1 : res.free) (h2 : al = false → res.noR ∧ noRB bks) : Fin E [t] res bks al s := by
  refine ⟨⟨[res], rfl, ?_⟩, h1, h2⟩
  simp only [ExpL, List.append_nil]
  exact h
theorem finL {s : St} {ts : List ResultVar} {ps : List PV} {al : Bool} (hl : ts.length ≠ 1) {bks : List (Option PV)} (h : ExpL E s ts ps fun lo lf => BackL s 0 bks fun lb => (lo ++ lb).Nodup ∧ ∀ r ∈ lf, r ∉ lo ++ lb) (h1 : PV.freeL ps) (h2 : al = false → PV.noRL ps ∧ noRB bks) : Fin E ts (.tup ps) bks al s := by
  refine ⟨⟨ps, ?_, h⟩, h1, h2⟩
  rcases ts with _ | ⟨t, _ | ⟨u, ts⟩⟩
  · rfl
  · simp at hl
  · rfl
theorem expK_own {x : Option (PV × List Nat)} {res : PV} {l : List Nat} (h : x = some (res, l)) {K : List Nat → List Nat → Prop} (hK : K l []) : ExpK x res K := by
  subst h
  exact .inl ⟨.inl rfl, hK⟩
theorem expK_eq {x : Option (PV × List Nat)} {res pv' : PV} {l : List Nat} {K : List Nat → List Nat → Prop} (h : x = some (pv', l)) (hr : res = pv') (hK : K l []) : ExpK x res K := by
  subst h hr
  exact .inl ⟨.inl rfl, hK⟩
theorem expK_nil {sz : Nat} {K : List Nat → List Nat → Prop} (hK : K [] []) : ExpK (some (.nilS, [])) (.slo sz []) K := .inl ⟨.inr ⟨rfl, sz, rfl⟩, hK⟩
theorem expK_frz {x : Option (PV × List Nat)} {pv' res : PV} {l : List Nat} (h : x = some (pv', l)) (hr : res = pv'.strip) {K : List Nat → List Nat → Prop} (hK : K [] l) : ExpK x res K := by
  subst h
  exact .inr ⟨hr, hK⟩

theorem pcalls {f : Nat} {fn : Func} {c : Code} {ts : List ResultVar} (hT : TyOk P E.T) (hm : P.follows .mixedOrders = true) (hf : P.funcs[f]? = some fn) (hname : (fn.name == "runtime.NumGoroutine") = false) (hb : fn.body = some c)
    (hres : fn.results = ts.toArray) {args : List PV} {bks : List (Option PV)} {res : PV} {al : Bool} {m : Nat} (hnt : fn.ntmps = m) (hbk : bks.length = args.length) (hn : args.length ≤ m)
    (h : pwp P E m c (finQ (Fin E ts res bks al)) (entry args)) : PCalls P E.G f args bks res al := by
  subst hnt
  exact pcalls_of_pwp hT hm hf hname hb hres hbk hn (pwp_congr (fun ex s hs => by cases ex <;> exact hs) _ _ h)
end
end Go.Proofs.Ytfphffeonmjfcaa.PVE
