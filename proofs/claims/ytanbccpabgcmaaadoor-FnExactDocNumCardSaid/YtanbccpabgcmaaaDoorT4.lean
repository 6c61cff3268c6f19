/- Draws. -/
import Derived.Test.YtanbccpabgcmaaaDoorT3
set_option linter.unusedVariables false
set_option linter.unusedSimpArgs false
set_option maxRecDepth 100000
namespace Go.Proofs.YtanbccpabgcmaaaDoor.PVE
open PV Query
/-- A reader of choices. -/
abbrev rd (b : Str) (p : Nat) : PV := .pto [.sl (b.map bytePV), .int .i64 p]
@[go_sem] theorem bytePV_ty (b : UInt8) : bytePV b = .int .u8 b.toNat := rfl
theorem byte_in (b : UInt8) : IntKind.i64.wrap (b.toNat : Int) = (b.toNat : Int) := by
  have := b.toNat_lt
  exact wrap_in (by omega) (by omega)
theorem tmod_nat (a n : Nat) : ((a : Int).tmod (n : Int)) = ((a % n : Nat) : Int) := (Int.ofNat_tmod a n).symm ▸ rfl
theorem xor_nat {x y : Nat} (hx : x < 2 ^ 63) (hy : y < 2 ^ 63) : bits .xor .i64 (x : Int) (y : Int) = ((x ^^^ y : Nat) : Int) := by
  have h : x ^^^ y < 2 ^ 63 := Nat.xor_lt_two_pow hx hy
  show IntKind.i64.wrap (((BitVec.ofInt 64 (x : Int)) ^^^ (BitVec.ofInt 64 (y : Int))).toNat : Int) = _
  rw [BitVec.ofInt_natCast, BitVec.ofInt_natCast, BitVec.toNat_xor, BitVec.toNat_ofNat, BitVec.toNat_ofNat, Nat.mod_eq_of_lt (by omega), Nat.mod_eq_of_lt (by omega)]
  exact wrap_in (by omega) (by omega)
/-- What is drawn past the end of the bytes. -/
def mixI (x : Nat) : Nat := x ^^^ (x / 64)
@[go_sem] theorem strsOf_nil : strsOf [] = [] := id rfl
@[go_sem] theorem strsOf_cons {s : Str} {l : List PV} : strsOf (.str s :: l) = s :: strsOf l := id rfl
@[go_sem] theorem strsAll_nil : strsAll [] = true := id rfl
@[go_sem] theorem strsAll_cons {s : Str} {l : List PV} : strsAll (.str s :: l) = strsAll l := id rfl
def intsOf : List PV → List Int
  | [] => []
  | .int .i64 s :: l => s :: intsOf l
  | _ :: l => intsOf l
def intsAll : List PV → Bool
  | [] => true
  | .int .i64 _ :: l => intsAll l
  | _ => false
theorem ints_map : ∀ {l : List PV}, intsAll l = true → l = (intsOf l).map (.int .i64)
  | [], _ => rfl
  | .int .i64 s :: l, h => by rw [intsOf, List.map_cons, ← ints_map (l := l) h]
@[go_sem] theorem intsOf_nil : intsOf [] = [] := id rfl
@[go_sem] theorem intsOf_cons {s : Int} {l : List PV} : intsOf (.int .i64 s :: l) = s :: intsOf l := id rfl
@[go_sem] theorem intsAll_nil : intsAll [] = true := id rfl
@[go_sem] theorem intsAll_cons {s : Int} {l : List PV} : intsAll (.int .i64 s :: l) = intsAll l := id rfl
theorem getD_mem {α : Type} {P : α → Prop} {l : List α} {x : α} (h : x ∈ l) (hp : ∀ y ∈ l, P y) : P x := hp x h
/-- So many more draws are within bounds. -/
theorem more {p : Nat} (h : p + 20 ≤ 1099511627776) : p ≤ 1099511627776 ∧ p + 1 ≤ 1099511627776 ∧ p + 1 + 1 ≤ 1099511627776 ∧ p + 1 + 1 + 1 ≤ 1099511627776 ∧ p + 1 + 1 + 1 + 1 ≤ 1099511627776 ∧ p + 1 + 1 + 1 + 1 + 1 ≤ 1099511627776 := by omega
theorem ex_if {α : Type} {c : Prop} {A B P : α → Prop} : (∃ r, ((c → A r) ∧ (¬c → B r)) ∧ P r) = ((c → ∃ r, A r ∧ P r) ∧ (¬c → ∃ r, B r ∧ P r)) := by
  by_cases h : c <;> simp [h]
theorem ex_bool {α : Type} {c : Bool} {A B P : α → Prop} : (∃ r, ((c = true → A r) ∧ (c = false → B r)) ∧ P r) = ((c = true → ∃ r, A r ∧ P r) ∧ (c = false → ∃ r, B r ∧ P r)) := by
  cases c <;> simp
theorem ex_and {α : Type} {c : Prop} {A P : α → Prop} : (∃ r, (c ∧ A r) ∧ P r) = (c ∧ ∃ r, A r ∧ P r) := by
  by_cases h : c <;> simp [h]
theorem ex_eq {α : Type} {a : α} {P : α → Prop} : (∃ r, a = r ∧ P r) = P a := by simp
/-- A drawn question, of at most c draws. -/
def QPost (b : Str) (p c : Nat) (n : List (Option PV)) (r : Ans) : Prop := ∃ q : Query, ∃ p' : Nat, r = ⟨some (.pto [.sl (b.map bytePV), .int .i64 (p' : Nat)]) :: n, q.pvo⟩ ∧ p ≤ p' ∧ p' ≤ p + c ∧ q.Sm
theorem qpost_leaf {b : Str} {p c p' : Nat} {n : List (Option PV)} {k lo hi : Int} {f t : Str} (h1 : p ≤ p') (h2 : p' ≤ p + c) (hf : f.length ≤ 1099511627776) (ht : t.length ≤ 1099511627776) : QPost b p c n ⟨some (.pto [.sl (b.map bytePV), .int .i64 (p' : Nat)]) :: n, .agg [.int .i64 k, .str f, .str t, .int .i64 lo, .int .i64 hi, .slo 6 []]⟩ :=
  ⟨.mk k f t lo hi [], p', by rw [pvo_eq]; rfl, h1, h2, ⟨_, hf, ht, by show 0 ≤ _; omega, fun p hp => by cases hp⟩⟩
theorem QPost.get {b : Str} {p c : Nat} {n : List (Option PV)} {r : Ans} (h : QPost b p c n r) : ∃ q : Query, ∃ p' : Nat, r = ⟨some (.pto [.sl (b.map bytePV), .int .i64 (p' : Nat)]) :: n, .agg [.int .i64 q.kind, .str q.field, .str q.text, .int .i64 q.low, .int .i64 q.high, .slo 6 (q.parts.map pvo)]⟩ ∧ p ≤ p' ∧ p' ≤ p + c ∧ q.Sm := by
  obtain ⟨q, p', h1, h2⟩ := h
  exact ⟨q, p', by rw [h1, pvo_eq], h2⟩
theorem qpost_q {b : Str} {p c p' : Nat} {n : List (Option PV)} {q : Query} (h1 : p ≤ p') (h2 : p' ≤ p + c) (h : q.Sm) : QPost b p c n ⟨some (.pto [.sl (b.map bytePV), .int .i64 (p' : Nat)]) :: n, .agg [.int .i64 q.kind, .str q.field, .str q.text, .int .i64 q.low, .int .i64 q.high, .slo 6 (q.parts.map pvo)]⟩ :=
  ⟨q, p', by rw [pvo_eq], h1, h2, h⟩
theorem ends_wx {S : Sys} {F : Fx} {c : Code} {ks : List Fr} {P : Ans → Prop} {σ : Type} (μ : σ → Nat) (X : σ → St) (I : σ → Prop) (s0 : σ) (h0 : I s0)
    (hs : ∀ s, I s → (∀ s', μ s' < μ s → I s' → ∃ r, Ends S F (.head c (X s') ks) r ∧ P r) → ∃ r, Ends S F (.run c (X s) (.loop c :: ks)) r ∧ P r) : ∃ r, Ends S F (.head c (X s0) ks) r ∧ P r := by
  have key : ∀ d s, μ s = d → I s → ∃ r, Ends S F (.head c (X s) ks) r ∧ P r := by
    intro d
    induction d using Nat.strongRecOn with
    | _ d ih =>
      intro s hd hI
      simp only [go_head]
      exact hs s hI fun s' hlt hI' => ih (μ s') (by omega) s' rfl hI'
  exact key _ s0 rfl h0
@[go_sem] theorem Query.snoc (l : List Query) (a lo hi : Int) (b c : Str) (m : List Query) : l.map pvo ++ [.agg [.int .i64 a, .str b, .str c, .int .i64 lo, .int .i64 hi, .slo 6 (m.map pvo)]] = (l ++ [Query.mk a b c lo hi m]).map pvo := by simp [pvo_eq, Query.kind, Query.field, Query.text, Query.low, Query.high, Query.parts]
theorem Query.eta (q : Query) : Query.mk q.kind q.field q.text q.low q.high q.parts = q := by cases q; rfl
theorem qpost_node {b : Str} {p c p' : Nat} {n : List (Option PV)} {k : Int} {ps : List Query} (h1 : p ≤ p') (h2 : p' ≤ p + c) (hl : ps.length ≤ 1099511627776) (h : ∀ q ∈ ps, q.Sm) : QPost b p c n ⟨some (.pto [.sl (b.map bytePV), .int .i64 (p' : Nat)]) :: n, .agg [.int .i64 k, .str [], .str [], .int .i64 0, .int .i64 0, .slo 6 (ps.map pvo)]⟩ :=
  ⟨.mk k [] [] 0 0 ps, p', by rw [pvo_eq]; rfl, h1, h2, ⟨_, by show 0 ≤ _; omega, by show 0 ≤ _; omega, hl, h⟩⟩
theorem qpost_all {b : Str} {p c p' : Nat} {n : List (Option PV)} {k lo hi : Int} {f t : Str} {ps : List Query} (h1 : p ≤ p') (h2 : p' ≤ p + c) (hf : f.length ≤ 1099511627776) (ht : t.length ≤ 1099511627776) (hl : ps.length ≤ 1099511627776) (h : ∀ q ∈ ps, q.Sm) : QPost b p c n ⟨some (.pto [.sl (b.map bytePV), .int .i64 (p' : Nat)]) :: n, .agg [.int .i64 k, .str f, .str t, .int .i64 lo, .int .i64 hi, .slo 6 (ps.map pvo)]⟩ :=
  ⟨.mk k f t lo hi ps, p', by rw [pvo_eq]; rfl, h1, h2, ⟨_, hf, ht, hl, h⟩⟩
/-- A denial. -/
def notQ (q : Query) : Query := .mk 9 [] [] 0 0 [q]
def fields10 : List Field := [⟨[116, 105, 116, 108, 101], 1, 3⟩, ⟨[98, 111, 100, 121], 1, 1⟩, ⟨[112, 114, 105, 99, 101], 2, 0⟩, ⟨[99, 111, 108, 111, 114], 3, 0⟩]
@[go_sem] theorem Field.re (f : Field) (off : Nat) (cs : List PV) : f.pv.reElem off cs = .agg (PV.putCells [.str f.name, .int .i64 f.kind, .int .i64 f.weight] off cs) := rfl
@[go_sem] theorem Field.setf (l : List Field) (i : Nat) (a : Str) (b c : Int) : (l.map Field.pv).set i (.agg [.str a, .int .i64 b, .int .i64 c]) = (l.set i (Field.mk a b c)).map Field.pv := by rw [List.map_set]; rfl
def FPost (b : Str) (p : Nat) (r : Ans) : Prop := ∃ l : List Field, ∃ p' : Nat, r = ⟨[some (.pto [.sl (b.map bytePV), .int .i64 (p' : Nat)])], .sl (l.map Field.pv)⟩ ∧ p ≤ p' ∧ p' ≤ p + 10 ∧ FSm l
theorem fpost {b : Str} {p p' : Nat} {l : List Field} (h1 : p ≤ p') (h2 : p' ≤ p + 10) (h : l.length ≤ 1000) (h3 : ∀ f ∈ l, f.name.length ≤ 1000) : FPost b p ⟨[some (.pto [.sl (b.map bytePV), .int .i64 (p' : Nat)])], .sl (l.map Field.pv)⟩ :=
  ⟨l, p', rfl, h1, h2, by omega, fun f hf => by have := h3 f hf; omega⟩
def DPost (r : Ans) : Prop := ∃ l : List Field, ∃ q : Query, r = ⟨[none], .tup [.sl (l.map Field.pv), .agg [.int .i64 q.kind, .str q.field, .str q.text, .int .i64 q.low, .int .i64 q.high, .slo 6 (q.parts.map pvo)]]⟩ ∧ FSm l ∧ q.Sm
end Go.Proofs.YtanbccpabgcmaaaDoor.PVE
