/- Queries. -/
import Derived.Test.YtmanllfmgghadaaGreatDoorT2
set_option linter.unusedVariables false
set_option linter.unusedSimpArgs false
set_option maxRecDepth 100000
namespace Go.Proofs.YtmanllfmgghadaaGreatDoor.PVE
open PV
inductive Query where
  | mk (kind : Int) (field text : Str) (low high : Int) (parts : List Query)
  deriving Inhabited
namespace Query
def kind : Query → Int | mk k _ _ _ _ _ => k
def field : Query → Str | mk _ f _ _ _ _ => f
def text : Query → Str | mk _ _ t _ _ _ => t
def low : Query → Int | mk _ _ _ l _ _ => l
def high : Query → Int | mk _ _ _ _ h _ => h
def parts : Query → List Query | mk _ _ _ _ _ p => p
mutual
def pv : Query → PV | mk k f t l h p => .agg [.int .i64 k, .str f, .str t, .int .i64 l, .int .i64 h, .sl (pvL p)]
def pvL : List Query → List PV
  | [] => []
  | q :: l => pv q :: pvL l
end
mutual
def pvo : Query → PV | mk k f t l h p => .agg [.int .i64 k, .str f, .str t, .int .i64 l, .int .i64 h, .slo 6 (pvoL p)]
def pvoL : List Query → List PV
  | [] => []
  | q :: l => pvo q :: pvoL l
end
theorem pvL_map : ∀ l, pvL l = l.map pv
  | [] => rfl
  | q :: l => by rw [pvL, pvL_map l]; rfl
theorem pvoL_map : ∀ l, pvoL l = l.map pvo
  | [] => rfl
  | q :: l => by rw [pvoL, pvoL_map l]; rfl
theorem pv_eq : ∀ q : Query, q.pv = .agg [.int .i64 q.kind, .str q.field, .str q.text, .int .i64 q.low, .int .i64 q.high, .sl (q.parts.map pv)]
  | mk k f t l h p => by rw [pv, pvL_map]; rfl
theorem pvo_eq : ∀ q : Query, q.pvo = .agg [.int .i64 q.kind, .str q.field, .str q.text, .int .i64 q.low, .int .i64 q.high, .slo 6 (q.parts.map pvo)]
  | mk k f t l h p => by rw [pvo, pvoL_map]; rfl
@[go_sem] theorem cells (q : Query) : q.pv.cells = [.int .i64 q.kind, .str q.field, .str q.text, .int .i64 q.low, .int .i64 q.high, .sl (q.parts.map pv)] := by rw [pv_eq]; rfl
@[go_sem] theorem cellso (q : Query) : q.pvo.cells = [.int .i64 q.kind, .str q.field, .str q.text, .int .i64 q.low, .int .i64 q.high, .slo 6 (q.parts.map pvo)] := by rw [pvo_eq]; rfl
@[elab_as_elim] theorem ind {P : Query → Prop} (h : ∀ q : Query, (∀ p ∈ q.parts, P p) → P q) : ∀ q, P q := by
  intro q
  induction hn : SizeOf.sizeOf q using Nat.strongRecOn generalizing q with
  | _ n ih =>
    refine h q fun p hp => ih (SizeOf.sizeOf p) ?_ p rfl
    cases q with
    | mk k f t l hh ps =>
      have := List.sizeOf_lt_of_mem hp
      simp only [mk.sizeOf_spec] at hn
      simp only [parts] at this
      omega
end Query
open Query
theorem all_freeL {f : Query → PV} : ∀ {l : List Query}, (∀ p ∈ l, (f p).free) → PV.freeL (l.map f)
  | [], _ => trivial
  | q :: l, h => ⟨h q (by simp), all_freeL fun p hp => h p (List.mem_cons_of_mem _ hp)⟩
theorem all_noRL {f : Query → PV} : ∀ {l : List Query}, (∀ p ∈ l, (f p).noR) → PV.noRL (l.map f)
  | [], _ => trivial
  | q :: l, h => ⟨h q (by simp), all_noRL fun p hp => h p (List.mem_cons_of_mem _ hp)⟩
theorem all_stripL {f g : Query → PV} : ∀ {l : List Query}, (∀ p ∈ l, (f p).strip = g p) → PV.stripL (l.map f) = l.map g
  | [], _ => rfl
  | q :: l, h => by rw [List.map_cons, PV.stripL, h q (by simp), all_stripL fun p hp => h p (List.mem_cons_of_mem _ hp)]; rfl
theorem pv_free (q : Query) : q.pv.free := by
  refine Query.ind (P := fun q => q.pv.free) (fun q ih => ?_) q
  rw [pv_eq]
  exact ⟨trivial, trivial, trivial, trivial, trivial, all_freeL ih, trivial⟩
theorem pvo_free (q : Query) : q.pvo.free := by
  refine Query.ind (P := fun q => q.pvo.free) (fun q ih => ?_) q
  rw [pvo_eq]
  exact ⟨trivial, trivial, trivial, trivial, trivial, all_freeL ih, trivial⟩
instance : Enc Query.pv 6 := ⟨pv_free, fun q => by
    have := all_freeL (l := q.parts) fun p _ => pv_free p
    rw [pv_eq]; simp only [PV.okr, PV.okrL, this, and_self], fun q => by rw [Query.cells]; rfl⟩
instance : Enc Query.pvo 6 := ⟨pvo_free, fun q => by
    have := all_freeL (l := q.parts) fun p _ => pvo_free p
    rw [pvo_eq]; simp only [PV.okr, PV.okrL, this, and_self], fun q => by rw [Query.cellso]; rfl⟩
instance : EncN Query.pvo := ⟨fun q => by
    refine Query.ind (P := fun q => q.pvo.noR) (fun q ih => ?_) q
    rw [pvo_eq]
    exact ⟨trivial, trivial, trivial, trivial, trivial, all_noRL ih, trivial⟩⟩
instance : EncS Query.pvo Query.pv := ⟨fun q => by
    refine Query.ind (P := fun q => q.pvo.strip = q.pv) (fun q ih => ?_) q
    rw [pvo_eq, pv_eq]
    simp only [PV.strip, PV.stripL, all_stripL ih]⟩
instance : EncS Query.pv Query.pv := ⟨fun q => by rw [pv_eq]; rfl⟩
inductive Query.Sm : Query → Prop
  | mk (q : Query) (hf : q.field.length ≤ 1099511627776) (ht : q.text.length ≤ 1099511627776) (hp : q.parts.length ≤ 1099511627776) (h : ∀ p ∈ q.parts, p.Sm) : q.Sm
def kindF (l : List Field) (n : Str) (k : Int) : Bool := decide ((fieldOf l n).kind = k)
def nodeF (l : List Field) (q : Query) : Bool :=
  if q.kind = 2 ∨ q.kind = 3 ∨ q.kind = 4 then decide (q.field = []) || kindF l q.field 1
  else if q.kind = 5 then kindF l q.field 2
  else if q.kind = 6 then kindF l q.field 3
  else true
mutual
def fitsI (l : List Field) : Query → Bool | .mk k f t lo hi p => if 2 ≤ k ∧ k ≤ 6 then nodeF l (.mk k f t lo hi p) else fitsIL l p
def fitsIL (l : List Field) : List Query → Bool
  | [] => true
  | q :: qs => fitsI l q && fitsIL l qs
end
mutual
def fitsS (l : List Field) : Query → Bool | .mk k f t lo hi p => fitsSL l p && nodeF l (.mk k f t lo hi p)
def fitsSL (l : List Field) : List Query → Bool
  | [] => true
  | q :: qs => fitsS l q && fitsSL l qs
end
end Go.Proofs.YtmanllfmgghadaaGreatDoor.PVE
