/- The PV engine, part 1: pure values, and what it means that a value of the model, in a world, is one. -/
import Derived.Calls
import Derived.Tactics
import Derived.Laws.AppendOwn
import Derived.Laws.OwnMore
import Derived.Laws.MakeOwn
import Derived.Laws.Build
import Derived.Laws.Tables
import Derived.Laws.Strings
import Derived.Laws.Strings2
import Derived.Laws.StructEq
import Derived.Laws.Slices
import Derived.Laws.IdiomCopy
import Derived.Laws.IdiomStrings
import Derived.Laws.Concat
import Derived.Laws.Small
import Derived.Laws.Unary
import Derived.Laws.BytesArg
import Derived.Laws.BytesString
import Derived.WalkLawsBesides
import Derived.WalkKit
import Derived.KernelRfl
set_option linter.unusedVariables false
set_option linter.unusedSectionVars false
set_option linter.unusedSimpArgs false
namespace Go.Proofs.YtanbccpabgcmaaaGreatDoor.PVE

/-- Pure values. 'sl': a slice that is only read; 'slo': a slice that is owned; 'pro', 'pto': pointers to cells, only read or owned; 'own', 'addr': handles into the frame's own store. -/
inductive PV where
  | undef
  | void
  | bool (b : Bool)
  | int (k : IntKind) (n : Int)
  | str (s : List UInt8)
  | lit (v : Value)
  | nilS
  | sl (es : List PV)
  | slo (sz : Nat) (es : List PV)
  | agg (cs : List PV)
  | pro (cs : List PV)
  | pto (cs : List PV)
  | own (r : Nat)
  | addr (r i off : Nat)
  | tup (vs : List PV)
  | fn (f : Nat) (caps : List PV)
  | ifc
  | vw (r a b : Nat)
  deriving Inhabited

/-- What a root of the store is in the model: its header (a slice, or a pointer to its block) and the cells of an element. -/
structure Hd where
  hdr : Value
  sz : Nat

def blkOf : Value → Option Nat
  | .slice (some a) _ _ => some a.block
  | .pointer (some a) => some a.block
  | _ => none

/-- A row that may be written: a block of its own, whose mark (if any) lies past its cells. -/
def Row (w : World) (sz : Nat) (v : Value) (n : Nat) (us : List Value) : Prop :=
  us.length = n * sz ∧
  ((v = .slice none 0 0 ∧ n = 0) ∨
   ∃ g cap cur e lo hi, v = .slice (some ⟨g, 0, none⟩) n cap ∧ w.heap[g]? = some (.cells cur e (lo, hi)) ∧ ((lo = 0 ∧ hi = 0) ∨ cur.size ≤ lo) ∧ n ≤ cap ∧ cap ≤ maxLen ∧ cur.size = cap * sz ∧ cur.toList.take (n * sz) = us)

mutual
/-- The value v, in the world w, is the pure value; fp: the blocks that it owns. R: the blocks that are only read. -/
def V (w : World) (R : Nat → Prop) (σ : Nat → Option Hd) : PV → Value → List Nat → Prop
  | .undef, _, fp => fp = []
  | .void, v, fp => v = .tuple #[] ∧ fp = []
  | .bool b, v, fp => v = .bool b ∧ fp = []
  | .int k n, v, fp => v = .int k n ∧ fp = []
  | .str s, v, fp => v = .string ⟨s.toArray⟩ ∧ fp = []
  | .lit u, v, fp => v = u ∧ u.oneCell' = true ∧ fp = []
  | .nilS, v, fp => v = .slice none 0 0 ∧ fp = []
  | .ifc, v, fp => (∃ t u, v = .iface t u) ∧ fp = []
  | .sl es, v, fp => fp = [] ∧ ∃ A cap us sz, v = .slice A es.length cap ∧ es.length ≤ cap ∧ cap ≤ maxLen ∧
      (0 < es.length → ∃ a, A = some a ∧ R a.block ∧ ∀ j u, us[j]? = some u → w.cell? (a.add j) = some u) ∧ Es w R σ sz es us []
  | .slo sz es, v, fp => ∃ us fp', Row w sz v es.length us ∧ Es w R σ sz es us fp' ∧ fp = (blkOf v).toList ++ fp'
  | .agg cs, v, fp => ∃ us, v = .agg us.toArray ∧ Cs w R σ cs us fp
  | .pro cs, v, fp => fp = [] ∧ ∃ a us, v = .pointer (some a) ∧ R a.block ∧ (∀ j u, us[j]? = some u → w.cell? (a.add j) = some u) ∧ Cs w R σ cs us []
  | .pto cs, v, fp => ∃ b us e fp', v = .pointer (some ⟨b, 0, none⟩) ∧ w.heap[b]? = some (.cells us.toArray e (0, 0)) ∧ Cs w R σ cs us fp' ∧ fp = b :: fp'
  | .own r, v, fp => fp = [] ∧ ∃ h, σ r = some h ∧ v = h.hdr ∧ v.oneCell' = true
  | .addr r i off, v, fp => fp = [] ∧ ∃ h b, σ r = some h ∧ blkOf h.hdr = some b ∧ v = .pointer (some ⟨b, i * h.sz + off, none⟩)
  | .vw r a b, v, fp => fp = [] ∧ ∃ h A m c B c', σ r = some h ∧ h.hdr = .slice A m c ∧ a ≤ b ∧ b ≤ m ∧ v = .slice B (b - a) c' ∧ b - a ≤ c' ∧ c' ≤ maxLen ∧ (a < b → B = A.map (·.add (a * h.sz)))
  | .tup vs, v, fp => ∃ us, v = .tuple us.toArray ∧ Ts w R σ vs us fp
  | .fn f caps, v, fp => ∃ us, v = .func (.func f) #[] us.toArray ∧ fp = [] ∧ Ts w R σ caps us []
/-- Cells, one value each. -/
def Cs (w : World) (R : Nat → Prop) (σ : Nat → Option Hd) : List PV → List Value → List Nat → Prop
  | [], us, fp => us = [] ∧ fp = []
  | c :: cs, us, fp => ∃ u us' f1 f2, us = u :: us' ∧ u.oneCell' = true ∧ V w R σ c u f1 ∧ Cs w R σ cs us' f2 ∧ fp = f1 ++ f2
/-- Elements of sz cells each. -/
def Es (w : World) (R : Nat → Prop) (σ : Nat → Option Hd) (sz : Nat) : List PV → List Value → List Nat → Prop
  | [], us, fp => us = [] ∧ fp = []
  | e :: es, us, fp => ∃ v us' f1 f2, us = v.cells.toList ++ us' ∧ v.cells.size = sz ∧ (∀ u ∈ v.cells, u.oneCell' = true) ∧ e ≠ .undef ∧ V w R σ e v f1 ∧ Es w R σ sz es us' f2 ∧ fp = f1 ++ f2
/-- Any values. -/
def Ts (w : World) (R : Nat → Prop) (σ : Nat → Option Hd) : List PV → List Value → List Nat → Prop
  | [], us, fp => us = [] ∧ fp = []
  | c :: cs, us, fp => ∃ u us' f1 f2, us = u :: us' ∧ V w R σ c u f1 ∧ Ts w R σ cs us' f2 ∧ fp = f1 ++ f2
end

/-- σ' knows all that σ knows. -/
def Le (σ σ' : Nat → Option Hd) : Prop := ∀ r h, σ r = some h → σ' r = some h
theorem Le.refl (σ : Nat → Option Hd) : Le σ σ := fun _ _ h => h
theorem Le.trans {a b c : Nat → Option Hd} (h : Le a b) (k : Le b c) : Le a c := fun r x hx => k r x (h r x hx)

theorem Row.block {w : World} {sz n : Nat} {v : Value} {us : List Value} (h : Row w sz v n us) {w' : World} (hw : ∀ b, blkOf v = some b → w'.heap[b]? = w.heap[b]?) : Row w' sz v n us := by
  refine ⟨h.1, ?_⟩
  rcases h.2 with hn | ⟨g, cap, cur, e, lo, hi, rfl, hg, rest⟩
  · exact .inl hn
  · exact .inr ⟨g, cap, cur, e, lo, hi, rfl, by rw [hw g rfl]; exact hg, rest⟩

section mono
variable {w w' : World} {R R' : Nat → Prop} {σ σ' : Nat → Option Hd} (hR : ∀ b, R b → R' b) (hσ : Le σ σ') (hw : ∀ b, R b → w'.heap[b]? = w.heap[b]?)
include hR hσ hw
mutual
theorem V.mono : ∀ (pv : PV) (v : Value) (fp : List Nat), (∀ b ∈ fp, w'.heap[b]? = w.heap[b]?) → V w R σ pv v fp → V w' R' σ' pv v fp
  | .undef, _, _, _, h | .void, _, _, _, h | .bool _, _, _, _, h | .int _ _, _, _, _, h | .str _, _, _, _, h | .lit _, _, _, _, h | .nilS, _, _, _, h | .ifc, _, _, _, h => by
    simpa only [V] using h
  | .sl es, v, fp, hf, h => by
    simp only [V] at h ⊢
    obtain ⟨rfl, A, cap, us, sz, rfl, h1, h2, h3, h4⟩ := h
    refine ⟨rfl, A, cap, us, sz, rfl, h1, h2, fun hn => ?_, Es.mono sz es us [] (by simp) h4⟩
    obtain ⟨a, e, hr, hc⟩ := h3 hn
    exact ⟨a, e, hR _ hr, fun j u hu => by
      have := hc j u hu
      have hb : (a.add j).block = a.block := by unfold Addr.add; split <;> rfl
      rw [World.cell?_of_block (w := w) (by rw [hb]; exact hw _ hr)]; exact this⟩
  | .slo sz es, v, fp, hf, h => by
    simp only [V] at h ⊢
    obtain ⟨us, fp', h1, h2, rfl⟩ := h
    exact ⟨us, fp', h1.block fun b hb => hf b (by simp [hb]), Es.mono sz es us fp' (fun b hb => hf b (by simp [hb])) h2, rfl⟩
  | .agg cs, v, fp, hf, h => by
    simp only [V] at h ⊢
    obtain ⟨us, rfl, h⟩ := h
    exact ⟨us, rfl, Cs.mono cs us fp hf h⟩
  | .pro cs, v, fp, hf, h => by
    simp only [V] at h ⊢
    obtain ⟨rfl, a, us, rfl, hr, hc, h⟩ := h
    refine ⟨rfl, a, us, rfl, hR _ hr, fun j u hu => ?_, Cs.mono cs us [] (by simp) h⟩
    have := hc j u hu
    have hb : (a.add j).block = a.block := by unfold Addr.add; split <;> rfl
    rw [World.cell?_of_block (w := w) (by rw [hb]; exact hw _ hr)]; exact this
  | .pto cs, v, fp, hf, h => by
    simp only [V] at h ⊢
    obtain ⟨b, us, e, fp', rfl, h1, h2, rfl⟩ := h
    exact ⟨b, us, e, fp', rfl, by rw [hf b (by simp)]; exact h1, Cs.mono cs us fp' (fun x hx => hf x (by simp [hx])) h2, rfl⟩
  | .own r, v, fp, hf, h => by
    simp only [V] at h ⊢
    obtain ⟨rfl, x, hx, rfl, h1⟩ := h
    exact ⟨rfl, x, hσ _ _ hx, rfl, h1⟩
  | .addr r i off, v, fp, hf, h => by
    simp only [V] at h ⊢
    obtain ⟨rfl, x, b, hx, hb, rfl⟩ := h
    exact ⟨rfl, x, b, hσ _ _ hx, hb, rfl⟩
  | .vw r a b, v, fp, hf, h => by
    simp only [V] at h ⊢
    obtain ⟨rfl, x, A, m, c, B, c', hx, rest⟩ := h
    exact ⟨rfl, x, A, m, c, B, c', hσ _ _ hx, rest⟩
  | .tup vs, v, fp, hf, h => by
    simp only [V] at h ⊢
    obtain ⟨us, rfl, h⟩ := h
    exact ⟨us, rfl, Ts.mono vs us fp hf h⟩
  | .fn f caps, v, fp, hf, h => by
    simp only [V] at h ⊢
    obtain ⟨us, rfl, rfl, h⟩ := h
    exact ⟨us, rfl, rfl, Ts.mono caps us [] (by simp) h⟩
theorem Cs.mono : ∀ (cs : List PV) (us : List Value) (fp : List Nat), (∀ b ∈ fp, w'.heap[b]? = w.heap[b]?) → Cs w R σ cs us fp → Cs w' R' σ' cs us fp
  | [], us, fp, hf, h => by simpa only [Cs] using h
  | c :: cs, us, fp, hf, h => by
    simp only [Cs] at h ⊢
    obtain ⟨u, us', f1, f2, rfl, h0, h1, h2, rfl⟩ := h
    exact ⟨u, us', f1, f2, rfl, h0, V.mono c u f1 (fun b hb => hf b (by simp [hb])) h1, Cs.mono cs us' f2 (fun b hb => hf b (by simp [hb])) h2, rfl⟩
theorem Es.mono : ∀ (sz : Nat) (es : List PV) (us : List Value) (fp : List Nat), (∀ b ∈ fp, w'.heap[b]? = w.heap[b]?) → Es w R σ sz es us fp → Es w' R' σ' sz es us fp
  | sz, [], us, fp, hf, h => by simpa only [Es] using h
  | sz, e :: es, us, fp, hf, h => by
    simp only [Es] at h ⊢
    obtain ⟨v, us', f1, f2, rfl, h0, hone, hu, h1, h2, rfl⟩ := h
    exact ⟨v, us', f1, f2, rfl, h0, hone, hu, V.mono e v f1 (fun b hb => hf b (by simp [hb])) h1, Es.mono sz es us' f2 (fun b hb => hf b (by simp [hb])) h2, rfl⟩
theorem Ts.mono : ∀ (cs : List PV) (us : List Value) (fp : List Nat), (∀ b ∈ fp, w'.heap[b]? = w.heap[b]?) → Ts w R σ cs us fp → Ts w' R' σ' cs us fp
  | [], us, fp, hf, h => by simpa only [Ts] using h
  | c :: cs, us, fp, hf, h => by
    simp only [Ts] at h ⊢
    obtain ⟨u, us', f1, f2, rfl, h1, h2, rfl⟩ := h
    exact ⟨u, us', f1, f2, rfl, V.mono c u f1 (fun b hb => hf b (by simp [hb])) h1, Ts.mono cs us' f2 (fun b hb => hf b (by simp [hb])) h2, rfl⟩
end
end mono

end Go.Proofs.YtanbccpabgcmaaaGreatDoor.PVE
