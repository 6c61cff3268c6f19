/- The PV engine, part 1: pure values, and what it means that a value of the model, in a world, is one. -/
import Derived.Calls
import Derived.Tactics
import Derived.Laws.AppendOwn
import Derived.Laws.OwnMore
import Derived.Laws.MakeOwn
import Derived.Laws.Build
import Derived.Laws.Tables
import Derived.Laws.Strings
import Derived.Laws.Strings2
import Derived.Laws.StructEq
import Derived.Laws.Slices
import Derived.Laws.IdiomCopy
import Derived.Laws.IdiomStrings
import Derived.Laws.Concat
import Derived.Laws.Small
import Derived.Laws.Unary
import Derived.Laws.BytesArg
import Derived.Laws.BytesString
import Derived.WalkLawsBesides
import Derived.WalkKit
import Derived.KernelRfl
set_option linter.unusedVariables false
set_option linter.unusedSectionVars false
set_option linter.unusedSimpArgs false
namespace Go.Proofs.YtmanllfmgghadaaGreatDoor.PVE
inductive PV where
  | undef
  | void
  | bool (b : Bool)
  | int (k : IntKind) (n : Int)
  | str (s : List UInt8)
  | lit (v : Value)
  | nilS
  | sl (es : List PV)
  | slo (sz : Nat) (es : List PV)
  | agg (cs : List PV)
  | pro (cs : List PV)
  | pto (cs : List PV)
  | own (r : Nat)
  | addr (r i off : Nat)
  | tup (vs : List PV)
  | fn (f : Nat) (caps : List PV)
  | ifc
  | any
  | vw (r a b : Nat)
  | mp (it : Nat) (es : List PV)
  deriving Inhabited
structure Hd where
  hdr : Value
  sz : Nat
def blkOf : Value → Option Nat
  | .slice (some a) _ _ => some a.block
  | .pointer (some a) => some a.block
  | _ => none
def Row (w : World) (sz : Nat) (v : Value) (n : Nat) (us : List Value) : Prop :=
  us.length = n * sz ∧
  ((v = .slice none 0 0 ∧ n = 0) ∨
   ∃ g cap cur e lo hi, v = .slice (some ⟨g, 0, none⟩) n cap ∧ w.heap[g]? = some (.cells cur e (lo, hi)) ∧ ((lo = 0 ∧ hi = 0) ∨ cur.size ≤ lo) ∧ n ≤ cap ∧ cap ≤ maxLen ∧ cur.size = cap * sz ∧ cur.toList.take (n * sz) = us)
def kvs (os : List MapEntry) : List Value := os.flatMap fun o => [o.key, o.val]
def leftL (es : Array MapEntry) (seen : Array Nat) : List MapEntry := es.toList.filter fun e => !seen.contains e.born
def MapAt (w : World) : Nat → Value → List Nat → List MapEntry → Prop
  | 0, v, bs, os => ∃ (b : Nat) (es : Array MapEntry) (clock : Nat), v = .map (some b) ∧ bs = [b] ∧ w.heap[b]? = some (.map es clock) ∧ os = es.toList ∧ (∀ x ∈ es.toList, x.born < clock) ∧ (es.toList.map (·.born)).Nodup
  | 1, v, bs, os => ∃ (b m : Nat) (es : Array MapEntry) (clock : Nat), v = .pointer (some ⟨b, 0, none⟩) ∧ bs = [b, m] ∧ w.heap[b]? = some (.mapIter (some m) clock #[] clock) ∧ w.heap[m]? = some (.map es clock) ∧ os = es.toList ∧ (∀ x ∈ es.toList, x.born < clock) ∧ (es.toList.map (·.born)).Nodup
  | _ + 2, v, bs, os => ∃ (b m : Nat) (es : Array MapEntry) (clock : Nat) (seen : Array Nat) (e : MapEntry), v = .pointer (some ⟨b, 0, none⟩) ∧ bs = [b, m] ∧ w.heap[b]? = some (.mapIter (some m) clock (seen.push e.born) clock) ∧ w.heap[m]? = some (.map es clock) ∧ e ∈ es.toList ∧ os = e :: leftL es (seen.push e.born) ∧ (∀ x ∈ es.toList, x.born < clock) ∧ (es.toList.map (·.born)).Nodup
theorem MapAt.one {w : World} {it : Nat} {v : Value} {bs : List Nat} {os : List MapEntry} (h : MapAt w it v bs os) : v.oneCell' = true := by
  match it, h with
  | 0, ⟨b, es, clock, h1, _⟩ => rw [h1]; rfl
  | 1, ⟨b, m, es, clock, h1, _⟩ => rw [h1]; rfl
  | _ + 2, ⟨b, m, es, clock, seen, e, h1, _⟩ => rw [h1]; rfl
theorem MapAt.keep {w w' : World} {it : Nat} {v : Value} {bs : List Nat} {os : List MapEntry} (h : MapAt w it v bs os) (hw : ∀ b ∈ bs, w'.heap[b]? = w.heap[b]?) : MapAt w' it v bs os := by
  match it, h with
  | 0, ⟨b, es, clock, h1, h2, h3, h4⟩ => exact ⟨b, es, clock, h1, h2, by rw [hw b (by simp [h2])]; exact h3, h4⟩
  | 1, ⟨b, m, es, clock, h1, h2, h3, h4, h5⟩ => exact ⟨b, m, es, clock, h1, h2, by rw [hw b (by simp [h2])]; exact h3, by rw [hw m (by simp [h2])]; exact h4, h5⟩
  | _ + 2, ⟨b, m, es, clock, seen, e, h1, h2, h3, h4, h5⟩ => exact ⟨b, m, es, clock, seen, e, h1, h2, by rw [hw b (by simp [h2])]; exact h3, by rw [hw m (by simp [h2])]; exact h4, h5⟩
mutual
def V (w : World) (R : Nat → Prop) (σ : Nat → Option Hd) : PV → Value → List Nat → Prop
  | .undef, _, fp => fp = []
  | .void, v, fp => v = .tuple #[] ∧ fp = []
  | .bool b, v, fp => v = .bool b ∧ fp = []
  | .int k n, v, fp => v = .int k n ∧ fp = []
  | .str s, v, fp => v = .string ⟨s.toArray⟩ ∧ fp = []
  | .lit u, v, fp => v = u ∧ u.oneCell' = true ∧ fp = []
  | .nilS, v, fp => v = .slice none 0 0 ∧ fp = []
  | .ifc, v, fp => (∃ t u, v = .iface t u) ∧ fp = []
  | .any, v, fp => v.oneCell' = true ∧ fp = []
  | .sl es, v, fp => fp = [] ∧ ∃ A cap us sz, v = .slice A es.length cap ∧ es.length ≤ cap ∧ cap ≤ maxLen ∧
      (0 < es.length → ∃ a, A = some a ∧ R a.block ∧ ∀ j u, us[j]? = some u → w.cell? (a.add j) = some u) ∧ Es w R σ sz es us []
  | .slo sz es, v, fp => ∃ us fp', Row w sz v es.length us ∧ Es w R σ sz es us fp' ∧ fp = (blkOf v).toList ++ fp'
  | .agg cs, v, fp => ∃ us, v = .agg us.toArray ∧ Cs w R σ cs us fp
  | .pro cs, v, fp => fp = [] ∧ ∃ a us, v = .pointer (some a) ∧ R a.block ∧ (∀ j u, us[j]? = some u → w.cell? (a.add j) = some u) ∧ Cs w R σ cs us []
  | .pto cs, v, fp => ∃ b us e fp', v = .pointer (some ⟨b, 0, none⟩) ∧ w.heap[b]? = some (.cells us.toArray e (0, 0)) ∧ Cs w R σ cs us fp' ∧ fp = b :: fp'
  | .own r, v, fp => fp = [] ∧ ∃ h, σ r = some h ∧ v = h.hdr ∧ v.oneCell' = true
  | .addr r i off, v, fp => fp = [] ∧ ∃ h b, σ r = some h ∧ blkOf h.hdr = some b ∧ v = .pointer (some ⟨b, i * h.sz + off, none⟩)
  | .vw r a b, v, fp => fp = [] ∧ ∃ h A m c B c', σ r = some h ∧ h.hdr = .slice A m c ∧ a ≤ b ∧ b ≤ m ∧ v = .slice B (b - a) c' ∧ b - a ≤ c' ∧ c' ≤ maxLen ∧ (a < b → B = A.map (·.add (a * h.sz)))
  | .tup vs, v, fp => ∃ us, v = .tuple us.toArray ∧ Ts w R σ vs us fp
  | .fn f caps, v, fp => ∃ us, v = .func (.func f) #[] us.toArray ∧ fp = [] ∧ Ts w R σ caps us []
  | .mp it es, v, fp => ∃ bs os fp', MapAt w it v bs os ∧ Ts w R σ es (kvs os) fp' ∧ fp = bs ++ fp'
def Cs (w : World) (R : Nat → Prop) (σ : Nat → Option Hd) : List PV → List Value → List Nat → Prop
  | [], us, fp => us = [] ∧ fp = []
  | c :: cs, us, fp => ∃ u us' f1 f2, us = u :: us' ∧ u.oneCell' = true ∧ V w R σ c u f1 ∧ Cs w R σ cs us' f2 ∧ fp = f1 ++ f2
def Es (w : World) (R : Nat → Prop) (σ : Nat → Option Hd) (sz : Nat) : List PV → List Value → List Nat → Prop
  | [], us, fp => us = [] ∧ fp = []
  | e :: es, us, fp => ∃ v us' f1 f2, us = v.cells.toList ++ us' ∧ v.cells.size = sz ∧ (∀ u ∈ v.cells, u.oneCell' = true) ∧ e ≠ .undef ∧ V w R σ e v f1 ∧ Es w R σ sz es us' f2 ∧ fp = f1 ++ f2
def Ts (w : World) (R : Nat → Prop) (σ : Nat → Option Hd) : List PV → List Value → List Nat → Prop
  | [], us, fp => us = [] ∧ fp = []
  | c :: cs, us, fp => ∃ u us' f1 f2, us = u :: us' ∧ V w R σ c u f1 ∧ Ts w R σ cs us' f2 ∧ fp = f1 ++ f2
end
def Le (σ σ' : Nat → Option Hd) : Prop := ∀ r h, σ r = some h → σ' r = some h
theorem Le.refl (σ : Nat → Option Hd) : Le σ σ := fun _ _ h => h
theorem Le.trans {a b c : Nat → Option Hd} (h : Le a b) (k : Le b c) : Le a c := fun r x hx => k r x (h r x hx)
theorem Row.block {w : World} {sz n : Nat} {v : Value} {us : List Value} (h : Row w sz v n us) {w' : World} (hw : ∀ b, blkOf v = some b → w'.heap[b]? = w.heap[b]?) : Row w' sz v n us := by
  refine ⟨h.1, ?_⟩
  rcases h.2 with hn | ⟨g, cap, cur, e, lo, hi, rfl, hg, rest⟩
  · exact .inl hn
  · exact .inr ⟨g, cap, cur, e, lo, hi, rfl, by rw [hw g rfl]; exact hg, rest⟩
section mono
variable {w w' : World} {R R' : Nat → Prop} {σ σ' : Nat → Option Hd} (hR : ∀ b, R b → R' b) (hσ : Le σ σ') (hw : ∀ b, R b → w'.heap[b]? = w.heap[b]?)
include hR hσ hw
mutual
theorem V.mono : ∀ (pv : PV) (v : Value) (fp : List Nat), (∀ b ∈ fp, w'.heap[b]? = w.heap[b]?) → V w R σ pv v fp → V w' R' σ' pv v fp
  | .undef, _, _, _, h | .void, _, _, _, h | .bool _, _, _, _, h | .int _ _, _, _, _, h | .str _, _, _, _, h | .lit _, _, _, _, h | .nilS, _, _, _, h | .ifc, _, _, _, h | .any, _, _, _, h => by
    simpa only [V] using h
  | .sl es, v, fp, hf, h => by
    simp only [V] at h ⊢
    obtain ⟨rfl, A, cap, us, sz, rfl, h1, h2, h3, h4⟩ := h
    refine ⟨rfl, A, cap, us, sz, rfl, h1, h2, fun hn => ?_, Es.mono sz es us [] (by simp) h4⟩
    obtain ⟨a, e, hr, hc⟩ := h3 hn
    exact ⟨a, e, hR _ hr, fun j u hu => by
      have := hc j u hu
      have hb : (a.add j).block = a.block := by unfold Addr.add; split <;> rfl
      rw [World.cell?_of_block (w := w) (by rw [hb]; exact hw _ hr)]; exact this⟩
  | .slo sz es, v, fp, hf, h => by
    simp only [V] at h ⊢
    obtain ⟨us, fp', h1, h2, rfl⟩ := h
    exact ⟨us, fp', h1.block fun b hb => hf b (by simp [hb]), Es.mono sz es us fp' (fun b hb => hf b (by simp [hb])) h2, rfl⟩
  | .agg cs, v, fp, hf, h => by
    simp only [V] at h ⊢
    obtain ⟨us, rfl, h⟩ := h
    exact ⟨us, rfl, Cs.mono cs us fp hf h⟩
  | .pro cs, v, fp, hf, h => by
    simp only [V] at h ⊢
    obtain ⟨rfl, a, us, rfl, hr, hc, h⟩ := h
    refine ⟨rfl, a, us, rfl, hR _ hr, fun j u hu => ?_, Cs.mono cs us [] (by simp) h⟩
    have := hc j u hu
    have hb : (a.add j).block = a.block := by unfold Addr.add; split <;> rfl
    rw [World.cell?_of_block (w := w) (by rw [hb]; exact hw _ hr)]; exact this
  | .pto cs, v, fp, hf, h => by
    simp only [V] at h ⊢
    obtain ⟨b, us, e, fp', rfl, h1, h2, rfl⟩ := h
    exact ⟨b, us, e, fp', rfl, by rw [hf b (by simp)]; exact h1, Cs.mono cs us fp' (fun x hx => hf x (by simp [hx])) h2, rfl⟩
  | .own r, v, fp, hf, h => by
    simp only [V] at h ⊢
    obtain ⟨rfl, x, hx, rfl, h1⟩ := h
    exact ⟨rfl, x, hσ _ _ hx, rfl, h1⟩
  | .addr r i off, v, fp, hf, h => by
    simp only [V] at h ⊢
    obtain ⟨rfl, x, b, hx, hb, rfl⟩ := h
    exact ⟨rfl, x, b, hσ _ _ hx, hb, rfl⟩
  | .vw r a b, v, fp, hf, h => by
    simp only [V] at h ⊢
    obtain ⟨rfl, x, A, m, c, B, c', hx, rest⟩ := h
    exact ⟨rfl, x, A, m, c, B, c', hσ _ _ hx, rest⟩
  | .tup vs, v, fp, hf, h => by
    simp only [V] at h ⊢
    obtain ⟨us, rfl, h⟩ := h
    exact ⟨us, rfl, Ts.mono vs us fp hf h⟩
  | .fn f caps, v, fp, hf, h => by
    simp only [V] at h ⊢
    obtain ⟨us, rfl, rfl, h⟩ := h
    exact ⟨us, rfl, rfl, Ts.mono caps us [] (by simp) h⟩
  | .mp it es, v, fp, hf, h => by
    simp only [V] at h ⊢
    obtain ⟨bs, os, fp', h1, h2, rfl⟩ := h
    exact ⟨bs, os, fp', h1.keep fun b hb => hf b (by simp [hb]), Ts.mono es _ fp' (fun x hx => hf x (by simp [hx])) h2, rfl⟩
theorem Cs.mono : ∀ (cs : List PV) (us : List Value) (fp : List Nat), (∀ b ∈ fp, w'.heap[b]? = w.heap[b]?) → Cs w R σ cs us fp → Cs w' R' σ' cs us fp
  | [], us, fp, hf, h => by simpa only [Cs] using h
  | c :: cs, us, fp, hf, h => by
    simp only [Cs] at h ⊢
    obtain ⟨u, us', f1, f2, rfl, h0, h1, h2, rfl⟩ := h
    exact ⟨u, us', f1, f2, rfl, h0, V.mono c u f1 (fun b hb => hf b (by simp [hb])) h1, Cs.mono cs us' f2 (fun b hb => hf b (by simp [hb])) h2, rfl⟩
theorem Es.mono : ∀ (sz : Nat) (es : List PV) (us : List Value) (fp : List Nat), (∀ b ∈ fp, w'.heap[b]? = w.heap[b]?) → Es w R σ sz es us fp → Es w' R' σ' sz es us fp
  | sz, [], us, fp, hf, h => by simpa only [Es] using h
  | sz, e :: es, us, fp, hf, h => by
    simp only [Es] at h ⊢
    obtain ⟨v, us', f1, f2, rfl, h0, hone, hu, h1, h2, rfl⟩ := h
    exact ⟨v, us', f1, f2, rfl, h0, hone, hu, V.mono e v f1 (fun b hb => hf b (by simp [hb])) h1, Es.mono sz es us' f2 (fun b hb => hf b (by simp [hb])) h2, rfl⟩
theorem Ts.mono : ∀ (cs : List PV) (us : List Value) (fp : List Nat), (∀ b ∈ fp, w'.heap[b]? = w.heap[b]?) → Ts w R σ cs us fp → Ts w' R' σ' cs us fp
  | [], us, fp, hf, h => by simpa only [Ts] using h
  | c :: cs, us, fp, hf, h => by
    simp only [Ts] at h ⊢
    obtain ⟨u, us', f1, f2, rfl, h1, h2, rfl⟩ := h
    exact ⟨u, us', f1, f2, rfl, V.mono c u f1 (fun b hb => hf b (by simp [hb])) h1, Ts.mono cs us' f2 (fun b hb => hf b (by simp [hb])) h2, rfl⟩
end
end mono
end Go.Proofs.YtmanllfmgghadaaGreatDoor.PVE
namespace Go.Proofs.YtmanllfmgghadaaGreatDoor.PVE
structure Root where
  pv : PV
  links : List (Nat × Nat)
structure St where
  temps : Nat → PV
  store : Nat → Option Root
  next : Nat
def upd {α : Type} (f : Nat → α) (i : Nat) (x : α) : Nat → α := fun j => if j = i then x else f j
inductive TyD where
  | int (k : IntKind)
  | bool
  | str
  | slice (e : Nat)
  | ptr (e : Nat)
  | struct (fs : List (Nat × Nat))
  | map (k e : Nat)
  | other
structure TyI where
  d : TyD
  size : Nat
  bytes : Nat
  zero : List PV
structure CM where
  modes : List Nat
  frz : Bool
  al : Bool
structure Env where
  T : Nat → Option TyI
  G : Nat → Option (List PV)
  M : Nat → CM
  S : Nat → Option (List Nat)
namespace PV
def cells : PV → List PV
  | .agg cs => cs
  | pv => [pv]
def elem : PV → Nat → Option PV
  | .slo _ es, i => es[i]?
  | .pto cs, 0 => some (.agg cs)
  | _, _ => none
def cellAt (pv : PV) (i off : Nat) : Option PV := match pv.elem i with
  | some e => e.cells[off]?
  | none => none
def putCells (old : List PV) (off : Nat) (cs : List PV) : List PV := old.take off ++ cs ++ old.drop (off + cs.length)
def reElem : PV → Nat → List PV → PV
  | .agg old, off, cs => .agg (putCells old off cs)
  | _, _, [c] => c
  | e, _, _ => e
def setElem : PV → Nat → PV → PV
  | .slo sz es, i, e => .slo sz (es.set i e)
  | .pto _, _, .agg cs => .pto cs
  | pv, _, _ => pv
def put (pv : PV) (i off : Nat) (cs : List PV) : PV := match pv.elem i with
  | some e => pv.setElem i (e.reElem off cs)
  | none => pv
mutual
def strip : PV → PV
  | .slo _ es => .sl (stripL es)
  | .agg cs => .agg (stripL cs)
  | .pto cs => .pro (stripL cs)
  | .tup cs => .tup (stripL cs)
  | .nilS => .sl []
  | .mp _ _ => .any
  | pv => pv
def stripL : List PV → List PV
  | [] => []
  | e :: es => strip e :: stripL es
end
theorem stripL_eq (es : List PV) : stripL es = es.map strip := by
  induction es with
  | nil => rfl
  | cons e es ih => simp [stripL, ih]
def isByte : PV → Bool
  | .int .u8 _ => true
  | _ => false
def toByte : PV → UInt8
  | .int _ n => UInt8.ofNat n.toNat
  | _ => 0
end PV
open PV
def foldR (s : Nat → Option Root) : Nat → Nat → Option (PV × List Nat)
  | 0, _ => none
  | n + 1, r => match s r with
    | none => none
    | some rt => rt.links.foldlM (fun acc l => match acc.1.cellAt l.1 l.2 with
      | some (.own c) => (foldR s n c).map fun x => (acc.1.put l.1 l.2 [x.1], acc.2 ++ x.2)
      | _ => some acc) (rt.pv, [r])
def PV.storable : PV → Bool
  | .bool _ | .int _ _ | .str _ | .lit _ | .sl _ | .slo _ _ | .pro _ | .addr _ _ _ | .fn _ _ => true
  | _ => false
def inl (s : Nat → Option Root) : List PV → Option (List PV × List Nat)
  | [] => some ([], [])
  | .own r :: cs => match foldR s 4 r, inl s cs with
    | some (.slo sz es, l), some (cs', l') => some (.slo sz es :: cs', l ++ l')
    | some (.sl es, l), some (cs', l') => some (.sl es :: cs', l ++ l')
    | _, _ => none
  | .nilS :: cs => (inl s cs).map fun x => (.slo 0 [] :: x.1, x.2)
  | c :: cs => if c.storable then (inl s cs).map fun x => (c :: x.1, x.2) else none
def inlE (s : Nat → Option Root) : PV → Option (PV × List Nat)
  | .agg cs => (inl s cs).map fun x => (.agg x.1, x.2)
  | c => match inl s [c] with
    | some ([c'], l) => some (c', l)
    | _ => none
def inlEs (s : Nat → Option Root) : List PV → Option (List PV × List Nat)
  | [] => some ([], [])
  | e :: es => match inlE s e, inlEs s es with
    | some (e', l), some (es', l') => some (e' :: es', l ++ l')
    | _, _ => none
def PV.cellOk : PV → Bool
  | .pto _ | .agg _ | .tup _ | .mp _ _ => false
  | _ => true
def det : List PV → Nat → Nat → List PV × List (Nat × PV) × List Nat
  | [], _, _ => ([], [], [])
  | .slo sz es :: cs, b, o => (.own b :: (det cs (b + 1) (o + 1)).1, (b, .slo sz es) :: (det cs (b + 1) (o + 1)).2.1, o :: (det cs (b + 1) (o + 1)).2.2)
  | c :: cs, b, o => (c :: (det cs b (o + 1)).1, (det cs b (o + 1)).2.1, (det cs b (o + 1)).2.2)
structure Eff where
  val : PV
  rem : List Nat
  add : List (Nat × Root)
  nx : Nat
def St.put (st : St) : Option Nat → PV → (Nat → PV)
  | some d, v => upd st.temps d v
  | none, _ => st.temps
def applyStore (s : Nat → Option Root) (rem : List Nat) (add : List (Nat × Root)) : Nat → Option Root :=
  add.foldl (fun s x => upd s x.1 (some x.2)) (rem.foldl (fun s r => upd s r none) s)
def St.app (st : St) (dst : Option Nat) (e : Eff) : St := ⟨st.put dst e.val, applyStore st.store e.rem e.add, e.nx⟩
def leafPV : Value → PV
  | .bool b => .bool b
  | .int k n => .int k n
  | .string s => .str s.data.toList
  | .slice none 0 0 => .slo 0 []
  | v => .lit v
def constPV : Value → PV
  | .bool b => .bool b
  | .int k n => .int k n
  | .string s => .str s.data.toList
  | .slice none 0 0 => .nilS
  | .agg cs => if cs.toList.all (·.oneCell') then .agg (cs.toList.map leafPV) else .undef
  | .tuple _ => .undef
  | v => .lit v
def gBase : Nat := 1000000
def ev (E : Env) (st : St) : Operand → PV
  | .tmp t => if t < gBase then st.temps t else .undef
  | .const v => constPV v
  | .global g => match E.G g with
    | some cs => .pro cs
    | none => .undef
  | .func f => .fn f []
def plainE (st : St) (v : PV) : Option (Prop × Eff) := some (True, ⟨v, [], [], st.next⟩)
def isAggT (i : TyI) : Bool := match i.d with
  | .struct _ => true
  | _ => false
def loadPro (st : St) (i : TyI) (cs : List PV) : Option (Prop × Eff) := if i.size ≤ cs.length then (if isAggT i then plainE st (.agg (cs.take i.size)) else match cs with
      | c :: _ => plainE st c
      | [] => none) else none
def loadE (st : St) (i : TyI) : PV → Option (Prop × Eff)
  | .pro cs => loadPro st i cs
  | .addr r k off => match st.store r with
    | none => none
    | some ⟨.pro cs, _⟩ => if k = 0 then loadPro st i (cs.drop off) else none
    | some rt => match rt.pv.elem k with
      | none => none
      | some e =>
        if off + i.size ≤ e.cells.length ∧ ((e.cells.drop off).take i.size).all PV.cellOk = true then
          let d := det ((e.cells.drop off).take i.size) st.next off
          let v := if isAggT i then PV.agg d.1 else d.1.headD .undef
          if d.2.1.isEmpty then plainE st v
          else some (True, ⟨v, [], (r, ⟨rt.pv.put k off d.1, d.2.2.map (fun o => (k, o)) ++ rt.links⟩) :: d.2.1.map (fun x => (x.1, ⟨x.2, []⟩)), st.next + d.2.1.length⟩)
        else none
  | _ => none
def ownAt : Nat → List PV → List (Nat × Nat)
  | _, [] => []
  | j, .own _ :: cs => (0, j) :: ownAt (j + 1) cs
  | j, _ :: cs => ownAt (j + 1) cs
def hasNil : List PV → Bool
  | [] => false
  | .nilS :: _ => true
  | _ :: cs => hasNil cs
def boxLinks : PV → List (Nat × Nat)
  | .agg cs => if hasNil cs then [] else ownAt 0 cs
  | _ => []
def nilC (i : TyI) : List PV → List PV
  | [.nilS] => (match i.zero with
    | [.slo k []] => [.slo k []]
    | _ => [.nilS])
  | cs => cs
def roLeaf (s : Nat → Option Root) : PV → Option (PV × List Nat)
  | .own r => (foldR s 4 r).map fun x => (x.1.strip, x.2)
  | .addr r i off => match foldR s 4 r with
    | some (pv, l) => match pv.elem i with
      | some e => if off < e.cells.length then some (.pro (stripL (e.cells.drop off)), l) else none
      | none => match pv with
        | .pro cs => if i = 0 ∧ off < cs.length then some (.pro (cs.drop off), l) else none
        | _ => none
    | none => none
  | .nilS => some (.sl [], [])
  | .slo _ es => some (.sl (stripL es), [])
  | .undef => none
  | .vw r a b => match foldR s 4 r with
    | some (.slo _ es, l) => some (.sl (((stripL es).drop a).take (b - a)), l)
    | _ => none
  | pv => some (pv, [])
def storeV (st : St) (i : TyI) (r k off : Nat) (x : Option (PV × List Nat)) : Option (Prop × Eff) := match st.store r, x with
  | some rt, some (c, rem) => match rt.pv.elem k with
    | none => none
    | some e =>
      if off + i.size ≤ e.cells.length ∧ 1 = i.size ∧ (r :: rem).Nodup then
        some (True, ⟨.void, rem, [(r, ⟨rt.pv.put k off [c], rt.links.filter fun l => !(l.1 == k && off ≤ l.2 && l.2 < off + i.size)⟩)], st.next⟩)
      else none
  | _, _ => none
def hasOwn : List PV → Bool
  | [] => false
  | .own _ :: _ => true
  | _ :: cs => hasOwn cs
def hasUndef : List PV → Bool
  | [] => false
  | .undef :: _ => true
  | _ :: cs => hasUndef cs
def isPto : Option Root → Bool
  | some ⟨.pto _, _⟩ => true
  | _ => false
def storeC (st : St) (i : TyI) (r : Nat) (cs : List PV) : Option (List PV × List Nat) := if (isPto (st.store r) && hasOwn cs && !hasNil cs && !hasUndef cs) = true then some (cs, []) else inl st.store (nilC i cs)
def storeO (st : St) (i : TyI) (x : PV) (r k off : Nat) : Option (Prop × Eff) := match st.store r, storeC st i r x.cells with
    | some rt, some (cs, rem) => match rt.pv.elem k with
      | none => none
      | some e =>
        if off + i.size ≤ e.cells.length ∧ cs.length = i.size ∧ (r :: rem).Nodup then
          some (True, ⟨.void, rem, [(r, ⟨rt.pv.put k off cs, ownAt off cs ++ rt.links.filter fun l => !(l.1 == k && off ≤ l.2 && l.2 < off + i.size)⟩)], st.next⟩)
        else none
    | _, _ => none
def storeX (st : St) (i : TyI) (r k off : Nat) : PV → Option (Prop × Eff)
  | .vw q a b => storeV st i r k off (roLeaf st.store (.vw q a b))
  | x => storeO st i x r k off
theorem storeX_not {st : St} {i : TyI} {r k off : Nat} {x : PV} (h : ∀ q a b, x ≠ .vw q a b) : storeX st i r k off x = storeO st i x r k off := by
  cases x <;> first | rfl | exact absurd rfl (h _ _ _)
def storeE (st : St) (i : TyI) (x : PV) : PV → Option (Prop × Eff)
  | .addr r k off => storeX st i r k off x
  | _ => none
def newRoot (st : St) (pv : PV) (v : PV) (rem : List Nat) : Option (Prop × Eff) :=
  if rem.Nodup then some (True, ⟨v, rem, [(st.next, ⟨pv, []⟩)], st.next + 1⟩) else none
def zeroElem (i : TyI) : PV := if isAggT i then .agg i.zero else i.zero.headD .undef
def sliceEs (st : St) : PV → Option (List PV × List Nat)
  | .sl es => some (es, [])
  | .nilS => some ([], [])
  | .own r => match foldR st.store 4 r with
    | some (.slo _ es, l) => some (es, l)
    | _ => none
  | _ => none
def allLen (k : Nat) (es : List PV) : Prop := ∀ e ∈ es, e.cells.length = k
def PV.flatC : PV → Bool
  | .bool _ | .int _ _ | .str _ | .lit _ | .sl _ => true
  | _ => false
def PV.flat : PV → Bool
  | .agg cs => cs.all PV.flatC
  | c => c.flatC
def flatL (es : List PV) : Prop := ∀ e ∈ es, e.flat = true
def appendW (st : St) (ti : TyI) (s : PV) (new : List PV) (l : List Nat) : Option (Prop × Eff) :=
  match s with
    | .nilS => if l.Nodup then some (new.length * ti.bytes ≤ 140737488355328 ∧ 0 < ti.bytes ∧ allLen ti.size new, ⟨.own st.next, l, [(st.next, ⟨.slo ti.size new, []⟩)], st.next + 1⟩) else none
    | .own r => match st.store r with
      | some ⟨.slo sz es, links⟩ => if (r :: l).Nodup ∧ sz = ti.size then
          some ((es.length + new.length) * ti.bytes ≤ 140737488355328 ∧ 0 < ti.bytes ∧ allLen ti.size new, ⟨.own st.next, r :: l, [(st.next, ⟨.slo ti.size (es ++ new), links⟩)], st.next + 1⟩) else none
      | _ => none
    | _ => none
def PV.mvC (c : PV) : PV := if c.flatC then c else .undef
def PV.mv : PV → PV
  | .agg cs => .agg (cs.map PV.mvC)
  | e => e
def allAgg (es : List PV) : Prop := ∀ e ∈ es, ∃ cs, e = .agg cs
def mvR (es : List PV) (a b : Nat) : List PV := es.take a ++ ((es.drop a).take (b - a)).map PV.mv ++ (es.drop a).drop (b - a)
def appendM (st : St) (ti : TyI) (s : PV) (r a b : Nat) : Option (Prop × Eff) := match st.store r with
  | some ⟨.slo sz es, []⟩ => match appendW st ti s ((es.drop a).take (b - a)) [] with
    | some (p, e) => if r ∈ e.rem then none else some (allAgg ((es.drop a).take (b - a)) ∧ p, ⟨e.val, e.rem, (r, ⟨.slo sz (mvR es a b), []⟩) :: e.add, e.nx⟩)
    | none => none
  | _ => none
def viewEs (s : Nat → Option Root) (r a b : Nat) : Option (List PV) := match s r with
  | some ⟨.slo _ es, _⟩ => some ((es.drop a).take (b - a))
  | _ => none
def andE (q : Prop) : Option (Prop × Eff) → Option (Prop × Eff)
  | some (p, e) => some (q ∧ p, e)
  | none => none
def appendE (st : St) (ti : TyI) (s x : PV) : Option (Prop × Eff) :=
  match x with
  | .vw r a b => if ti.zero.all PV.flatC = true then (match viewEs st.store r a b with
    | some new => andE (flatL new) (appendW st ti s new [])
    | none => none) else appendM st ti s r a b
  | _ => match sliceEs st x with
    | some (new, l) => appendW st ti s new l
    | none => none
def lenStrE (st : St) : PV → Option (Prop × Eff)
  | .str s => plainE st (.int .i64 s.length)
  | _ => none
def lenE (st : St) : PV → Option (Prop × Eff)
  | .sl es => plainE st (.int .i64 es.length)
  | .nilS => plainE st (.int .i64 0)
  | .own r => match st.store r with
    | some ⟨.slo _ es, _⟩ => plainE st (.int .i64 es.length)
    | some ⟨.sl es, _⟩ => plainE st (.int .i64 es.length)
    | _ => none
  | .vw _ a b => plainE st (.int .i64 (b - a : Nat))
  | _ => none
def intBin (op : BinOp) (k : IntKind) (a b : Int) : Option (Prop × PV) :=
  match op with
  | .add => some (True, .int k (k.wrap (a + b)))
  | .sub => some (True, .int k (k.wrap (a - b)))
  | .mul => some (True, .int k (k.wrap (a * b)))
  | .quo => some (b ≠ 0, .int k (k.wrap (a.tdiv b)))
  | .rem => some (b ≠ 0, .int k (a.tmod b))
  | .and => some (True, .int k (bits .and k a b))
  | .or => some (True, .int k (bits .or k a b))
  | .xor => some (True, .int k (bits .xor k a b))
  | .eql => some (True, .bool (decide (a = b)))
  | .neq => some (True, .bool (!decide (a = b)))
  | .lss => some (True, .bool (decide (a < b)))
  | .leq => some (True, .bool (decide (a ≤ b)))
  | .gtr => some (True, .bool (decide (b < a)))
  | .geq => some (True, .bool (decide (b ≤ a)))
  | _ => none
def strBin (op : BinOp) (a b : List UInt8) : Option (Prop × PV) :=
  match op with
  | .add => some (a.length + b.length ≤ 9223372036854775807, .str (a ++ b))
  | .eql => some (True, .bool (decide (a = b)))
  | .neq => some (True, .bool (!decide (a = b)))
  | .lss => some (True, .bool (Op.bytesLess a b))
  | .leq => some (True, .bool (Op.bytesLess a b || decide (a = b)))
  | .gtr => some (True, .bool (!(Op.bytesLess a b || decide (a = b))))
  | .geq => some (True, .bool (!Op.bytesLess a b))
  | _ => none
def eqCells : List Nat → List PV → List PV → Option Bool
  | [], [], [] => some true
  | 0 :: ks, .int k a :: cs, .int k' b :: ds => if k = k' then (eqCells ks cs ds).map fun r => decide (a = b) && r else none
  | 1 :: ks, .bool a :: cs, .bool b :: ds => (eqCells ks cs ds).map fun r => (a == b) && r
  | 2 :: ks, .str a :: cs, .str b :: ds => (eqCells ks cs ds).map fun r => decide (a = b) && r
  | _, _, _ => none
def aggBin (op : BinOp) (x : Option Bool) : Option (Prop × PV) :=
  match x with
  | some b => match op with
    | .eql => some (True, .bool b)
    | .neq => some (True, .bool (!b))
    | _ => none
  | none => none
def binE (E : Env) (t : Nat) (op : BinOp) : PV → PV → Option (Prop × PV)
  | .agg a, .agg b => match E.S t with
    | some ks => aggBin op (eqCells ks a b)
    | none => none
  | .int k a, .int k' b => if k = k' then intBin op k a b else none
  | .str a, .str b => strBin op a b
  | .bool a, .bool b => match E.T t with
    | some ⟨.bool, _, _, _⟩ => match op with
      | .eql => some (True, .bool (a == b))
      | .neq => some (True, .bool (!(a == b)))
      | _ => none
    | _ => none
  | _, _ => none
def loOf : Option PV → Option Int
  | none => some 0
  | some (.int _ n) => some n
  | _ => none
def hiOf (len : Nat) : Option PV → Option Int
  | none => some len
  | some (.int _ n) => some n
  | _ => none
def cut {α : Type} (l : List α) (lo hi : Int) : List α := (l.drop lo.toNat).take (hi.toNat - lo.toNat)
def sliceE (st : St) (size : Nat) (x : PV) (lo hi : Option PV) : Option (Prop × Eff) :=
  match x with
  | .sl es => match loOf lo, hiOf es.length hi with
    | some a, some b => some (0 ≤ a ∧ a ≤ b ∧ b ≤ es.length ∧ allLen size es, ⟨.sl (cut es a b), [], [], st.next⟩)
    | _, _ => none
  | .own r => match st.store r with
    | some ⟨.slo sz es, _⟩ => if sz = size then match loOf lo, hiOf es.length hi with
      | some a, some b => some (0 ≤ a ∧ a ≤ b ∧ b ≤ es.length, ⟨.vw r a.toNat b.toNat, [], [], st.next⟩)
      | _, _ => none else none
    | _ => none
  | .vw r x y => match st.store r with
    | some ⟨.slo sz _, _⟩ => if sz = size then match loOf lo, hiOf (y - x) hi with
      | some a, some b => some (0 ≤ a ∧ a ≤ b ∧ b ≤ (y - x : Nat), ⟨.vw r (x + a.toNat) (x + b.toNat), [], [], st.next⟩)
      | _, _ => none else none
    | _ => none
  | _ => none
def sliceStrE (st : St) (x : PV) (lo hi : Option PV) : Option (Prop × Eff) :=
  match x with
  | .str s => match loOf lo, hiOf s.length hi with
    | some a, some b => some (0 ≤ a ∧ a ≤ b ∧ b ≤ s.length, ⟨.str (cut s a b), [], [], st.next⟩)
    | _, _ => none
  | _ => none
def convE (E : Env) (st : St) (src dst : Nat) (x : PV) : Option (Prop × Eff) :=
  match E.T src, E.T dst with
  | some ts, some td => match ts.d, td.d, x with
    | .int _, .int k, .int _ n => plainE st (.int k (k.wrap n))
    | .str, .str, .str s => plainE st (.str s)
    | .str, .slice e, .str s => match E.T e with
      | some ⟨.int .u8, _, _, _⟩ => some (s.length ≤ 140737488355328, ⟨.own st.next, [], [(st.next, ⟨.slo 1 (s.map fun b => .int .u8 b.toNat), []⟩)], st.next + 1⟩)
      | _ => none
    | .slice e, .str, .own r => match E.T e, st.store r with
      | some ⟨.int .u8, _, _, _⟩, some ⟨.slo _ es, _⟩ => some (∀ e ∈ es, e.isByte = true, ⟨.str (es.map toByte), [], [], st.next⟩)
      | _, _ => none
    | .slice e, .str, .sl es => match E.T e with
      | some ⟨.int .u8, _, _, _⟩ => some (∀ e ∈ es, e.isByte = true, ⟨.str (es.map toByte), [], [], st.next⟩)
      | _ => none
    | _, _, _ => none
  | _, _ => none
def buildCells (T : Nat → Option TyI) (fs : List (Nat × Nat)) (zero : List PV) : List (Nat × PV) → Option (List PV)
  | [] => some zero
  | (i, v) :: rest => match fs[i]? with
    | some (off, ft) => match T ft with
      | some fi => if fi.size = v.cells.length ∧ off + v.cells.length ≤ zero.length ∧ v.cells.all (fun c => c.storable || (match c with | .own _ | .nilS => true | _ => false)) = true then buildCells T fs (putCells zero off v.cells) rest else none
      | none => none
    | none => none
def frzCaps (s : Nat → Option Root) : List PV → Option (List PV × List Nat × List (Nat × Root))
  | [] => some ([], [], [])
  | .addr r 0 0 :: cs => match foldR s 4 r, frzCaps s cs with
    | some (.pto ds, l), some (cs', l', add) => some (.pro (stripL ds) :: cs', l ++ l', (r, ⟨.pro (stripL ds), []⟩) :: add)
    | some (.pro ds, _), some (cs', l', add) => some (.pro ds :: cs', l', add)
    | _, _ => none
  | c :: cs => (frzCaps s cs).map fun x => (c :: x.1, x.2)
def keyOk : List Nat → List PV → Bool
  | [], [] => true
  | 0 :: ks, .int _ _ :: cs => keyOk ks cs
  | 1 :: ks, .bool _ :: cs => keyOk ks cs
  | 2 :: ks, .str _ :: cs => keyOk ks cs
  | _, _ => false
def mfind (ks : List Nat) (k : List PV) : List PV → Nat → Option (Option (Nat × PV))
  | [], _ => some none
  | .agg c :: v :: es, i => match eqCells ks k c with
    | some b => if b = true then some (some (i, v)) else mfind ks k es (i + 1)
    | none => none
  | _, _ => none
def mset : List PV → Nat → PV → PV → List PV
  | _ :: _ :: es, 0, k, v => k :: v :: es
  | k0 :: v0 :: es, i + 1, k, v => k0 :: v0 :: mset es i k v
  | es, _, _, _ => es
def mtake : List PV → Nat → List PV
  | k :: _ :: es, 0 => k :: .undef :: es
  | k :: v :: es, i + 1 => k :: v :: mtake es i
  | es, _ => es
def lookV (st : St) (r : Nat) (es : List PV) (x : Option (Option (Nat × PV))) : Option (Prop × Eff) := match x with
  | some none => plainE st .nilS
  | some (some (i, .slo sz vs)) => some (True, ⟨.own st.next, [], [(r, ⟨.mp 0 (mtake es i), []⟩), (st.next, ⟨.slo sz vs, []⟩)], st.next + 1⟩)
  | _ => none
def lookE (E : Env) (st : St) (t : Nat) (m k : PV) : Option (Prop × Eff) := match E.T t with
  | some ⟨.map kt et, _, _, _⟩ => match E.S kt, E.T et with
    | some ks, some ⟨.slice _, _, _, [.slo _ []]⟩ => match m, k with
      | .own r, .agg cs => match st.store r with
        | some ⟨.mp 0 es, []⟩ => if keyOk ks cs = true then lookV st r es (mfind ks cs es 0) else none
        | _ => none
      | _, _ => none
    | _, _ => none
  | _ => none
def msetO (es : List PV) (k c : PV) : Option (Nat × PV) → List PV
  | none => es ++ [k, c]
  | some x => mset es x.1 k c
def updV (st : St) (r : Nat) (es : List PV) (k : PV) (x : Option (Option (Nat × PV))) (y : Option (List PV × List Nat)) : Option (Prop × Eff) := match x, y with
  | some x, some ([c], rem) => if (r :: rem).Nodup then some (True, ⟨.void, rem, [(r, ⟨.mp 0 (msetO es k c x), []⟩)], st.next⟩) else none
  | _, _ => none
def updE (E : Env) (st : St) (t : Nat) (m k v : PV) : Option (Prop × Eff) := match E.T t with
  | some ⟨.map kt _, _, _, _⟩ => match E.S kt with
    | some ks => match m, k with
      | .own r, .agg cs => match st.store r with
        | some ⟨.mp 0 es, []⟩ => if keyOk ks cs = true then updV st r es (.agg cs) (mfind ks cs es 0) (inl st.store [v]) else none
        | _ => none
      | _, _ => none
    | none => none
  | _ => none
def mkMapE (E : Env) (st : St) (t : Nat) : Option (Prop × Eff) := match E.T t with
  | some ⟨.map _ _, _, _, _⟩ => newRoot st (.mp 0 []) (.own st.next) []
  | _ => none
def rangeE (E : Env) (st : St) (t : Nat) (m : PV) : Option (Prop × Eff) := match E.T t with
  | some ⟨.map _ _, _, _, _⟩ => match m with
    | .own r => match st.store r with
      | some ⟨.mp 0 es, []⟩ => some (True, ⟨.own st.next, [r], [(st.next, ⟨.mp 1 es, []⟩)], st.next + 1⟩)
      | _ => none
    | _ => none
  | _ => none
def entryE (st : St) (m : PV) : Option (Prop × Eff) := match m with
  | .own r => match st.store r with
    | some ⟨.mp 2 (.agg cs :: .slo sz vs :: es), []⟩ => if cs.all PV.flatC = true then some (True, ⟨.tup [.agg cs, .own st.next], [], [(r, ⟨.mp 2 (.agg cs :: .undef :: es), []⟩), (st.next, ⟨.slo sz vs, []⟩)], st.next + 1⟩) else none
    | _ => none
  | _ => none
def eff (E : Env) (st : St) (o : Op) : Option (Prop × Eff) :=
  match o with
  | .move x | .assign x => plainE st (ev E st x)
  | .pick c a b => match ev E st c with
    | .bool t => plainE st (if t then ev E st a else ev E st b)
    | _ => none
  | .alloc t => match E.T t with
    | some i => newRoot st (.pto i.zero) (.addr st.next 0 0) []
    | none => none
  | .box t x => if (boxLinks (ev E st x)).isEmpty then (match inl st.store (ev E st x).cells with
    | some (cs, rem) => newRoot st (.pto cs) (.addr st.next 0 0) rem
    | none => none) else some (True, ⟨.addr st.next 0 0, [], [(st.next, ⟨.pto (ev E st x).cells, boxLinks (ev E st x)⟩)], st.next + 1⟩)
  | .build t parts => match E.T t with
    | some ⟨.struct fs, _, _, zero⟩ => match buildCells E.T fs zero (parts.toList.map fun x => (x.1, ev E st x.2)) with
      | some cs => plainE st (.agg cs)
      | none => none
    | _ => none
  | .buildSlice t len parts => match E.T t with
    | some ⟨.slice e, _, _, _⟩ => match E.T e with
      | some i => match inlEs st.store (parts.toList.map fun x => ev E st x.2) with
        | some (es, rem) => if parts.toList.map (·.1) = List.range len ∧ es.all (fun e => e.cells.length == i.size && (match e with | .agg _ => isAggT i | _ => !isAggT i)) = true ∧ len * i.size ≤ 16777216 then newRoot st (.slo i.size es) (.own st.next) rem else none
        | none => none
      | none => none
    | _ => none
  | .load t a => match E.T t with
    | some i => loadE st i (ev E st a)
    | none => none
  | .store t a x => match E.T t with
    | some i => storeE st i (ev E st x) (ev E st a)
    | none => none
  | .nilCheck x => match ev E st x with
    | .pro cs => plainE st (.pro cs)
    | .addr r i o => plainE st (.addr r i o)
    | .fn f cs => plainE st (.fn f cs)
    | _ => none
  | .binOp op t x y _ => match binE E t op (ev E st x) (ev E st y) with
    | some (p, v) => some (p, ⟨v, [], [], st.next⟩)
    | none => none
  | .unOp op _ x => match op, ev E st x with
    | .not, .bool b => plainE st (.bool (!b))
    | .neg, .int k n => plainE st (.int k (k.wrap (0 - n)))
    | _, _ => none
  | .convert src dst x => convE E st src dst (ev E st x)
  | .slice t x lo hi none => match E.T t with
    | some ⟨.str, _, _, _⟩ => sliceStrE st (ev E st x) (lo.map (ev E st)) (hi.map (ev E st))
    | some ⟨.slice el, _, _, _⟩ => match E.T el with
      | some i => sliceE st i.size (ev E st x) (lo.map (ev E st)) (hi.map (ev E st))
      | none => none
    | _ => none
  | .fieldAddr t x f => match E.T t with
    | some ⟨.struct fs, _, _, _⟩ => match fs[f]? with
      | some (off, _) => match ev E st x with
        | .pro cs => plainE st (.pro (cs.drop off))
        | .addr r i o => plainE st (.addr r i (o + off))
        | _ => none
      | none => none
    | _ => none
  | .field t x f => match E.T t with
    | some ⟨.struct fs, _, _, _⟩ => match fs[f]? with
      | some (off, ft) => match E.T ft, ev E st x with
        | some i, .agg cs => if off + i.size ≤ cs.length then (if isAggT i then plainE st (.agg ((cs.drop off).take i.size)) else match cs[off]? with
            | some c => plainE st c
            | none => none) else none
        | _, _ => none
      | none => none
    | _ => none
  | .indexAddr t x ix => match E.T t with
    | some ⟨.slice el, _, _, _⟩ => match E.T el, ev E st ix with
      | some ti, .int _ n => match ev E st x with
        | .sl es => match es[n.toNat]? with
          | some e => if e.cells.length = ti.size then some (0 ≤ n, ⟨.pro e.cells, [], [], st.next⟩) else none
          | none => none
        | .own r => match st.store r with
          | some ⟨.slo sz es, _⟩ => match es[n.toNat]? with
            | some _ => if sz = ti.size then some (0 ≤ n, ⟨.addr r n.toNat 0, [], [], st.next⟩) else none
            | none => none
          | _ => none
        | .vw r a b => match st.store r with
          | some ⟨.slo sz _, _⟩ => if sz = ti.size then some (0 ≤ n ∧ n.toNat < b - a, ⟨.addr r (a + n.toNat) 0, [], [], st.next⟩) else none
          | _ => none
        | _ => none
      | _, _ => none
    | _ => none
  | .index t x ix => match E.T t with
    | some ⟨.str, _, _, _⟩ => match ev E st ix, ev E st x with
      | .int _ n, .str s => some (0 ≤ n ∧ n < s.length, ⟨.int .u8 (s.getD n.toNat 0).toNat, [], [], st.next⟩)
      | _, _ => none
    | _ => none
  | .extract x i => match ev E st x with
    | .tup vs => match vs[i]? with
      | some v => plainE st v
      | none => none
    | _ => none
  | .makeSlice t l c => match E.T t with
    | some ⟨.slice e, _, _, _⟩ => match E.T e, ev E st l, ev E st c with
      | some i, .int .i64 n, .int .i64 m => some (0 ≤ n ∧ n = m ∧ n.toNat * i.bytes ≤ 140737488355328 ∧ 0 < i.bytes, ⟨.own st.next, [], [(st.next, ⟨.slo i.size (List.replicate n.toNat (zeroElem i)), []⟩)], st.next + 1⟩)
      | _, _, _ => none
    | _ => none
  | .makeMap t none => mkMapE E st t
  | .lookup t x ix false => lookE E st t (ev E st x) (ev E st ix)
  | .mapUpdate t m k v => updE E st t (ev E st m) (ev E st k) (ev E st v)
  | .range t x => rangeE E st t (ev E st x)
  | .entry x => entryE st (ev E st x)
  | .makeFunc g first caps => match g, first.toList with
    | .func f, [] => match frzCaps st.store (caps.toList.map (ev E st)) with
      | some (cs, l, add) => if (add.map (·.1)).Nodup then some (True, ⟨.fn f cs, l, add, st.next⟩) else none
      | none => none
    | _, _ => none
  | .call c => match c.callee, c.args.toList with
    | .builtin .len, [x] => match c.argTypes[0]?.bind E.T with
      | some ⟨.str, _, _, _⟩ => lenStrE st (ev E st x)
      | some ⟨.slice _, _, _, _⟩ => lenE st (ev E st x)
      | _ => none
    | .builtin .append, [s, x] => match c.argTypes.toList with
      | [t, u] => if t = u then match E.T t with
        | some ⟨.slice e, _, _, _⟩ => match E.T e with
          | some ti => appendE st ti (ev E st s) (ev E st x)
          | none => none
        | _ => none else none
      | _ => none
    | .builtin .min, [x, y] => match ev E st x, ev E st y with
      | .int k a, .int _ b => plainE st (.int k (if b < a then b else a))
      | _, _ => none
    | _, _ => none
  | _ => none
def roL (s : Nat → Option Root) : List PV → Option (List PV × List Nat)
  | [] => some ([], [])
  | c :: cs => match roLeaf s c, roL s cs with
    | some (c', l), some (cs', l') => some (c' :: cs', l ++ l')
    | _, _ => none
def roArg (s : Nat → Option Root) : PV → Option (PV × List Nat)
  | .agg cs => (roL s cs).map fun x => (.agg x.1, x.2)
  | .fn f cs => (roL s cs).map fun x => (.fn f x.1, x.2)
  | pv => roLeaf s pv
def hasK (r : Nat) : List (Nat × Root) → Bool
  | [] => false
  | x :: l => if x.1 = r then true else hasK r l
def frzRo (s : Nat → Option Root) : List Nat → List (Nat × Root)
  | [] => []
  | r :: rs => if hasK r (frzRo s rs) = true then frzRo s rs else match foldR s 4 r with
    | some (.slo _ es, _) => (r, ⟨.sl (stripL es), []⟩) :: frzRo s rs
    | some (.sl es, _) => (r, ⟨.sl es, []⟩) :: frzRo s rs
    | _ => frzRo s rs
def own1 : PV → List Nat
  | .own r => [r]
  | _ => []
def ownH : PV → List Nat
  | .agg cs => cs.flatMap own1
  | .own r => [r]
  | _ => []
def hands0 : List Nat → List PV → List Nat
  | _, [] => []
  | ms, x :: xs => (if ms.headD 0 = 0 then ownH x else []) ++ hands0 ms.tail xs
inductive Bk where
  | root (r : Nat)
  | cells (rs : List (Option Nat))
def ownsOf : List PV → List (Option Nat)
  | [] => []
  | .own r :: cs => some r :: ownsOf cs
  | _ :: cs => none :: ownsOf cs
structure Args where
  vs : List PV
  ro : List Nat
  gone : List Nat
  back : List (Option Bk)
def mkArgs (s : Nat → Option Root) : List Nat → List PV → Option Args
  | _, [] => some ⟨[], [], [], []⟩
  | ms, x :: xs => match mkArgs s ms.tail xs with
    | none => none
    | some a => match ms.headD 0 with
      | 0 => match roArg s x with
        | some (v, l) => some ⟨v :: a.vs, l ++ a.ro, a.gone, none :: a.back⟩
        | none => none
      | m + 1 => match x with
        | .own r => match foldR s 4 r with
          | some (.slo sz es, l) => some ⟨.slo sz es :: a.vs, a.ro, l ++ a.gone, (if m = 0 then some (.root r) else none) :: a.back⟩
          | _ => none
        | .addr r 0 0 => match foldR s 4 r with
          | some (.pto cs, l) => some ⟨.pto cs :: a.vs, a.ro, l ++ a.gone, (if m = 0 then some (.root r) else none) :: a.back⟩
          | _ => none
        | .nilS => if m = 0 then none else some ⟨.nilS :: a.vs, a.ro, a.gone, none :: a.back⟩
        | .agg cs => match inl s cs with
          | some (cs', l) => some ⟨.agg cs' :: a.vs, a.ro, l ++ a.gone, (if m = 0 then some (.cells (ownsOf cs)) else none) :: a.back⟩
          | none => none
        | _ => none
def PV.isSlo : PV → Bool
  | .slo _ _ => true
  | _ => false
def backC : List PV → List (Option Nat) → List PV → Option (List (Nat × Root))
  | [], [], [] => some []
  | .slo sz _ :: cs, some r :: rs, .slo sz' es :: ds => if sz = sz' then (backC cs rs ds).map fun l => (r, ⟨.slo sz' es, []⟩) :: l else none
  | _ :: cs, none :: rs, d :: ds => if d.isSlo = false ∧ d.cellOk = true then backC cs rs ds else none
  | _, _, _ => none
def backs (args : List PV) : List (Option Bk) → List (Option PV) → Option (List (Nat × Root))
  | [], [] => some []
  | none :: bs, none :: ps => backs args.tail bs ps
  | some (.root r) :: bs, some p :: ps => match args.headD .undef, p, backs args.tail bs ps with
    | .slo sz _, .slo sz' es, some l => if sz = sz' then some ((r, ⟨.slo sz' es, []⟩) :: l) else none
    | .pto _, .pto cs, some l => some ((r, ⟨.pto cs, []⟩) :: l)
    | _, _, _ => none
  | some (.cells rs) :: bs, some p :: ps => match args.headD .undef, p, backs args.tail bs ps with
    | .agg cs, .agg ds, some l => (backC cs rs ds).map fun l' => l' ++ l
    | _, _, _ => none
  | _, _ => none
def imp1 : PV → Nat → PV × List (Nat × PV)
  | .slo sz es, b => (.own b, [(b, .slo sz es)])
  | .pto cs, b => (.addr b 0 0, [(b, .pto cs)])
  | .agg cs, b => if cs.all PV.cellOk = true then (.agg (det cs b 0).1, (det cs b 0).2.1) else (.undef, [])
  | .tup _, _ => (.undef, [])
  | .mp _ _, _ => (.undef, [])
  | pv, _ => (pv, [])
def impL : List PV → Nat → List PV × List (Nat × PV)
  | [], _ => ([], [])
  | v :: vs, b => ((imp1 v b).1 :: (impL vs (b + (imp1 v b).2.length)).1, (imp1 v b).2 ++ (impL vs (b + (imp1 v b).2.length)).2)
def imp : PV → Nat → PV × List (Nat × PV)
  | .tup vs, b => (.tup (impL vs b).1, (impL vs b).2)
  | pv, b => imp1 pv b
def impF (frz : Bool) (pv : PV) (b : Nat) : PV × List (Nat × PV) := if frz then (pv.strip, []) else imp pv b
def Bs (w : World) (R : Nat → Prop) : List Value → List (Option PV) → List Nat → Prop
  | [], [], fb => fb = []
  | _ :: vs, none :: bs, fb => Bs w R vs bs fb
  | v :: vs, some b :: bs, fb => ∃ f1 f2, V w R (fun _ => none) b v f1 ∧ Bs w R vs bs f2 ∧ fb = f1 ++ f2
  | _, _, _ => False
def GlobOk (G : Nat → Option (List PV)) (w : World) (R : Nat → Prop) : Prop :=
  ∀ g cs, G g = some cs → V w R (fun _ => none) (.pro cs) (.pointer (some ⟨g, 0, none⟩)) [] ∧ ∃ cur e fr, w.heap[g]? = some (.cells cur e fr) ∧ cur.size = cs.length
def FnOk (P : Program) (f : Nat) : Prop := ∃ fn, P.funcs[f]? = some fn ∧ (fn.name == "runtime.NumGoroutine") = false ∧ fn.body.isSome = true
class Dm where
  dm : Bool
instance (priority := low) dmNo : Dm := ⟨false⟩
def TapeOk [Dm] (w w' : World) : Prop := w'.tape = w.tape ∧ (Dm.dm = true → w.drawn ≤ w'.drawn)
theorem TapeOk.refl [Dm] (w : World) : TapeOk w w := ⟨rfl, fun _ => Nat.le_refl _⟩
theorem TapeOk.trans [Dm] {a b c : World} (h : TapeOk a b) (k : TapeOk b c) : TapeOk a c := ⟨k.1.trans h.1, fun hd => Nat.le_trans (h.2 hd) (k.2 hd)⟩
def PCalls [Dm] (P : Program) (G : Nat → Option (List PV)) (f : Nat) (args : List PV) (bks : List (Option PV)) (res : PV) (al : Bool) : Prop :=
  FnOk P f ∧ ∀ (w : World) (R : Nat → Prop) (vs : List Value) (fp : List Nat), GlobOk G w R → Ts w R (fun _ => none) args vs fp → fp.Nodup →
    (∀ b ∈ fp, b < w.heap.size ∧ ¬ R b) → (∀ b, R b → b < w.heap.size) →
    Calls P f vs.toArray w fun e w' => ∃ (v : Value) (R' : Nat → Prop) (fr fb : List Nat), e = .returned v ∧
      V w' (fun b => R' b ∧ (al = false → w.heap.size ≤ b)) (fun _ => none) res v fr ∧ Bs w' (fun b => R' b ∧ (al = false → w.heap.size ≤ b)) vs bks fb ∧ (fr ++ fb).Nodup ∧
      (∀ b ∈ fr ++ fb, b < w'.heap.size ∧ ¬ R' b ∧ (b ∈ fp ∨ w.heap.size ≤ b)) ∧ (∀ b, R b → R' b) ∧
      (∀ b, R' b → b < w'.heap.size ∧ (R b ∨ b ∈ fp ∨ w.heap.size ≤ b)) ∧
      (∀ b, b < w.heap.size → b ∉ fp → w'.heap[b]? = w.heap[b]?) ∧ w.heap.size ≤ w'.heap.size ∧ TapeOk w w' ∧ w'.os = w.os ∧ w'.output = w.output
mutual
def PV.free : PV → Prop
  | .own _ => False
  | .addr _ _ _ => False
  | .vw _ _ _ => False
  | .mp _ es => PV.freeL es
  | .agg cs => PV.freeL cs
  | .tup cs => PV.freeL cs
  | .fn _ cs => PV.freeL cs
  | .sl es => PV.freeL es
  | .slo _ es => PV.freeL es
  | .pro cs => PV.freeL cs
  | .pto cs => PV.freeL cs
  | _ => True
def PV.freeL : List PV → Prop
  | [] => True
  | c :: cs => PV.free c ∧ PV.freeL cs
end
def callP [Dm] (P : Program) (E : Env) (st : St) (f : Nat) (xs : List PV) (K : Eff → Prop) : Prop :=
  match mkArgs st.store (E.M f).modes xs with
  | none => False
  | some a => (PV.freeL a.vs ∧ a.gone.Nodup ∧ ∀ r ∈ a.ro, r ∉ a.gone) ∧ ∃ bks res al, PCalls P E.G f a.vs bks res al ∧
    match backs a.vs a.back bks with
    | none => False
    | some l => K ⟨(impF (E.M f).frz res st.next).1, a.gone ++ (if al then a.ro else []), l ++ (impF (E.M f).frz res st.next).2.map (fun x => (x.1, ⟨x.2, []⟩)) ++ (if al then frzRo st.store (hands0 (E.M f).modes xs) else []), st.next + (impF (E.M f).frz res st.next).2.length⟩
def dstOk (n : Nat) : Option Nat → Prop
  | some d => d < n ∧ d < gBase
  | none => True
end Go.Proofs.YtmanllfmgghadaaGreatDoor.PVE
namespace Go.Proofs.YtmanllfmgghadaaGreatDoor.PVE
open PV
theorem upd_same {α : Type} (f : Nat → α) (i : Nat) (x : α) : upd f i x i = x := by simp [upd]
theorem upd_other {α : Type} (f : Nat → α) (i : Nat) (x : α) {j : Nat} (h : j ≠ i) : upd f i x j = f j := by simp [upd, h]
theorem foldRem (rem : List Nat) : ∀ (s : Nat → Option Root) (r : Nat), (rem.foldl (fun s r => upd s r none) s) r = if r ∈ rem then none else s r := by
  induction rem with
  | nil => intro s r; simp
  | cons x rem ih =>
    intro s r
    rw [List.foldl_cons, ih]
    by_cases h : r ∈ rem
    · simp [h]
    · by_cases hx : r = x
      · subst hx; simp [h, upd]
      · simp [h, hx, upd]
theorem foldAdd_not (add : List (Nat × Root)) : ∀ (s : Nat → Option Root) (r : Nat), r ∉ add.map (·.1) → (add.foldl (fun s x => upd s x.1 (some x.2)) s) r = s r := by
  induction add with
  | nil => intro s r _; rfl
  | cons x add ih =>
    intro s r h
    simp only [List.map_cons, List.mem_cons, not_or] at h
    rw [List.foldl_cons, ih _ _ h.2, upd_other _ _ _ h.1]
theorem foldAdd_mem (add : List (Nat × Root)) : ∀ (s : Nat → Option Root) (r : Nat) (x : Root), (add.map (·.1)).Nodup → (r, x) ∈ add → (add.foldl (fun s x => upd s x.1 (some x.2)) s) r = some x := by
  induction add with
  | nil => intro s r x _ h; cases h
  | cons y add ih =>
    intro s r x hk h
    simp only [List.map_cons, List.nodup_cons] at hk
    rw [List.foldl_cons]
    rcases List.mem_cons.1 h with rfl | h
    · rw [foldAdd_not _ _ _ hk.1, upd_same]
    · exact ih _ _ _ hk.2 h
theorem store_add {s : Nat → Option Root} {rem : List Nat} {add : List (Nat × Root)} (hk : (add.map (·.1)).Nodup) {r : Nat} {x : Root} (h : (r, x) ∈ add) : applyStore s rem add r = some x := foldAdd_mem add _ r x hk h
theorem store_rem {s : Nat → Option Root} {rem : List Nat} {add : List (Nat × Root)} {r : Nat} (h : r ∉ add.map (·.1)) : applyStore s rem add r = if r ∈ rem then none else s r := by
  unfold applyStore; rw [foldAdd_not _ _ _ h, foldRem]
theorem nodup_flat {f : Nat → List Nat} : ∀ {l : List Nat}, (l.flatMap f).Nodup → (∀ x ∈ l, (f x).Nodup) ∧ ∀ x ∈ l, ∀ y ∈ l, x ≠ y → ∀ b ∈ f x, b ∉ f y
  | [], _ => ⟨by simp, by simp⟩
  | a :: l, h => by
    rw [List.flatMap_cons, List.nodup_append] at h
    obtain ⟨h1, h2, h3⟩ := h
    obtain ⟨i1, i2⟩ := nodup_flat h2
    refine ⟨fun x hx => ?_, fun x hx y hy hxy b hb hb' => ?_⟩
    · rcases List.mem_cons.1 hx with rfl | hx
      · exact h1
      · exact i1 x hx
    · rcases List.mem_cons.1 hx with hx' | hx' <;> rcases List.mem_cons.1 hy with hy' | hy'
      · exact hxy (hx'.trans hy'.symm)
      · exact h3 b (hx' ▸ hb) b (List.mem_flatMap.2 ⟨y, hy', hb'⟩) rfl
      · exact h3 b (hy' ▸ hb') b (List.mem_flatMap.2 ⟨x, hx', hb⟩) rfl
      · exact i2 x hx' y hy' hxy b hb hb'
def RootTy (h : Hd) : PV → Prop
  | .slo sz _ => sz = h.sz
  | .pto _ => True
  | .pro _ => ∃ b, h.hdr = .pointer (some ⟨b, 0, none⟩)
  | .sl _ => True
  | .mp _ _ => True
  | _ => False
def frA (Fr : Nat → Prop) (b e : Nat) : Nat → Prop := fun r => Fr r ∧ ¬ (b ≤ r ∧ r < e)
def tmv (gh : Nat → Value) (a : Act) (t : Nat) : Value := if t < gBase then a.tmps.getD t Go.undef else gh (t - gBase)
structure Rel [Dm] (w0 : World) (R0 : Nat → Prop) (F0 : List Nat) (gh : Nat → Value) (G : Nat → Option (List PV)) (n : Nat) (Fr : Nat → Prop) (R : Nat → Prop) (σ : Nat → Option Hd) (fps : Nat → List Nat) (st : St) (a : Act) (w : World) : Prop where
  tm : ∀ t, V w R σ (st.temps t) (tmv gh a t) []
  rt : ∀ r x, st.store r = some x → ∃ h, σ r = some h ∧ V w R σ x.pv h.hdr (fps r) ∧ RootTy h x.pv
  nn : ∀ r, st.store r = none → fps r = []
  nd : ∀ r, (fps r).Nodup
  dj : ∀ r s, r ≠ s → ∀ b ∈ fps r, b ∉ fps s
  fb : ∀ r, ∀ b ∈ fps r, b < w.heap.size ∧ ¬ R b ∧ (b ∈ F0 ∨ w0.heap.size ≤ b)
  Rb : ∀ b, R b → b < w.heap.size ∧ (R0 b ∨ b ∈ F0 ∨ w0.heap.size ≤ b)
  R0R : ∀ b, R0 b → R b
  keep : ∀ b, b < w0.heap.size → b ∉ F0 → w.heap[b]? = w0.heap[b]?
  sz : w0.heap.size ≤ w.heap.size
  tape : TapeOk w0 w
  os : w.os = w0.os
  out : w.output = w0.output
  fr : ∀ r, Fr r → σ r = none ∧ st.store r = none
  gl : GlobOk G w R
  nt : a.tmps.size = n
  df : a.defers = []
theorem GlobOk.mono {G : Nat → Option (List PV)} {w w' : World} {R R' : Nat → Prop} (h : GlobOk G w R) (hR : ∀ b, R b → R' b) (hw : ∀ b, R b → w'.heap[b]? = w.heap[b]?) : GlobOk G w' R' :=
  fun g cs e => ⟨V.mono hR (Le.refl _) hw _ _ _ (by simp) (h g cs e).1, by
    obtain ⟨hv, cur, t, fr, hb, hs⟩ := h g cs e
    simp only [V] at hv
    obtain ⟨_, a, us, ha, hr, _⟩ := hv
    simp only [Value.pointer.injEq, Option.some.injEq] at ha
    subst ha
    exact ⟨cur, t, fr, by rw [hw g hr]; exact hb, hs⟩⟩
theorem getD_put {a : Act} {n d : Nat} (hn : a.tmps.size = n) (hd : d < n) (u : Value) (t : Nat) : (a.put (some d) u).tmps.getD t Go.undef = if t = d then u else a.tmps.getD t Go.undef := by
  simp only [Act.put, Array.getD_eq_getD_getElem?, Array.getElem?_setIfInBounds]
  by_cases h : d = t
  · subst h; simp [hn, hd]
  · simp [h, Ne.symm h]
section change
variable {w0 : World} {R0 : Nat → Prop} {F0 : List Nat} {gh : Nat → Value} {G : Nat → Option (List PV)} {n : Nat} {Fr : Nat → Prop} {R : Nat → Prop} {σ : Nat → Option Hd} {fps : Nat → List Nat} {st : St} {a : Act} {w : World} [Dm]
theorem Rel.change (h : Rel w0 R0 F0 gh G n Fr R σ fps st a w) {w' : World} {R' : Nat → Prop} {σ' : Nat → Option Hd} {e : Eff} {dst : Option Nat} {u : Value} (hd : dstOk n dst)
    (fpN : Nat → List Nat)
    (hk : (e.add.map (·.1)).Nodup)
    (hR : ∀ b, R b → R' b)
    (hR' : ∀ b, R' b → b < w'.heap.size ∧ (R b ∨ (∃ x ∈ e.rem ++ e.add.map (·.1), b ∈ fps x) ∨ w.heap.size ≤ b))
    (hσ : Le σ σ')
    (hw : ∀ b, R b → w'.heap[b]? = w.heap[b]?)
    (hwf : ∀ r, r ∉ e.rem → r ∉ e.add.map (·.1) → ∀ b ∈ fps r, w'.heap[b]? = w.heap[b]?)
    (hnew : ∀ r x, (r, x) ∈ e.add → ∃ k, σ' r = some k ∧ V w' R' σ' x.pv k.hdr (fpN r) ∧ RootTy k x.pv)
    (hnd : ((e.add.map (·.1)).flatMap fpN).Nodup)
    (hfb : ∀ r ∈ e.add.map (·.1), ∀ b ∈ fpN r, b < w'.heap.size ∧ ¬ R' b ∧ ((∃ x ∈ e.rem ++ e.add.map (·.1), b ∈ fps x) ∨ w.heap.size ≤ b))
    (hkeep : ∀ b, b < w0.heap.size → b ∉ F0 → w'.heap[b]? = w.heap[b]?)
    (hsz : w.heap.size ≤ w'.heap.size) (htape : TapeOk w w') (hos : w'.os = w.os) (hout : w'.output = w.output)
    (hfr : ∀ r, frA Fr st.next e.nx r → σ' r = none) (hlt : ∀ r ∈ e.add.map (·.1), (∃ k, σ r = some k) ∨ (st.next ≤ r ∧ r < e.nx))
    (hval : V w' R' σ' e.val u []) :
    Rel w0 R0 F0 gh G n (frA Fr st.next e.nx) R' σ' (fun r => if r ∈ e.add.map (·.1) then fpN r else if r ∈ e.rem then [] else fps r) (st.app dst e) (a.put dst u) w' := by
  have hX : ∀ b, (∃ x ∈ e.rem ++ e.add.map (·.1), b ∈ fps x) → b ∈ F0 ∨ w0.heap.size ≤ b := fun b ⟨x, _, hb⟩ => (h.fb x b hb).2.2
  have hXR : ∀ b, (∃ x ∈ e.rem ++ e.add.map (·.1), b ∈ fps x) → b < w.heap.size := fun b ⟨x, _, hb⟩ => (h.fb x b hb).1
  refine ⟨?tm, ?rt, ?nn, ?nd, ?dj, ?fb, ?Rb, fun b hb => hR b (h.R0R b hb), fun b h1 h2 => (hkeep b h1 h2).trans (h.keep b h1 h2), Nat.le_trans h.sz hsz, h.tape.trans htape, hos.trans h.os, hout.trans h.out, ?fr, h.gl.mono hR hw, ?nt, ?df⟩
  case tm =>
    intro t
    have hold := V.mono hR hσ hw _ _ _ (by simp) (h.tm t)
    cases dst with
    | none => exact hold
    | some d =>
      unfold tmv at hold ⊢
      rw [getD_put h.nt hd.1]
      by_cases ht : t = d
      · subst ht; simpa [St.app, St.put, upd, hd.2] using hval
      · simpa [St.app, St.put, upd, ht] using hold
  case rt =>
    intro r x hx
    by_cases hr : r ∈ e.add.map (·.1)
    · obtain ⟨y, hy, rfl⟩ := List.mem_map.1 hr
      have := store_add (s := st.store) (rem := e.rem) hk (r := y.1) (x := y.2) (by simpa using hy)
      simp only [St.app] at hx
      rw [this] at hx
      obtain rfl := Option.some.inj hx
      simp only [hr, if_true]
      exact hnew y.1 y.2 (by simpa using hy)
    · simp only [St.app] at hx
      rw [store_rem hr] at hx
      by_cases hr' : r ∈ e.rem
      · simp [hr'] at hx
      · simp only [hr', if_false] at hx
        obtain ⟨k, h1, h2, h3⟩ := h.rt r x hx
        refine ⟨k, hσ _ _ h1, ?_, h3⟩
        simp only [hr, hr', if_false]
        exact V.mono hR hσ hw _ _ _ (hwf r hr' hr) h2
  case nn =>
    intro r hx
    by_cases hr : r ∈ e.add.map (·.1)
    · obtain ⟨y, hy, rfl⟩ := List.mem_map.1 hr
      have := store_add (s := st.store) (rem := e.rem) hk (r := y.1) (x := y.2) (by simpa using hy)
      simp only [St.app] at hx
      rw [this] at hx
      cases hx
    · simp only [St.app] at hx
      rw [store_rem hr] at hx
      simp only [hr, if_false]
      by_cases hr' : r ∈ e.rem
      · simp [hr']
      · simp only [hr', if_false] at hx ⊢
        exact h.nn r hx
  case nd =>
    intro r
    split
    · rename_i hr
      exact (nodup_flat hnd).1 r hr
    · split
      · exact List.nodup_nil
      · exact h.nd r
  case dj =>
    intro r s hrs b hb
    have hold : ∀ r, r ∉ e.add.map (·.1) → r ∉ e.rem → ∀ b ∈ fps r, ∀ q ∈ e.add.map (·.1), b ∉ fpN q := by
      intro r h1 h2 b hb q hq hbq
      rcases (hfb q hq b hbq).2.2 with ⟨x, hx, hbx⟩ | hge
      · have hne : r ≠ x := by rintro rfl; rcases List.mem_append.1 hx with hx | hx <;> contradiction
        exact h.dj r x hne b hb hbx
      · have := (h.fb r b hb).1; omega
    by_cases hr : r ∈ e.add.map (·.1)
    · simp only [hr, if_true] at hb
      by_cases hs : s ∈ e.add.map (·.1)
      · simp only [hs, if_true]
        exact (nodup_flat hnd).2 r hr s hs hrs b hb
      · simp only [hs, if_false]
        split
        · simp
        · rename_i hs'
          exact fun hbs => hold s hs hs' b hbs r hr hb
    · simp only [hr, if_false] at hb
      by_cases hr' : r ∈ e.rem
      · simp [hr'] at hb
      · simp only [hr', if_false] at hb
        by_cases hs : s ∈ e.add.map (·.1)
        · simp only [hs, if_true]; exact hold r hr hr' b hb s hs
        · simp only [hs, if_false]
          split
          · simp
          · exact h.dj r s hrs b hb
  case fb =>
    intro r b hb
    by_cases hr : r ∈ e.add.map (·.1)
    · simp only [hr, if_true] at hb
      obtain ⟨h1, h2, h3⟩ := hfb r hr b hb
      refine ⟨h1, h2, ?_⟩
      rcases h3 with h3 | h3
      · exact hX b h3
      · have := h.sz; exact .inr (by omega)
    · simp only [hr, if_false] at hb
      by_cases hr' : r ∈ e.rem
      · simp [hr'] at hb
      · simp only [hr', if_false] at hb
        obtain ⟨h1, h2, h3⟩ := h.fb r b hb
        refine ⟨by omega, fun hb' => ?_, h3⟩
        rcases (hR' b hb').2 with h4 | ⟨x, hx, hbx⟩ | h4
        · exact h2 h4
        · have hne : r ≠ x := by rintro rfl; rcases List.mem_append.1 hx with hx | hx <;> contradiction
          exact h.dj r x hne b hb hbx
        · omega
  case Rb =>
    intro b hb
    obtain ⟨h1, h2⟩ := hR' b hb
    refine ⟨h1, ?_⟩
    rcases h2 with h2 | h2 | h2
    · exact (h.Rb b h2).2
    · exact .inr (hX b h2)
    · have := h.sz; exact .inr (.inr (by omega))
  case fr =>
    intro r hr
    simp only [St.app]
    have hna : r ∉ e.add.map (·.1) := fun hm => by
      rcases hlt r hm with ⟨k, hk⟩ | hk
      · rw [(h.fr r hr.1).1] at hk; cases hk
      · exact hr.2 hk
    refine ⟨hfr r hr, ?_⟩
    rw [store_rem hna]
    split
    · rfl
    · exact (h.fr r hr.1).2
  case nt => cases dst <;> simp [Act.put, h.nt]
  case df => cases dst <;> simp [Act.put, h.df]
theorem Rel.value (h : Rel w0 R0 F0 gh G n Fr R σ fps st a w) {dst : Option Nat} {v : PV} {u : Value} (hd : dstOk n dst) (hval : V w R σ v u []) :
    Rel w0 R0 F0 gh G n (frA Fr st.next st.next) R σ fps (st.app dst ⟨v, [], [], st.next⟩) (a.put dst u) w := by
  have := h.change (w' := w) (R' := R) (σ' := σ) (e := ⟨v, [], [], st.next⟩) (dst := dst) (u := u) hd (fun _ => []) (by simp) (fun _ h => h) (fun b hb => ⟨(h.Rb b hb).1, .inl hb⟩) (Le.refl _) (fun _ _ => rfl) (fun _ _ _ _ _ => rfl) (by simp) (by simp) (by simp) (fun _ _ _ => rfl) (Nat.le_refl _) (.refl _) rfl rfl (fun r hr => (h.fr r hr.1).1) (by simp) hval
  simpa using this
end change
section look
variable {w : World} {R : Nat → Prop} {σ : Nat → Option Hd}
theorem Cs.length : ∀ {cs : List PV} {us : List Value} {fp : List Nat}, Cs w R σ cs us fp → us.length = cs.length
  | [], us, fp, h => by simp only [Cs] at h; simp [h.1]
  | c :: cs, us, fp, h => by
    simp only [Cs] at h
    obtain ⟨u, us', f1, f2, rfl, _, _, h2, _⟩ := h
    simp [Cs.length h2]
theorem Cs.one : ∀ {cs : List PV} {us : List Value} {fp : List Nat}, Cs w R σ cs us fp → ∀ u ∈ us, u.oneCell' = true
  | [], us, fp, h => by simp only [Cs] at h; simp [h.1]
  | c :: cs, us, fp, h => by
    simp only [Cs] at h
    obtain ⟨u, us', f1, f2, rfl, h1, _, h2, _⟩ := h
    intro x hx
    rcases List.mem_cons.1 hx with rfl | hx
    · exact h1
    · exact Cs.one h2 x hx
theorem Cs.append : ∀ {cs ds : List PV} {us : List Value} {fp : List Nat}, Cs w R σ (cs ++ ds) us fp ↔ ∃ u1 u2 f1 f2, us = u1 ++ u2 ∧ fp = f1 ++ f2 ∧ Cs w R σ cs u1 f1 ∧ Cs w R σ ds u2 f2
  | [], ds, us, fp => by
    constructor
    · intro h; exact ⟨[], us, [], fp, rfl, rfl, by simp [Cs], h⟩
    · rintro ⟨u1, u2, f1, f2, rfl, rfl, h1, h2⟩
      simp only [Cs] at h1
      obtain ⟨rfl, rfl⟩ := h1
      simpa using h2
  | c :: cs, ds, us, fp => by
    simp only [List.cons_append, Cs]
    constructor
    · rintro ⟨u, us', f1, f2, rfl, h0, h1, h2, rfl⟩
      obtain ⟨u1, u2, g1, g2, rfl, rfl, h3, h4⟩ := Cs.append.1 h2
      exact ⟨u :: u1, u2, f1 ++ g1, g2, by simp, by simp, ⟨u, u1, f1, g1, rfl, h0, h1, h3, rfl⟩, h4⟩
    · rintro ⟨u1, u2, f1, f2, rfl, rfl, ⟨u, us', g1, g2, rfl, h0, h1, h3, rfl⟩, h4⟩
      exact ⟨u, us' ++ u2, g1, g2 ++ f2, by simp, h0, h1, Cs.append.2 ⟨us', u2, g2, f2, rfl, rfl, h3, h4⟩, by simp⟩
theorem Es.length : ∀ {sz : Nat} {es : List PV} {us : List Value} {fp : List Nat}, Es w R σ sz es us fp → us.length = es.length * sz
  | sz, [], us, fp, h => by simp only [Es] at h; simp [h.1]
  | sz, e :: es, us, fp, h => by
    simp only [Es] at h
    obtain ⟨v, us', f1, f2, rfl, hs, _, _, _, h2, _⟩ := h
    simp [Es.length h2, hs, Nat.add_mul]; omega
theorem Es.one : ∀ {sz : Nat} {es : List PV} {us : List Value} {fp : List Nat}, Es w R σ sz es us fp → ∀ u ∈ us, u.oneCell' = true
  | sz, [], us, fp, h => by simp only [Es] at h; simp [h.1]
  | sz, e :: es, us, fp, h => by
    simp only [Es] at h
    obtain ⟨v, us', f1, f2, rfl, _, h1, _, _, h2, _⟩ := h
    intro x hx
    rcases List.mem_append.1 hx with hx | hx
    · exact h1 x (by simpa using hx)
    · exact Es.one h2 x hx
theorem Es.append : ∀ {sz : Nat} {cs ds : List PV} {us : List Value} {fp : List Nat}, Es w R σ sz (cs ++ ds) us fp ↔ ∃ u1 u2 f1 f2, us = u1 ++ u2 ∧ fp = f1 ++ f2 ∧ Es w R σ sz cs u1 f1 ∧ Es w R σ sz ds u2 f2
  | sz, [], ds, us, fp => by
    constructor
    · intro h; exact ⟨[], us, [], fp, rfl, rfl, by simp [Es], h⟩
    · rintro ⟨u1, u2, f1, f2, rfl, rfl, h1, h2⟩
      simp only [Es] at h1
      obtain ⟨rfl, rfl⟩ := h1
      simpa using h2
  | sz, c :: cs, ds, us, fp => by
    simp only [List.cons_append, Es]
    constructor
    · rintro ⟨v, us', f1, f2, rfl, hs, h0, hu, h1, h2, rfl⟩
      obtain ⟨u1, u2, g1, g2, rfl, rfl, h3, h4⟩ := Es.append.1 h2
      exact ⟨v.cells.toList ++ u1, u2, f1 ++ g1, g2, by simp, by simp, ⟨v, u1, f1, g1, rfl, hs, h0, hu, h1, h3, rfl⟩, h4⟩
    · rintro ⟨u1, u2, f1, f2, rfl, rfl, ⟨v, us', g1, g2, rfl, hs, h0, hu, h1, h3, rfl⟩, h4⟩
      exact ⟨v, us' ++ u2, g1, g2 ++ f2, by simp, hs, h0, hu, h1, Es.append.2 ⟨us', u2, g2, f2, rfl, rfl, h3, h4⟩, by simp⟩
theorem Cs.at {cs : List PV} {us : List Value} {fp : List Nat} (h : Cs w R σ cs us fp) {k : Nat} {c : PV} (hc : cs[k]? = some c) : ∃ u f, us[k]? = some u ∧ u.oneCell' = true ∧ V w R σ c u f ∧ (∀ b ∈ f, b ∈ fp) := by
  obtain ⟨hk, rfl⟩ := List.getElem?_eq_some_iff.1 hc
  have hsplit : cs = cs.take k ++ cs[k] :: cs.drop (k + 1) := by rw [List.getElem_cons_drop, List.take_append_drop]
  rw [hsplit] at h
  obtain ⟨u1, u2, f1, f2, rfl, rfl, h1, h2⟩ := Cs.append.1 h
  simp only [Cs] at h2
  obtain ⟨u, us', g1, g2, rfl, h0, hv, _, rfl⟩ := h2
  have hl : u1.length = k := by rw [h1.length]; simp; omega
  exact ⟨u, g1, by rw [List.getElem?_append_right (by omega)]; simp [hl], h0, hv, fun b hb => by simp [hb]⟩
theorem Es.at {sz : Nat} {es : List PV} {us : List Value} {fp : List Nat} (h : Es w R σ sz es us fp) {k : Nat} {e : PV} (he : es[k]? = some e) :
    ∃ u1 v u2 f1 f f2, us = u1 ++ v.cells.toList ++ u2 ∧ u1.length = k * sz ∧ v.cells.size = sz ∧ (∀ u ∈ v.cells, u.oneCell' = true) ∧ e ≠ .undef ∧ V w R σ e v f ∧ fp = f1 ++ f ++ f2 ∧
      Es w R σ sz (es.take k) u1 f1 ∧ Es w R σ sz (es.drop (k + 1)) u2 f2 := by
  obtain ⟨hk, rfl⟩ := List.getElem?_eq_some_iff.1 he
  have hsplit : es = es.take k ++ es[k] :: es.drop (k + 1) := by rw [List.getElem_cons_drop, List.take_append_drop]
  have h' := h
  rw [hsplit] at h'
  obtain ⟨u1, u2, f1, f2, rfl, rfl, h1, h2⟩ := Es.append.1 h'
  simp only [Es] at h2
  obtain ⟨v, us', g1, g2, rfl, hs, h0, hu, hv, h3, rfl⟩ := h2
  exact ⟨u1, v, us', f1, g1, g2, by simp, by rw [h1.length, List.length_take, Nat.min_eq_left (Nat.le_of_lt hk)], hs, h0, hu, hv, by simp, h1, h3⟩
theorem V.cellsOf {e : PV} {v : Value} {fp : List Nat} (h : V w R σ e v fp) (hone : ∀ u ∈ v.cells, u.oneCell' = true) (hu : e ≠ .undef) : Cs w R σ e.cells v.cells.toList fp := by
  cases e with
  | agg cs => simp only [V] at h; obtain ⟨us, rfl, h⟩ := h; simpa [Value.cells, PV.cells] using h
  | undef => exact absurd rfl hu
  | tup vs =>
    simp only [V] at h
    obtain ⟨us, rfl, h⟩ := h
    have := hone (.tuple us.toArray) (by simp [Value.cells])
    simp [Value.oneCell'] at this
  | void =>
    simp only [V] at h
    obtain ⟨rfl, h⟩ := h
    have := hone (.tuple #[]) (by simp [Value.cells])
    simp [Value.oneCell'] at this
  | mp it es =>
    have ho : v.oneCell' = true := by
      have h2 := h
      simp only [V] at h2
      obtain ⟨bs, os, fp', hm, _⟩ := h2
      exact hm.one
    have hv : v.cells = #[v] := by cases v <;> first | rfl | (simp [Value.oneCell'] at ho)
    simp only [PV.cells, hv, List.toList_toArray, Cs]
    exact ⟨v, [], fp, [], rfl, ho, h, by simp [Cs], by simp⟩
  | _ =>
    have hv : v.cells = #[v] := by
      simp only [V] at h
      cases v <;> first | rfl | (exfalso; simp_all [Value.oneCell', Row]; done) | (exfalso; obtain ⟨us, fp', h, _⟩ := h; simp_all [Row]; done) | (exfalso; obtain ⟨h1, h2, h3⟩ := h; rw [← h1] at h2; simp [Value.oneCell'] at h2; done) | (exfalso; obtain ⟨rfl, h2, h3⟩ := h; simp [Value.oneCell'] at h2; done)
    simp only [PV.cells, hv, List.toList_toArray, Cs]
    exact ⟨v, [], fp, [], rfl, hone v (by simp [hv]), h, by simp [Cs], by simp⟩
end look
end Go.Proofs.YtmanllfmgghadaaGreatDoor.PVE
namespace Go.Proofs.YtmanllfmgghadaaGreatDoor.PVE
open PV
def putAt (l : List Value) (k : Nat) (vs : List Value) : List Value := l.take k ++ vs ++ l.drop (k + vs.length)
theorem putAt_length {l : List Value} {k : Nat} {vs : List Value} (h : k + vs.length ≤ l.length) : (putAt l k vs).length = l.length := by simp [putAt]; omega
theorem putAt_mid (a b c b' : List Value) (h : b'.length = b.length) : putAt (a ++ b ++ c) a.length b' = a ++ b' ++ c := by
  unfold putAt
  rw [h, show (a ++ b ++ c).take a.length = a by rw [List.append_assoc]; exact List.take_left' rfl, show (a ++ b ++ c).drop (a.length + b.length) = c from List.drop_left' (by simp)]
theorem run_storeRow {P : Program} (g o : Nat) (t : TypeId) (lo hi : Nat) : ∀ (vs : List Value) (i : Nat) (cur : Array Value) (w : World), w.heap[g]? = some (.cells cur t (lo, hi)) → ((lo = 0 ∧ hi = 0) ∨ cur.size ≤ lo) →
    o + i + vs.length ≤ cur.size → (∀ v ∈ vs, v.oneCell' = true) →
    (storeCells ⟨g, o, none⟩ vs i).run P w = .ok () (w.setRow g (putAt cur.toList (o + i) vs).toArray)
  | [], i, cur, w, hg, _, _, _ => by
    simp only [storeCells, putAt, List.append_nil, List.length_nil, Nat.add_zero, List.take_append_drop, Array.toArray_toList]
    rw [setRow_self w g cur t (lo, hi) hg]
    rfl
  | v :: rest, i, cur, w, hg, hm, hl, h1 => by
    have hi' : o + i < cur.size := by simp at hl; omega
    have hadd : (⟨g, o, none⟩ : Addr).add i = ⟨g, o + i, none⟩ := by unfold Addr.add; split <;> simp_all
    have hcell : w.cell? ⟨g, o + i, none⟩ = some cur[o + i] := by simp [World.cell?, hg, hi']
    have hfro : w.frozen? ⟨g, o + i, none⟩ = false := by
      simp only [World.frozen?, hg]
      rcases hm with ⟨rfl, rfl⟩ | hm
      · simp
      · have : ¬ lo ≤ o + i := by omega
        simp [this]
    have hst : (store ((⟨g, o, none⟩ : Addr).add i) v).run P w = .ok () (w.setRow g (cur.setIfInBounds (o + i) v)) := by
      rw [hadd, run_store P w _ v _ (h1 v (by simp)), hcell]
      simp [hfro, setCell_eq_setRow w g (o + i) cur t (lo, hi) v hg]
    have ih := run_storeRow (P := P) g o t lo hi rest (i + 1) (cur.setIfInBounds (o + i) v) (w.setRow g (cur.setIfInBounds (o + i) v)) (setRow_heap w g cur _ t _ hg) (by simpa using hm) (by simp at hl ⊢; omega) (fun x hx => h1 x (by simp [hx]))
    simp only [storeCells, Sem.run_bind, hst, Result.andThen_ok, ih, setRow_setRow]
    congr 3
    have e := list_seg_step cur.toList (o + i) v rest (by simp at hl ⊢; omega)
    simpa [putAt, Array.toList_setIfInBounds, Nat.add_assoc] using e
theorem oneCell_cells {u : Value} (h : u.oneCell' = true) : u.cells = #[u] := by cases u <;> first | rfl | (simp [Value.oneCell'] at h)
section focus
variable {w : World} {R : Nat → Prop} {σ : Nat → Option Hd}
theorem setElem_ty {h : Hd} {pv : PV} {k : Nat} (ht : RootTy h pv) (e : PV) : RootTy h (pv.setElem k e) := by
  cases pv <;> simp only [RootTy] at ht
  · trivial
  · exact ht
  · exact ht
  · cases e <;> trivial
  · trivial
theorem put_ty {h : Hd} {pv : PV} {k : Nat} (ht : RootTy h pv) (cs : List PV) (off : Nat) : RootTy h (pv.put k off cs) := by
  unfold PV.put
  cases he : pv.elem k with
  | none => exact ht
  | some e => exact setElem_ty ht _
theorem focus {h : Hd} {pv e : PV} {fp : List Nat} {k off m : Nat} (hv : V w R σ pv h.hdr fp) (ht : RootTy h pv) (he : pv.elem k = some e) (hm : off + m ≤ e.cells.length) (hm0 : 0 < m) :
    ∃ b cur et lo hi f1 f0 f2 old, blkOf h.hdr = some b ∧ w.heap[b]? = some (.cells cur et (lo, hi)) ∧ ((lo = 0 ∧ hi = 0) ∨ cur.size ≤ lo) ∧ k * h.sz + off + m ≤ cur.size ∧ old.length = m ∧
      fp = b :: f1 ++ f0 ++ f2 ∧ Cs w R σ ((e.cells.drop off).take m) old f0 ∧ (∀ j, j < m → cur[k * h.sz + off + j]? = old[j]?) ∧ e ≠ .undef ∧
      ∀ {w' : World} {R' : Nat → Prop} {σ' : Nat → Option Hd} {cs' : List PV} {us' : List Value} {f' : List Nat}, (∀ b, R b → R' b) → Le σ σ' → (∀ b, R b → w'.heap[b]? = w.heap[b]?) → (∀ b ∈ f1 ++ f2, w'.heap[b]? = w.heap[b]?) →
        w'.heap[b]? = some (.cells (putAt cur.toList (k * h.sz + off) us').toArray et (lo, hi)) → Cs w' R' σ' cs' us' f' → cs'.length = m → ((∃ x, e = .agg x) ∨ ∀ c ∈ cs', c ≠ .undef) →
        V w' R' σ' (pv.put k off cs') h.hdr (b :: f1 ++ f' ++ f2) := by
  have key : ∀ (v : Value) (f : List Nat), V w R σ e v f → (∀ u ∈ v.cells, u.oneCell' = true) → e ≠ .undef → ∃ p1 p2 p3 g1 g0 g2, v.cells.toList = p1 ++ p2 ++ p3 ∧ p1.length = off ∧ p2.length = m ∧ f = g1 ++ g0 ++ g2 ∧
      Cs w R σ ((e.cells.drop off).take m) p2 g0 ∧
      ∀ {w' : World} {R' : Nat → Prop} {σ' : Nat → Option Hd} {cs' : List PV} {us' : List Value} {f' : List Nat}, (∀ b, R b → R' b) → Le σ σ' → (∀ b, R b → w'.heap[b]? = w.heap[b]?) → (∀ b ∈ g1 ++ g2, w'.heap[b]? = w.heap[b]?) →
        Cs w' R' σ' cs' us' f' → cs'.length = m → ((∃ x, e = .agg x) ∨ ∀ c ∈ cs', c ≠ .undef) → ∃ v', v'.cells.toList = p1 ++ us' ++ p3 ∧ (∀ u ∈ v'.cells, u.oneCell' = true) ∧ e.reElem off cs' ≠ .undef ∧ V w' R' σ' (e.reElem off cs') v' (g1 ++ f' ++ g2) := by
    intro v f hv hone hu
    have hc := V.cellsOf hv hone hu
    have hsplit : e.cells = e.cells.take off ++ ((e.cells.drop off).take m ++ e.cells.drop (off + m)) := by
      rw [← List.drop_drop, List.take_append_drop, List.take_append_drop]
    rw [hsplit] at hc
    obtain ⟨p1, q, g1, gq, hq, rfl, h1, h2⟩ := Cs.append.1 hc
    obtain ⟨p2, p3, g0, g2, rfl, rfl, h3, h4⟩ := Cs.append.1 h2
    refine ⟨p1, p2, p3, g1, g0, g2, by rw [hq]; simp, by rw [h1.length]; simp; omega, by rw [h3.length]; simp; omega, by simp, h3, ?_⟩
    intro w' R' σ' cs' us' f' hR hσ hw hwf hcs hl hcase
    have m1 := Cs.mono hR hσ hw _ _ _ (fun b hb => hwf b (by simp [hb])) h1
    have m2 := Cs.mono hR hσ hw _ _ _ (fun b hb => hwf b (by simp [hb])) h4
    by_cases hag : ∃ x, e = .agg x
    · obtain ⟨x, rfl⟩ := hag
      refine ⟨.agg (p1 ++ us' ++ p3).toArray, by simp [Value.cells], ?_, by simp [PV.reElem], ?_⟩
      · intro u hu
        have : u ∈ p1 ++ us' ++ p3 := by simpa [Value.cells] using hu
        rcases List.mem_append.1 this with hh | hh
        · rcases List.mem_append.1 hh with hh | hh
          · exact h1.one u hh
          · exact hcs.one u hh
        · exact h4.one u hh
      · simp only [PV.reElem, V]
        refine ⟨_, rfl, ?_⟩
        simp only [putCells, PV.cells] at m1 m2 ⊢
        rw [hl]
        exact Cs.append.2 ⟨p1 ++ us', p3, g1 ++ f', g2, by simp, by simp, Cs.append.2 ⟨p1, us', g1, f', rfl, rfl, m1, hcs⟩, m2⟩
    · have hnu := hcase.resolve_left hag
      have hcell : e.cells = [e] := by cases e <;> first | rfl | exact absurd ⟨_, rfl⟩ hag
      have hoff : off = 0 ∧ m = 1 := by rw [hcell] at hm; simp at hm; omega
      obtain ⟨rfl, rfl⟩ := hoff
      have hp1 : p1 = [] := List.eq_nil_of_length_eq_zero (by rw [h1.length]; simp)
      have hp3 : p3 = [] := List.eq_nil_of_length_eq_zero (by rw [h4.length]; simp [hcell])
      subst hp1; subst hp3
      have hg1 : g1 = [] := by simp [Cs] at h1; exact h1
      have hg2 : g2 = [] := by
        have : List.drop (0 + 1) e.cells = [] := by simp [hcell]
        rw [this] at h4; simp [Cs] at h4; exact h4
      subst hg1; subst hg2
      obtain ⟨c, rfl⟩ : ∃ c, cs' = [c] := by
        match cs', hl with
        | [c], _ => exact ⟨c, rfl⟩
      have hre : e.reElem 0 [c] = c := by cases e <;> first | rfl | exact absurd ⟨_, rfl⟩ hag
      simp only [Cs] at hcs
      obtain ⟨u, _, fa, _, rfl, ho, hcv, ⟨rfl, rfl⟩, rfl⟩ := hcs
      refine ⟨u, by simp [oneCell_cells ho], by simp [oneCell_cells ho, ho], by rw [hre]; exact hnu c (by simp), by rw [hre]; simpa using hcv⟩
  cases pv with
  | slo sz es =>
    simp only [RootTy] at ht
    subst ht
    simp only [PV.elem] at he
    simp only [V] at hv
    obtain ⟨us, fp', hrow, hes, rfl⟩ := hv
    obtain ⟨hul, hrow⟩ := hrow
    have hk : k < es.length := (List.getElem?_eq_some_iff.1 he).1
    rcases hrow with ⟨_, h0⟩ | ⟨g, cap, cur, et, lo, hi, hhdr, hg, hmark, hn, hcap, hcs, htake⟩
    · omega
    · obtain ⟨u1, v, u2, f1, f, f2, rfl, hu1, hvs, hone, hu, hev, rfl, hpre, hpost⟩ := hes.at he
      obtain ⟨p1, p2, p3, g1, g0, g2, hvc, hp1, hp2, rfl, hold, hput⟩ := key v f hev hone hu
      have hblk : blkOf h.hdr = some g := by rw [hhdr]; rfl
      have hcur : cur.toList = (u1 ++ p1) ++ p2 ++ (p3 ++ u2 ++ cur.toList.drop (es.length * h.sz)) := by
        conv => lhs; rw [← List.take_append_drop (es.length * h.sz) cur.toList, htake, hvc]
        simp
      have hlen : (u1 ++ p1).length = k * h.sz + off := by simp [hu1, hp1]
      refine ⟨g, cur, et, lo, hi, f1 ++ g1, g0, g2 ++ f2, p2, hblk, hg, hmark, ?_, hp2, by simp [hblk], hold, ?_, hu, ?_⟩
      · have : cur.size = cur.toList.length := by simp
        rw [this, hcur]
        simp [hu1, hp1, hp2]; omega
      · intro j hj
        rw [← Array.getElem?_toList, hcur, ← hlen, List.append_assoc, List.getElem?_append_right (by omega), Nat.add_sub_cancel_left, List.getElem?_append_left (by omega)]
      · intro w' R' σ' cs' us' f' hR hσ hw hwf hg' hcs' hl hcase
        obtain ⟨v', hv'c, hv'1, hv'u, hv'⟩ := hput hR hσ hw (fun b hb => hwf b (by simp at hb ⊢; rcases hb with hb | hb <;> simp [hb])) hcs' hl hcase
        have hus : us'.length = p2.length := by rw [hcs'.length, hl, hp2]
        have hcur' : putAt cur.toList (k * h.sz + off) us' = (u1 ++ p1) ++ us' ++ (p3 ++ u2 ++ cur.toList.drop (es.length * h.sz)) := by
          rw [← hlen]; conv => lhs; rw [hcur]
          exact putAt_mid _ _ _ _ hus
        have hput_eq : PV.put (.slo h.sz es) k off cs' = .slo h.sz (es.take k ++ (e.reElem off cs') :: es.drop (k + 1)) := by
          simp only [PV.put, PV.elem, he, PV.setElem]
          rw [List.set_eq_take_append_cons_drop]; simp [hk]
        rw [hput_eq]
        simp only [V]
        have hpre' := Es.mono hR hσ hw _ _ _ _ (fun b hb => hwf b (by simp [hb])) hpre
        have hpost' := Es.mono hR hσ hw _ _ _ _ (fun b hb => hwf b (by simp [hb])) hpost
        have hsz' : v'.cells.size = h.sz := by
          have e1 : v'.cells.toList.length = v.cells.toList.length := by rw [hv'c, hvc]; simp [hus]
          simpa [hvs] using e1
        have hles : (es.take k ++ (e.reElem off cs') :: es.drop (k + 1)).length = es.length := by simp; omega
        refine ⟨u1 ++ (v'.cells.toList ++ u2), f1 ++ ((g1 ++ f' ++ g2) ++ f2), ⟨?_, .inr ⟨g, cap, _, et, lo, hi, by rw [hhdr, hles], hg', ?_, by rw [hles]; exact hn, hcap, ?_, ?_⟩⟩, Es.append.2 ⟨u1, v'.cells.toList ++ u2, f1, (g1 ++ f' ++ g2) ++ f2, rfl, rfl, hpre', ?_⟩, ?_⟩
        · rw [hles, ← hul]
          rw [show (u1 ++ v.cells.toList ++ u2).length = u1.length + v.cells.size + u2.length by simp; omega, hvs]
          simp [hsz']; omega
        · rw [List.size_toArray, putAt_length (by rw [hcur, ← hlen]; simp [hus]; omega), Array.length_toList]; exact hmark
        · rw [List.size_toArray, putAt_length (by rw [hcur, ← hlen]; simp [hus]; omega), Array.length_toList]; exact hcs
        · rw [hles, List.toList_toArray, hcur', hv'c]
          have hL : ((u1 ++ p1) ++ us' ++ (p3 ++ u2)).length = es.length * h.sz := by
            rw [← hul, hvc]; simp [hus]
          rw [show (u1 ++ p1) ++ us' ++ (p3 ++ u2 ++ cur.toList.drop (es.length * h.sz)) = ((u1 ++ p1) ++ us' ++ (p3 ++ u2)) ++ cur.toList.drop (es.length * h.sz) by simp, ← hL, List.take_left' rfl]
          simp
        · simp only [Es]
          exact ⟨v', u2, g1 ++ f' ++ g2, f2, rfl, hsz', hv'1, hv'u, hv', hpost', rfl⟩
        · simp [hblk]
  | pto cs =>
    simp only [V] at hv
    obtain ⟨b, us, et, fp', hhdr, hg, hcs, rfl⟩ := hv
    cases k with
    | succ k => simp [PV.elem] at he
    | zero =>
      simp only [PV.elem, Option.some.injEq] at he
      subst he
      have hev : V w R σ (.agg cs) (.agg us.toArray) fp' := by simp only [V]; exact ⟨us, rfl, hcs⟩
      obtain ⟨p1, p2, p3, g1, g0, g2, hvc, hp1, hp2, rfl, hold, hput⟩ := key _ _ hev (by intro u hu; exact hcs.one u (by simpa [Value.cells] using hu)) (by simp)
      have hus0 : us = p1 ++ p2 ++ p3 := by simpa [Value.cells] using hvc
      subst hus0
      have hblk : blkOf h.hdr = some b := by rw [hhdr]; rfl
      refine ⟨b, _, et, 0, 0, g1, g0, g2, p2, hblk, hg, .inl ⟨rfl, rfl⟩, by simp [hp1, hp2], hp2, by simp, hold, ?_, by simp, ?_⟩
      · intro j hj
        simp only [Nat.zero_mul, Nat.zero_add, List.getElem?_toArray]
        rw [← hp1, List.append_assoc, List.getElem?_append_right (by omega), Nat.add_sub_cancel_left, List.getElem?_append_left (by omega)]
      · intro w' R' σ' cs' us' f' hR hσ hw hwf hg' hcs' hl hcase
        obtain ⟨v', hv'c, hv'1, hv'u, hv'⟩ := hput hR hσ hw (fun b hb => hwf b (by simp at hb ⊢; rcases hb with hb | hb <;> simp [hb])) hcs' hl hcase
        have hus : us'.length = p2.length := by rw [hcs'.length, hl, hp2]
        simp only [PV.put, PV.elem, PV.reElem, PV.setElem, V] at hv' ⊢
        obtain ⟨us2, rfl, hv'⟩ := hv'
        have hus2 : us2 = p1 ++ us' ++ p3 := by simpa [Value.cells] using hv'c
        subst hus2
        refine ⟨b, p1 ++ us' ++ p3, et, g1 ++ f' ++ g2, hhdr, ?_, hv', by simp⟩
        rw [hg']
        simp only [Nat.zero_mul, Nat.zero_add, List.toList_toArray]
        rw [← hp1, putAt_mid _ _ _ _ hus]
  | pro cs => simp [PV.elem] at he
  | sl cs => simp [PV.elem] at he
  | mp it cs => simp [PV.elem] at he
  | _ => simp [RootTy] at ht
end focus
end Go.Proofs.YtmanllfmgghadaaGreatDoor.PVE
namespace Go.Proofs.YtmanllfmgghadaaGreatDoor.PVE
open PV
def zv : PV → Option Value
  | .int k n => some (.int k n)
  | .bool b => some (.bool b)
  | .str s => some (.string ⟨s.toArray⟩)
  | .slo _ [] => some (.slice none 0 0)
  | .lit v => if v.oneCell' then some v else none
  | _ => none
def DescOk (P : Program) (T : Nat → Option TyI) (t : Nat) : TyD → Prop
  | .int k => P.underlying t = some (.int k)
  | .bool => P.underlying t = some .bool
  | .str => P.underlying t = some .string
  | .slice e => P.underlying t = some (.slice e)
  | .ptr e => P.underlying t = some (.pointer e)
  | .struct fs => ∃ fds : Array Field, P.underlying t = some (.struct fds) ∧ fds.toList.map (fun f => (f.offset, f.type)) = fs ∧ ∀ f ∈ fds.toList, ∃ ti, P.info? f.type = some ti ∧ ti.size ≠ 0
  | .map k e => P.underlying t = some (.map k e)
  | .other => ∃ d, P.underlying t = some d ∧ (match d with | .struct _ | .array _ _ => False | _ => True)
def TyOk (P : Program) (T : Nat → Option TyI) : Prop := ∀ t i, T t = some i → DescOk P T t i.d ∧
  ∃ ti z, P.info? t = some ti ∧ ti.zero = some z ∧ ti.size = i.size ∧ ti.bytes = i.bytes ∧ z.cells.size = i.size ∧ 0 < i.size ∧ (isAggT i = true → ∃ us, z = .agg us) ∧ (isAggT i = false → z.oneCell' = true) ∧ i.zero.map zv = z.cells.toList.map some
theorem zv_V {w : World} {R : Nat → Prop} {σ : Nat → Option Hd} {c : PV} {u : Value} (h : zv c = some u) : V w R σ c u [] ∧ u.oneCell' = true ∧ c ≠ .undef := by
  cases c with
  | slo sz es =>
    cases es with
    | nil =>
      simp [zv] at h; subst h
      refine ⟨?_, rfl, by simp⟩
      simp only [V]
      exact ⟨[], [], ⟨by simp, .inl ⟨rfl, rfl⟩⟩, by simp [Es], rfl⟩
    | cons _ _ => simp [zv] at h
  | lit v =>
    simp only [zv] at h
    split at h
    · rename_i hv; simp at h; subst h; exact ⟨by simp [V, hv], hv, by simp⟩
    · cases h
  | _ => simp [zv] at h <;> subst h <;> simp [V, Value.oneCell']
theorem zv_Cs {w : World} {R : Nat → Prop} {σ : Nat → Option Hd} : ∀ {cs : List PV} {us : List Value}, cs.map zv = us.map some → Cs w R σ cs us [] ∧ ∀ c ∈ cs, c ≠ .undef
  | [], us, h => by simp at h; subst h; simp [Cs]
  | c :: cs, [], h => by simp at h
  | c :: cs, u :: us, h => by
    simp only [List.map_cons, List.cons.injEq] at h
    obtain ⟨h1, h2, h3⟩ := zv_V (w := w) (R := R) (σ := σ) h.1
    obtain ⟨h4, h5⟩ := zv_Cs (w := w) (R := R) (σ := σ) h.2
    refine ⟨?_, ?_⟩
    · simp only [Cs]; exact ⟨u, us, [], [], rfl, h2, h1, h4, rfl⟩
    · intro x hx; rcases List.mem_cons.1 hx with rfl | hx
      · exact h3
      · exact h5 x hx
section
variable {P : Program} {E : Env} {w0 : World} {R0 : Nat → Prop} {F0 : List Nat} {gh : Nat → Value} {n : Nat} {Fr : Nat → Prop} {R : Nat → Prop} {σ : Nat → Option Hd} {fps : Nat → List Nat} {st : St} {a : Act} {w : World} [Dm]
theorem leaf_V {v : Value} (hv : v.oneCell' = true) : V w R σ (leafPV v) v [] := by
  cases v with
  | slice A n c =>
    cases A with
    | none =>
      cases n with
      | zero =>
        cases c with
        | zero =>
          simp only [leafPV, V]
          exact ⟨[], [], ⟨by simp, .inl ⟨rfl, rfl⟩⟩, by simp [Es], rfl⟩
        | succ c => simp [leafPV, V, Value.oneCell']
      | succ n => simp [leafPV, V, Value.oneCell']
    | some A => simp [leafPV, V, Value.oneCell']
  | _ => simp_all [leafPV, V, Value.oneCell']
theorem leaf_Cs : ∀ {us : List Value}, us.all (·.oneCell') = true → Cs w R σ (us.map leafPV) us []
  | [], _ => by simp [Cs]
  | u :: us, h => by
    simp only [List.all_cons, Bool.and_eq_true] at h
    simp only [List.map_cons, Cs]
    exact ⟨u, us, [], [], rfl, h.1, leaf_V h.1, leaf_Cs h.2, rfl⟩
theorem const_V (v : Value) : V w R σ (constPV v) v [] := by
  cases v with
  | slice A n c =>
    cases A with
    | none =>
      cases n with
      | zero => cases c <;> simp [constPV, V, Value.oneCell']
      | succ n => simp [constPV, V, Value.oneCell']
    | some A => simp [constPV, V, Value.oneCell']
  | agg cs =>
    simp only [constPV]
    split
    · rename_i h; simp only [V]; exact ⟨cs.toList, by simp, leaf_Cs h⟩
    · simp [V]
  | _ => simp_all [constPV, V, Value.oneCell']
theorem ev_V (h : Rel w0 R0 F0 gh E.G n Fr R σ fps st a w) (x : Operand) : V w R σ (ev E st x) (a.eval x) [] := by
  cases x with
  | tmp t =>
    have := h.tm t
    unfold tmv at this
    simp only [ev]
    split
    · rename_i hlt; simp only [hlt, if_true] at this; exact this
    · simp [V]
  | const v => exact const_V v
  | global g =>
    simp only [ev, Act.eval]
    cases hg : E.G g with
    | none => simp [V]
    | some cs => exact V.mono (fun _ h => h) (fun _ _ h => by simp at h) (fun _ _ => rfl) _ _ _ (by simp) (h.gl g cs hg).1
  | func f => simp only [ev, Act.eval, V]; exact ⟨[], rfl, trivial, by simp [Ts]⟩
def Out (P : Program) (E : Env) (w0 : World) (R0 : Nat → Prop) (F0 : List Nat) (gh : Nat → Value) (n : Nat) (Fr : Nat → Prop) (st : St) (o : Oper) (a : Act) (w : World) (e : Eff) : Prop :=
  (∀ r, st.next ≤ r → r < e.nx → Fr r) → ∃ nx u w' R' σ' fps', (execOp a.eval o).run P w = .ok nx w' ∧ (nx = .value u ∨ (nx = .skip ∧ u = Go.undef)) ∧ Rel w0 R0 F0 gh E.G n (frA Fr st.next e.nx) R' σ' fps' (st.app o.dst e) (a.put o.dst u) w'
theorem out_plain {o : Oper} {v : PV} {u : Value} {p : Prop} {e : Eff} (h : Rel w0 R0 F0 gh E.G n Fr R σ fps st a w) (hd : dstOk n o.dst) (he : plainE st v = some (p, e)) (hv : V w R σ v u []) (hr : (execOp a.eval o).run P w = .ok (.value u) w) : Out P E w0 R0 F0 gh n Fr st o a w e := by
  simp only [plainE, Option.some.injEq, Prod.mk.injEq] at he
  obtain ⟨_, rfl⟩ := he
  exact fun _ => ⟨_, u, w, R, σ, fps, hr, .inl rfl, h.value hd hv⟩
theorem out_val {o : Oper} {v : PV} {u : Value} (h : Rel w0 R0 F0 gh E.G n Fr R σ fps st a w) (hd : dstOk n o.dst) (hv : V w R σ v u []) (hr : (execOp a.eval o).run P w = .ok (.value u) w) : Out P E w0 R0 F0 gh n Fr st o a w ⟨v, [], [], st.next⟩ :=
  fun _ => ⟨_, u, w, R, σ, fps, hr, .inl rfl, h.value hd hv⟩
def scalarT (P : Program) (t : Nat) : Option Nat := match P.underlying t with
  | some (.int _) => some 0
  | some .bool => some 1
  | some .string => some 2
  | _ => none
def flatF (P : Program) : List Field → Nat → Option (List Nat)
  | [], _ => some []
  | f :: fs, o => if f.name ≠ "_" ∧ f.offset = o then match scalarT P f.type, flatF P fs (o + 1) with
    | some k, some ks => some (k :: ks)
    | _, _ => none else none
def flatS (P : Program) (t : Nat) : Option (List Nat) := if P.stoodInHeld t = false ∧ P.eqGuardType P.depth t = false then match P.underlying t with
  | some (.struct fs) => flatF P fs.toList 0
  | _ => none else none
def SOk (P : Program) (S : Nat → Option (List Nat)) : Prop := ∀ t ks, S t = some ks → flatS P t = some ks
theorem run_part_scalar {t k : Nat} (ht : scalarT P t = some k) {cs : Array Value} {o : Nat} {v : Value} (hv : cs[o]? = some v) (w : World) : (part t cs o).run P w = .ok v w := by
  have hag : (isAgg t).run P w = .ok false w := by
    unfold scalarT at ht
    split at ht
    · rename_i k hu; simp [isAgg, run_underlying hu]
    · rename_i hu; simp [isAgg, run_underlying hu]
    · rename_i hu; simp [isAgg, run_underlying hu]
    · cases ht
  simp only [part, Sem.run_bind, hag, Result.andThen_ok, Bool.false_eq_true, if_false, hv, Sem.run_pure]
theorem beq_dec {α : Type} [BEq α] [LawfulBEq α] [DecidableEq α] (a b : α) : (a == b) = decide (a = b) := by by_cases h : a = b <;> simp [h]
theorem decide_toList (x y : List UInt8) : ((ByteArray.mk x.toArray).toList == (ByteArray.mk y.toArray).toList) = decide (x = y) := by
  rw [ByteArray.toList_mk, ByteArray.toList_mk]
  by_cases h : x = y <;> simp [h]
theorem eqFields_run (d : Nat) (xs ys : Array Value) : ∀ (fs : List Field) (o : Nat) (ks : List Nat) (cs ds : List PV) (r : Bool), flatF P fs o = some ks → Cs w R σ cs (xs.toList.drop o) [] → Cs w R σ ds (ys.toList.drop o) [] → eqCells ks cs ds = some r →
    (Op.eqFields (d + 1) xs ys fs).run P w = .ok r w
  | [], o, ks, cs, ds, r, hf, _, _, he => by
    simp only [flatF, Option.some.injEq] at hf
    subst hf
    cases cs <;> cases ds <;> simp [eqCells] at he
    subst he
    simp [Op.eqFields]
  | f :: fs, o, ks, cs, ds, r, hf, hx, hy, he => by
    simp only [flatF] at hf
    split at hf
    case isFalse => cases hf
    rename_i hno
    obtain ⟨hn, rfl⟩ := hno
    split at hf
    case h_2 => cases hf
    rename_i k ks' hk hks
    simp only [Option.some.injEq] at hf
    subst hf
    have key : ∀ (c e : PV) (cs ds : List PV) (r' : Bool) (b : Bool), Cs w R σ (c :: cs) (xs.toList.drop f.offset) [] → Cs w R σ (e :: ds) (ys.toList.drop f.offset) [] → eqCells ks' cs ds = some r' →
        (∀ u v, V w R σ c u [] → V w R σ e v [] → (Op.equalIn (d + 1) f.type u v).run P w = .ok b w) → r = (b && r') → (Op.eqFields (d + 1) xs ys (f :: fs)).run P w = .ok r w := by
      intro c e cs ds r' b hx hy hr' hb hr
      simp only [Cs] at hx hy
      obtain ⟨u, us, f1, f2, hxe, _, hu, hxs, hf12⟩ := hx
      obtain ⟨v, vs, g1, g2, hye, _, hv, hys, hg12⟩ := hy
      obtain ⟨rfl, rfl⟩ : f1 = [] ∧ f2 = [] := by simpa using hf12.symm
      obtain ⟨rfl, rfl⟩ : g1 = [] ∧ g2 = [] := by simpa using hg12.symm
      have hx0 : xs[f.offset]? = some u := by
        have := congrArg (·[0]?) hxe
        simpa using this
      have hy0 : ys[f.offset]? = some v := by
        have := congrArg (·[0]?) hye
        simpa using this
      have hxt : us = xs.toList.drop (f.offset + 1) := by
        have := congrArg List.tail hxe
        simpa using this.symm
      have hyt : vs = ys.toList.drop (f.offset + 1) := by
        have := congrArg List.tail hye
        simpa using this.symm
      subst hxt hyt
      have ih := eqFields_run d xs ys fs (f.offset + 1) ks' cs ds r' hks hxs hys hr'
      simp only [Op.eqFields, hn, ne_eq, not_false_eq_true, if_true, Sem.run_bind, run_part_scalar hk hx0, run_part_scalar hk hy0, Result.andThen_ok, hb u v hu hv]
      cases b with
      | true => simp only [Bool.not_true, Bool.false_eq_true, if_false]; rw [ih, hr]; simp
      | false => simp [hr]
    have hmap : ∀ (x : Option Bool) (g : Bool → Bool), x.map g = some r → ∃ r', x = some r' ∧ r = g r' := by
      intro x g h
      cases x with
      | none => cases h
      | some r' => simp at h; exact ⟨r', rfl, h.symm⟩
    unfold scalarT at hk
    split at hk
    · rename_i k0 hut
      obtain rfl : 0 = k := by simpa using hk
      cases cs with
      | nil => simp [eqCells] at he
      | cons c cs => cases ds with
        | nil => cases c <;> simp [eqCells] at he
        | cons e ds =>
          cases c <;> cases e <;> simp only [eqCells] at he <;> try (cases he; done)
          split at he
          case isFalse => cases he
          rename_i hkk
          subst hkk
          obtain ⟨r', h1, h2⟩ := hmap _ _ he
          refine key _ _ _ _ r' _ hx hy h1 (fun u v hu hv => ?_) h2
          simp only [V] at hu hv
          rw [hu.1, hv.1, run_equalIn_int w d f.type _ _ _ _ hut, beq_dec]
    · rename_i hut
      obtain rfl : 1 = k := by simpa using hk
      cases cs with
      | nil => simp [eqCells] at he
      | cons c cs => cases ds with
        | nil => cases c <;> simp [eqCells] at he
        | cons e ds =>
          cases c <;> cases e <;> simp only [eqCells] at he <;> try (cases he; done)
          obtain ⟨r', h1, h2⟩ := hmap _ _ he
          refine key _ _ _ _ r' _ hx hy h1 (fun u v hu hv => ?_) h2
          simp only [V] at hu hv
          rw [hu.1, hv.1, run_equalIn_bool w d f.type _ _ hut]
    · rename_i hut
      obtain rfl : 2 = k := by simpa using hk
      cases cs with
      | nil => simp [eqCells] at he
      | cons c cs => cases ds with
        | nil => cases c <;> simp [eqCells] at he
        | cons e ds =>
          cases c <;> cases e <;> simp only [eqCells] at he <;> try (cases he; done)
          obtain ⟨r', h1, h2⟩ := hmap _ _ he
          refine key _ _ _ _ r' _ hx hy h1 (fun u v hu hv => ?_) h2
          simp only [V] at hu hv
          rw [hu.1, hv.1, run_equalIn_string w d f.type _ _ hut, decide_toList]
    · cases hk
theorem bin_sound (hT : TyOk P E.T) (hS : SOk P E.S) {t : Nat} {op : BinOp} {x y : PV} {u v : Value} {p : Prop} {r : PV} {xo yo : Operand} (he : binE E t op x y = some (p, r)) (hp : p) (hx : V w R σ x u []) (hy : V w R σ y v []) :
    ∃ z, (do eqGuard op t xo yo u v; binOp op t u v : Sem Value).run P w = .ok z w ∧ V w R σ r z [] := by
  by_cases hagg : ∃ a b, x = .agg a ∧ y = .agg b
  · obtain ⟨cs, ds, rfl, rfl⟩ := hagg
    simp only [binE] at he
    split at he
    case h_2 => cases he
    rename_i ks hks
    have hfl := hS t ks hks
    unfold flatS at hfl
    split at hfl
    case isFalse => cases hfl
    rename_i hcond
    split at hfl
    case h_2 => cases hfl
    rename_i fs hut
    simp only [V] at hx hy
    obtain ⟨xs, rfl, hxc⟩ := hx
    obtain ⟨ys, rfl, hyc⟩ := hy
    have hfo : P.fieldsOf t = fs := by simp [Program.fieldsOf, hut]
    cases hq : eqCells ks cs ds with
    | none => simp [aggBin, hq] at he
    | some b =>
      have hrun : (Op.equalIn 10000 t (.agg xs.toArray) (.agg ys.toArray)).run P w = .ok b w := by
        rw [run_equalIn_agg w 9999 t _ _ (by rw [hfo]; exact hut) hcond.1, hfo]
        exact eqFields_run 9998 _ _ fs.toList 0 ks cs ds b hfl (by simpa using hxc) (by simpa using hyc) hq
      cases op <;> simp only [aggBin, hq, Option.some.injEq, Prod.mk.injEq, reduceCtorEq] at he <;> obtain ⟨rfl, rfl⟩ := he
      · exact ⟨.bool b, by simp only [Sem.run_bind, run_eqGuard_agg w _ t xo yo _ _ hcond.2, Result.andThen_ok, run_eql_struct, hrun], by simp [V]⟩
      · exact ⟨.bool (!b), by simp only [Sem.run_bind, run_eqGuard_agg w _ t xo yo _ _ hcond.2, Result.andThen_ok, run_neq_struct, hrun], by simp [V]⟩
  have hagg' : ∀ a b, x = .agg a → y = .agg b → False := fun a b h1 h2 => hagg ⟨a, b, h1, h2⟩
  clear hagg
  cases x <;> cases y <;> simp only [binE] at he <;> try (first | (cases he; done) | (exact (hagg' _ _ rfl rfl).elim))
  · -- bools
    rename_i a b
    simp only [V] at hx hy
    obtain ⟨rfl, _⟩ := hx
    obtain ⟨rfl, _⟩ := hy
    split at he
    · rename_i sz by_ ze hTt
      have ht : P.underlying t = some .bool := (hT t _ hTt).1
      cases op <;> simp only [Option.some.injEq, Prod.mk.injEq, reduceCtorEq] at he
      · obtain ⟨_, rfl⟩ := he
        exact ⟨.bool (a == b), by simp [eqGuard_at_bool, run_eql_bool w t a b ht], by simp [V]⟩
      · obtain ⟨_, rfl⟩ := he
        exact ⟨.bool (!(a == b)), by simp [eqGuard_at_bool, run_neq_bool w t a b ht], by simp [V]⟩
    · cases he
  · -- whole numbers
    rename_i k a k' b
    simp only [V] at hx hy
    obtain ⟨rfl, _⟩ := hx
    obtain ⟨rfl, _⟩ := hy
    split at he
    · rename_i hk
      subst hk
      cases op <;> simp only [intBin, Option.some.injEq, Prod.mk.injEq, reduceCtorEq] at he <;> obtain ⟨rfl, rfl⟩ := he
      · exact ⟨.int k (k.wrap (a + b)), by simp [eqGuard_at_int, binOp_add, Op.intArith], by simp [V]⟩
      · exact ⟨.int k (k.wrap (a - b)), by simp [eqGuard_at_int, binOp_sub, Op.intArith], by simp [V]⟩
      · exact ⟨.int k (k.wrap (a * b)), by simp [eqGuard_at_int, binOp_mul, Op.intArith], by simp [V]⟩
      · exact ⟨.int k (k.wrap (a.tdiv b)), by simp [eqGuard_at_int, binOp_quo, Op.intDiv, hp], by simp [V]⟩
      · exact ⟨.int k (a.tmod b), by simp [eqGuard_at_int, binOp_rem, Op.intDiv, hp], by simp [V]⟩
      · exact ⟨.int k (bits .and k a b), by simp [eqGuard_at_int, binOp_and, intBits_and], by simp [V]⟩
      · exact ⟨.int k (bits .or k a b), by simp [eqGuard_at_int, binOp_or, intBits_or], by simp [V]⟩
      · exact ⟨.int k (bits .xor k a b), by simp [eqGuard_at_int, binOp_xor, intBits_xor], by simp [V]⟩
      · exact ⟨.bool (a == b), by simp [eqGuard_at_int, binOp_eql], by simp [V, beq_dec]⟩
      · exact ⟨.bool (a != b), by simp [eqGuard_at_int, binOp_neq], by simp [V, bne, beq_dec]⟩
      · exact ⟨.bool (decide (a < b)), by simp [eqGuard_at_int, binOp_lss], by simp [V]⟩
      · exact ⟨.bool (decide (a ≤ b)), by simp [eqGuard_at_int, binOp_leq], by simp [V]⟩
      · exact ⟨.bool (decide (b < a)), by simp [eqGuard_at_int, binOp_gtr], by simp [V]⟩
      · exact ⟨.bool (decide (b ≤ a)), by simp [eqGuard_at_int, binOp_geq], by simp [V]⟩
    · cases he
  · -- strings
    rename_i a b
    simp only [V] at hx hy
    obtain ⟨rfl, _⟩ := hx
    obtain ⟨rfl, _⟩ := hy
    have hbin : ∀ op, (do eqGuard op t xo yo (.string ⟨a.toArray⟩) (.string ⟨b.toArray⟩); binOp op t (.string ⟨a.toArray⟩) (.string ⟨b.toArray⟩) : Sem Value).run P w = (binOp op t (.string ⟨a.toArray⟩) (.string ⟨b.toArray⟩)).run P w := by
      intro op; simp [eqGuard_at_string]
    have hso : ∀ op, binOp op t (.string ⟨a.toArray⟩) (.string ⟨b.toArray⟩) = Op.stringOp op ⟨a.toArray⟩ ⟨b.toArray⟩ := by
      intro op; cases op <;> simp [binOp]
    rw [hbin, hso]
    cases op <;> simp only [strBin, Option.some.injEq, Prod.mk.injEq, reduceCtorEq] at he <;> obtain ⟨rfl, rfl⟩ := he
    · refine ⟨_, run_string_add_sum w _ _ (by simpa [ByteArray.size] using hp), ?_⟩
      simp only [V]
      refine ⟨?_, trivial⟩
      congr 1
    all_goals (refine ⟨_, by simp only [Op.stringOp]; rfl, ?_⟩; simp only [V, decide_toList, ByteArray.toList_mk]; try simp [beq_dec])
end
end Go.Proofs.YtmanllfmgghadaaGreatDoor.PVE
