/- Turned questions, copies, marks. -/
import Derived.Test.YtjagjfjhinlgiaaGreatDoorT7
set_option linter.unusedVariables false
set_option linter.unusedSimpArgs false
set_option maxRecDepth 100000
namespace Go.Proofs.YtjagjfjhinlgiaaGreatDoor.PVE
open PV Query
@[go_sem] theorem Query.snocv (l : List Query) (a lo hi : Int) (b c : Str) (m : List Query) : l.map pv ++ [.agg [.int .i64 a, .str b, .str c, .int .i64 lo, .int .i64 hi, .sl (m.map pv)]] = (l ++ [Query.mk a b c lo hi m]).map pv := by simp [pv_eq, Query.kind, Query.field, Query.text, Query.low, Query.high, Query.parts]
@[go_sem] theorem Query.kind_mk (k lo hi : Int) (f t : Str) (p : List Query) : (Query.mk k f t lo hi p).kind = k := rfl
@[go_sem] theorem Query.field_mk (k lo hi : Int) (f t : Str) (p : List Query) : (Query.mk k f t lo hi p).field = f := rfl
@[go_sem] theorem Query.text_mk (k lo hi : Int) (f t : Str) (p : List Query) : (Query.mk k f t lo hi p).text = t := rfl
@[go_sem] theorem Query.low_mk (k lo hi : Int) (f t : Str) (p : List Query) : (Query.mk k f t lo hi p).low = lo := rfl
@[go_sem] theorem Query.high_mk (k lo hi : Int) (f t : Str) (p : List Query) : (Query.mk k f t lo hi p).high = hi := rfl
@[go_sem] theorem Query.parts_mk (k lo hi : Int) (f t : Str) (p : List Query) : (Query.mk k f t lo hi p).parts = p := rfl
mutual
/-- The denial of a question. -/
def turnQ : Query → Query
  | .mk k f t lo hi p => if k = 9 then p.headD zeroQ else if k = 7 ∨ k = 8 then .mk (15 - k) [] [] 0 0 (turnL p) else .mk 9 [] [] 0 0 [.mk k f t lo hi p]
def turnL : List Query → List Query
  | [] => []
  | q :: l => turnQ q :: turnL l
end
theorem turnL_map : ∀ l, turnL l = l.map turnQ
  | [] => rfl
  | q :: l => by rw [turnL, turnL_map l]; rfl
theorem turnQ_eq : ∀ q : Query, turnQ q = if q.kind = 9 then q.parts.headD zeroQ else if q.kind = 7 ∨ q.kind = 8 then .mk (15 - q.kind) [] [] 0 0 (q.parts.map turnQ) else .mk 9 [] [] 0 0 [q]
  | .mk k f t lo hi p => by rw [turnQ, turnL_map]; rfl
theorem nodeOk_nine {q : Query} (h : nodeOk q = true) (hk : q.kind = 9) : ∃ p, q.parts = [p] := by
  unfold nodeOk at h
  split at h
  · unfold leafOk at h
    simp [hk] at h
  · simp [hk] at h
    exact List.length_eq_one_iff.1 h.1.1.1.1
mutual
/-- How many questions. -/
def nodes : Query → Nat | .mk _ _ _ _ _ p => nodesL p
def nodesL : List Query → Nat
  | [] => 0
  | q :: l => nodes q + 1 + nodesL l
end
theorem nodes_eq : ∀ q : Query, nodes q = nodesL q.parts
  | .mk _ _ _ _ _ p => by rw [nodes]; rfl
theorem nodesL_app : ∀ (l m : List Query), nodesL (l ++ m) = nodesL l + nodesL m
  | [], m => by simp [nodesL]
  | q :: l, m => by rw [List.cons_append, nodesL, nodesL, nodesL_app l m]; omega
theorem zero_sm : zeroQ.Sm := ⟨_, by show 0 ≤ _; omega, by show 0 ≤ _; omega, by show 0 ≤ _; omega, fun p hp => by cases hp⟩
theorem turn_sm (q : Query) : q.Sm → (turnQ q).Sm := by
  refine Query.ind (P := fun q => q.Sm → (turnQ q).Sm) (fun q ih hq => ?_) q
  obtain ⟨_, hf, ht, hp, hs⟩ := id hq
  rw [turnQ_eq]
  split
  · cases h : q.parts with
    | nil => exact zero_sm
    | cons p l => exact hs p (by rw [h]; simp)
  · split
    · refine ⟨_, by show 0 ≤ _; omega, by show 0 ≤ _; omega, by rw [Query.parts_mk, List.length_map]; exact hp, fun p hp => ?_⟩
      rw [Query.parts_mk] at hp
      obtain ⟨y, hy, rfl⟩ := List.mem_map.1 hp
      exact ih y hy (hs y hy)
    · refine ⟨_, by show 0 ≤ _; omega, by show 0 ≤ _; omega, by show 1 ≤ _; omega, fun p hp => ?_⟩
      rw [Query.parts_mk] at hp
      obtain rfl : p = q := by simpa using hp
      exact hq
theorem nodesL_tot : ∀ l : List Query, (∀ q ∈ l, nodes q ≤ tot q) → nodesL l ≤ totL l
  | [], _ => Nat.le_refl _
  | q :: l, h => by
    have := nodesL_tot l fun p hp => h p (List.mem_cons_of_mem _ hp)
    have := h q (by simp)
    rw [nodesL, totL]; omega
theorem nodes_tot (q : Query) : nodes q ≤ tot q := by
  refine Query.ind (P := fun q => nodes q ≤ tot q) (fun q ih => ?_) q
  have := nodesL_tot q.parts ih
  rw [nodes_eq, tot_eq]; omega
theorem nodesL_turn : ∀ l : List Query, (∀ q ∈ l, nodes (turnQ q) ≤ 2 * nodes q + 1) → nodesL (l.map turnQ) ≤ 2 * nodesL l
  | [], _ => Nat.le_refl _
  | q :: l, h => by
    have := nodesL_turn l fun p hp => h p (List.mem_cons_of_mem _ hp)
    have := h q (by simp)
    rw [List.map_cons, nodesL, nodesL]; omega
theorem nodes_turn (q : Query) : nodes (turnQ q) ≤ 2 * nodes q + 1 := by
  refine Query.ind (P := fun q => nodes (turnQ q) ≤ 2 * nodes q + 1) (fun q ih => ?_) q
  have h := nodesL_turn q.parts ih
  have hq := nodes_eq q
  rw [turnQ_eq]
  split
  · cases h : q.parts with
    | nil => rw [List.headD_nil]; simp [zeroQ, nodes, nodesL]
    | cons p l => rw [h, nodesL] at hq; rw [List.headD_cons]; omega
  · split
    · rw [nodes_eq, Query.parts_mk]; omega
    · rw [nodes_eq, Query.parts_mk, nodesL, nodesL]; omega
/-- What QueryTurn answers. -/
def turnR (q : Query) : Query × Bool := if okQ 4 q = true ∧ okQ 4 (turnQ q) = true then (turnQ q, true) else (zeroQ, false)
end Go.Proofs.YtjagjfjhinlgiaaGreatDoor.PVE
