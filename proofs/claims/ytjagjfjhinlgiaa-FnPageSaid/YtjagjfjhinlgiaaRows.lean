/-
  No cell of these rows narrows 'for every input' (looked for: loops, veiled, ifaces, maps, wideKeys, modest, calm, conditions, laid).
  DERIVED. THE GIVEN ROWS OF THIS SEAT. 2 by the template 'for every input the law returns true; each argument reads behind the call as it read before'; 0 by the template 'total and deterministic' (their statements: YtjagjfjhinlgiaaTotals.lean).
  GIVEN WITH THE SEED: the statements are not yours to turn. If you find one false, say at which input.
  Laid BY PROGRAM, IN A SANDBOX (cutbox-rows.mjs): the forced cells as the released guide's own fill.sh prints them over the translation 3aa18fd4551da720… (all of the seat's roots in one cut). By AI agents, Wed Nov 11 2026. No macro, syntax, notation, axiom, sorry.
-/
import Derived.Test.YtjagjfjhinlgiaaChecked
import GoSem.Claim
import GoSem.ClaimJoined
import GoSem.ClaimMapViews
import Derived.JoinedTies
import Derived.KernelRfl
namespace Go.Proofs.Ytjagjfjhinlgiaa
/- THE CELL 'sum', in the pinned program and in every row, IS THE sha256 OF THE DUMP (.gsa) THAT YtjagjfjhinlgiaaProg.lean LOADS. Nothing in Lean hashes anything: it is a label: what it is worth is what the hold of that sum in a sandbox is worth. -/
noncomputable def Try.pinned : Pinned := { name := "ytjagjfjhinlgiaa", sum := "3aa18fd4551da720427534e20c579c948b6186b08d363662ed91b756b7c97b16", checked := Try.checked }
namespace Rows
def none {H : Type} : Left H := { results := [], args := [] }

/-- 'laws.FnPage': WHATEVER THE INPUT: true; the input reads as it did. -/
def fnPageSpec : ChangeSpec := { name := "fnPage", fn := fun _ => fun
  | [d] => { results := [.lit (.bool true)], args := [d] }
  | _ => none }
def fnPageRow : OpenClaim := { program := "ytjagjfjhinlgiaa", sum := "3aa18fd4551da720427534e20c579c948b6186b08d363662ed91b756b7c97b16", func := "loop.example/spandrel/laws.FnPage", spec := "fnPage", recurses := true, apart := false }
def FnPageSaid : Prop := fnPageRow.holds Try.pinned (OpenSpec.ofChange fnPageSpec)

/-- ITS FALSE NEIGHBOUR: 'it returns false'. Refute it at one input. -/
def fnPageWrong : ChangeSpec := { name := "fnPage", fn := fun _ => fun
  | [d] => { results := [.lit (.bool false)], args := [d] }
  | _ => none }
def FnPageWrongFalsely : Prop := fnPageRow.holds Try.pinned (OpenSpec.ofChange fnPageWrong)

/-- 'laws.FnPageAll': WHATEVER THE INPUT: true; the input reads as it did. -/
def fnPageAllSpec : ChangeSpec := { name := "fnPageAll", fn := fun _ => fun
  | [d] => { results := [.lit (.bool true)], args := [d] }
  | _ => none }
def fnPageAllRow : OpenClaim := { program := "ytjagjfjhinlgiaa", sum := "3aa18fd4551da720427534e20c579c948b6186b08d363662ed91b756b7c97b16", func := "loop.example/spandrel/laws.FnPageAll", spec := "fnPageAll", recurses := true, apart := false }
def FnPageAllSaid : Prop := fnPageAllRow.holds Try.pinned (OpenSpec.ofChange fnPageAllSpec)

/-- ITS FALSE NEIGHBOUR: 'it returns false'. Refute it at one input. -/
def fnPageAllWrong : ChangeSpec := { name := "fnPageAll", fn := fun _ => fun
  | [d] => { results := [.lit (.bool false)], args := [d] }
  | _ => none }
def FnPageAllWrongFalsely : Prop := fnPageAllRow.holds Try.pinned (OpenSpec.ofChange fnPageAllWrong)

/- THE SECOND FORM. 'bulk': how many values and letters a reading holds, each counted each time it is reached (what is shared counts as often as it is met; a slice's spare places count too). A statement '..UptoSaid' is the law's where the arguments, and the package variables that the reading takes, are together of bulk at most 1048576: NARROWER than '..Said'. Prove '..Said' where nothing that the law and all that it calls make is longer than what came in: it says more and counts as full. Else prove '..UptoSaid'. A law counts once. -/
mutual
def uptoBulk {H : Type} : DataW H → Nat
  | .lit (.string bytes) => bytes.length + 1
  | .lit _ => 1
  | .nil => 1
  | .ptr d => uptoBulk d + 1
  | .slice elems spare => uptoBulkAll elems + uptoBulkAll spare + 1
  | .agg parts => uptoBulkAll parts + 1
  | .iface _ d => uptoBulk d + 1
  | .map entries => uptoBulkEntries entries + 1
  | .held _ => 1
def uptoBulkAll {H : Type} : List (DataW H) → Nat
  | [] => 0
  | d :: r => uptoBulk d + uptoBulkAll r
def uptoBulkEntries {H : Type} : List (Lit × DataW H) → Nat
  | [] => 0
  | x :: r => uptoBulkEntry x + uptoBulkEntries r
def uptoBulkEntry {H : Type} : Lit × DataW H → Nat
  | (.string bytes, d) => bytes.length + uptoBulk d + 1
  | (_, d) => uptoBulk d + 1
 end
def uptoSmall : (H : Type) → List (DataW H) → Bool := fun _ ds => decide (uptoBulkAll ds ≤ 1048576)
def OpenSpec.upto (s : _root_.Go.ChangeSpec) : _root_.Go.OpenSpec := { _root_.Go.OpenSpec.ofChange s with cond := some uptoSmall }

/-- 'laws.FnPage', WHERE WHAT IT READS IS OF BULK AT MOST 1048576: true; the input reads as it did. -/
def fnPageUptoRow : OpenClaim := { program := "ytjagjfjhinlgiaa", sum := "3aa18fd4551da720427534e20c579c948b6186b08d363662ed91b756b7c97b16", func := "loop.example/spandrel/laws.FnPage", spec := "fnPage", recurses := true, apart := false, narrowed := true }
def FnPageUptoSaid : Prop := fnPageUptoRow.holds Try.pinned (OpenSpec.upto fnPageSpec)

/-- 'laws.FnPageAll', WHERE WHAT IT READS IS OF BULK AT MOST 1048576: true; the input reads as it did. -/
def fnPageAllUptoRow : OpenClaim := { program := "ytjagjfjhinlgiaa", sum := "3aa18fd4551da720427534e20c579c948b6186b08d363662ed91b756b7c97b16", func := "loop.example/spandrel/laws.FnPageAll", spec := "fnPageAll", recurses := true, apart := false, narrowed := true }
def FnPageAllUptoSaid : Prop := fnPageAllUptoRow.holds Try.pinned (OpenSpec.upto fnPageAllSpec)

end Rows
end Go.Proofs.Ytjagjfjhinlgiaa
