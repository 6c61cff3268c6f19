/-
  DERIVED. GIVEN WITH THE SEED: THE CARDS: each row of YtanbccpabgcmaaaDoorRows.lean that lists a variable, with what it lists TIED to the program's text (the seventh form; the later family's looks); each row that meets fmt, with fmt's text TOLD by the authors' own Lean function (tested against real Go, not proved from fmt's source: count such statements apart). THE CARD IS WHAT COUNTS. Prove the row's statement (the work); the ties are given (YtanbccpabgcmaaaDoorTie.lean); close each card by the builder's one call (the guide's Derived/Test/ToyasCard.lean, 'card_holds'). Laid BY PROGRAM, IN A SANDBOX (cutbox-door.mjs). By AI agents, Wed Nov 11 2026. No macro, syntax, notation, axiom, sorry.
-/
import Derived.Test.YtanbccpabgcmaaaDoorRows
import GoSem.ClaimSeven
namespace Go.Proofs.YtanbccpabgcmaaaDoor
namespace Rows

/-- THE TIED CARD OF 'laws.FnExactDocNum'. -/
def fnExactDocNumCard : Claim7 := { stood := { row := fnExactDocNumRow, standIns := [], harness := (true, "a2c765e6571fe81d0edf1a8c00c107c20525bcbeb394bdedae6e8f1f847446bc"), looks := true }, kinds := [], alts := [], laidByText := true, laidKinds := [.data, .data, .data, .data, .sentinel, .sentinel, .pinned], laidTests := true, laidLooks := .later }
def FnExactDocNumCardSaid : Prop := Claim7.holds Tryd.pinned (.plain (OpenSpec.ofChange fnExactDocNumSpec)) fnExactDocNumCard

/-- THE SECOND FORM's CARD OF 'laws.FnExactDocNum'. -/
def fnExactDocNumUptoCard : Claim7 := { stood := { row := fnExactDocNumUptoRow, standIns := [], harness := (true, "a2c765e6571fe81d0edf1a8c00c107c20525bcbeb394bdedae6e8f1f847446bc"), looks := true }, kinds := [], alts := [], laidByText := true, laidKinds := [.data, .data, .data, .data, .sentinel, .sentinel, .pinned], laidTests := true, laidLooks := .later }
def FnExactDocNumUptoCardSaid : Prop := Claim7.holds Tryd.pinned (.plain (OpenSpec.upto fnExactDocNumSpec)) fnExactDocNumUptoCard
end Rows
end Go.Proofs.YtanbccpabgcmaaaDoor
