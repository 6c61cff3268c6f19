/-
  DERIVED. GIVEN WITH THE SEED: THE CARDS: each row of YtmanllfmgghadaaDoorRows.lean that lists a variable, with what it lists TIED to the program's text (the seventh form; the later family's looks); each row that meets fmt, with fmt's text TOLD by the authors' own Lean function (tested against real Go, not proved from fmt's source: count such statements apart). THE CARD IS WHAT COUNTS. Prove the row's statement (the work); the ties are given (YtmanllfmgghadaaDoorTie.lean); close each card by the builder's one call (the guide's Derived/Test/ToyasCard.lean, 'card_holds'). Laid BY PROGRAM, IN A SANDBOX (cutbox-door.mjs). By AI agents, Wed Nov 11 2026. No macro, syntax, notation, axiom, sorry.
-/
import Derived.Test.YtmanllfmgghadaaDoorRows
import GoSem.ClaimSeven
namespace Go.Proofs.YtmanllfmgghadaaDoor
namespace Rows

/-- THE TIED CARD OF 'laws.FnExactQueryPut'. -/
def fnExactQueryPutCard : Claim7 := { stood := { row := fnExactQueryPutRow, standIns := [], harness := (true, "0e86eeaee2fa094d16c8b25b82fdabe6e2888bf8d53b156e614bb986796dc7a2"), looks := false }, kinds := [], alts := [], laidByText := true, laidKinds := [.data, .data, .data, .data, .widerDeep, .pinned], laidTests := true, laidLooks := .later }
def FnExactQueryPutCardSaid : Prop := Claim7.holds Tryd.pinned (.plain (OpenSpec.ofChange fnExactQueryPutSpec)) fnExactQueryPutCard

/-- THE SECOND FORM's CARD OF 'laws.FnExactQueryPut'. -/
def fnExactQueryPutUptoCard : Claim7 := { stood := { row := fnExactQueryPutUptoRow, standIns := [], harness := (true, "0e86eeaee2fa094d16c8b25b82fdabe6e2888bf8d53b156e614bb986796dc7a2"), looks := false }, kinds := [], alts := [], laidByText := true, laidKinds := [.data, .data, .data, .data, .widerDeep, .pinned], laidTests := true, laidLooks := .later }
def FnExactQueryPutUptoCardSaid : Prop := Claim7.holds Tryd.pinned (.plain (OpenSpec.upto fnExactQueryPutSpec)) fnExactQueryPutUptoCard
end Rows
end Go.Proofs.YtmanllfmgghadaaDoor
