/-
  DERIVED. GIVEN WITH THE SEED: THE CARDS: each row of YthmoogdjppcgbabDoorRows.lean that lists a variable, with what it lists TIED to the program's text (the seventh form; the later family's looks); each row that meets fmt, with fmt's text TOLD by the authors' own Lean function (tested against real Go, not proved from fmt's source: count such statements apart). THE CARD IS WHAT COUNTS. Prove the row's statement (the work); the ties are given (YthmoogdjppcgbabDoorTie.lean); close each card by the builder's one call (the guide's Derived/Test/ToyasCard.lean, 'card_holds'). Laid BY PROGRAM, IN A SANDBOX (cutbox-door.mjs). By AI agents, Wed Nov 11 2026. No macro, syntax, notation, axiom, sorry.
-/
import Derived.Test.YthmoogdjppcgbabDoorRows
import GoSem.ClaimSeven
namespace Go.Proofs.YthmoogdjppcgbabDoor
namespace Rows

/-- THE TIED CARD OF 'laws.FnExactQueryPut'. -/
def fnExactQueryPutCard : Claim7 := { stood := { row := fnExactQueryPutRow, standIns := [], harness := (true, "a3358ab9db22b60e7a73d0e9776ed1556c75adab401f916b0466fcb0e38e13d6"), looks := false }, kinds := [], alts := [], laidByText := true, laidKinds := [.data, .data, .data, .data, .widerDeep, .pinned], laidTests := true, laidLooks := .later }
def FnExactQueryPutCardSaid : Prop := Claim7.holds Tryd.pinned (.plain (OpenSpec.ofChange fnExactQueryPutSpec)) fnExactQueryPutCard

/-- THE TIED CARD OF 'laws.FnQueryTerms'. -/
def fnQueryTermsCard : Claim7 := { stood := { row := fnQueryTermsRow, standIns := [], harness := (true, "a3358ab9db22b60e7a73d0e9776ed1556c75adab401f916b0466fcb0e38e13d6"), looks := false }, kinds := [], alts := [], laidByText := true, laidKinds := [.data, .widerDeep, .pinned], laidTests := true, laidLooks := .later }
def FnQueryTermsCardSaid : Prop := Claim7.holds Tryd.pinned (.plain (OpenSpec.ofChange fnQueryTermsSpec)) fnQueryTermsCard

/-- THE TIED CARD OF 'laws.FnExactQueryTerms'. -/
def fnExactQueryTermsCard : Claim7 := { stood := { row := fnExactQueryTermsRow, standIns := [], harness := (true, "a3358ab9db22b60e7a73d0e9776ed1556c75adab401f916b0466fcb0e38e13d6"), looks := false }, kinds := [], alts := [], laidByText := true, laidKinds := [.data, .widerDeep, .pinned], laidTests := true, laidLooks := .later }
def FnExactQueryTermsCardSaid : Prop := Claim7.holds Tryd.pinned (.plain (OpenSpec.ofChange fnExactQueryTermsSpec)) fnExactQueryTermsCard

/-- THE SECOND FORM's CARD OF 'laws.FnExactQueryPut'. -/
def fnExactQueryPutUptoCard : Claim7 := { stood := { row := fnExactQueryPutUptoRow, standIns := [], harness := (true, "a3358ab9db22b60e7a73d0e9776ed1556c75adab401f916b0466fcb0e38e13d6"), looks := false }, kinds := [], alts := [], laidByText := true, laidKinds := [.data, .data, .data, .data, .widerDeep, .pinned], laidTests := true, laidLooks := .later }
def FnExactQueryPutUptoCardSaid : Prop := Claim7.holds Tryd.pinned (.plain (OpenSpec.upto fnExactQueryPutSpec)) fnExactQueryPutUptoCard

/-- THE SECOND FORM's CARD OF 'laws.FnQueryTerms'. -/
def fnQueryTermsUptoCard : Claim7 := { stood := { row := fnQueryTermsUptoRow, standIns := [], harness := (true, "a3358ab9db22b60e7a73d0e9776ed1556c75adab401f916b0466fcb0e38e13d6"), looks := false }, kinds := [], alts := [], laidByText := true, laidKinds := [.data, .widerDeep, .pinned], laidTests := true, laidLooks := .later }
def FnQueryTermsUptoCardSaid : Prop := Claim7.holds Tryd.pinned (.plain (OpenSpec.upto fnQueryTermsSpec)) fnQueryTermsUptoCard

/-- THE SECOND FORM's CARD OF 'laws.FnExactQueryTerms'. -/
def fnExactQueryTermsUptoCard : Claim7 := { stood := { row := fnExactQueryTermsUptoRow, standIns := [], harness := (true, "a3358ab9db22b60e7a73d0e9776ed1556c75adab401f916b0466fcb0e38e13d6"), looks := false }, kinds := [], alts := [], laidByText := true, laidKinds := [.data, .widerDeep, .pinned], laidTests := true, laidLooks := .later }
def FnExactQueryTermsUptoCardSaid : Prop := Claim7.holds Tryd.pinned (.plain (OpenSpec.upto fnExactQueryTermsSpec)) fnExactQueryTermsUptoCard
end Rows
end Go.Proofs.YthmoogdjppcgbabDoor
