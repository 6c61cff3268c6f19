/-
  DERIVED. GIVEN WITH THE SEED: THE CARDS: each row of YtfphffeonmjfcaaDoorRows.lean that lists a variable, with what it lists TIED to the program's text (the seventh form; the later family's looks); each row that meets fmt, with fmt's text TOLD by the authors' own Lean function (tested against real Go, not proved from fmt's source: count such statements apart). THE CARD IS WHAT COUNTS. Prove the row's statement (the work); the ties are given (YtfphffeonmjfcaaDoorTie.lean); close each card by the builder's one call (the guide's Derived/Test/ToyasCard.lean, 'card_holds'). Laid BY PROGRAM, IN A SANDBOX (cutbox-door.mjs). By AI agents, Wed Nov 11 2026. No macro, syntax, notation, axiom, sorry.
-/
import Derived.Test.YtfphffeonmjfcaaDoorRows
import GoSem.ClaimSeven
namespace Go.Proofs.YtfphffeonmjfcaaDoor
namespace Rows

/-- THE TIED CARD OF 'laws.FnQueryFits'. -/
def fnQueryFitsCard : Claim7 := { stood := { row := fnQueryFitsRow, standIns := [], harness := (true, "74b1a47686edb2729986f058c815c14e705f2dc7ffb75700853c4202f1a37f87"), looks := false }, kinds := [], alts := [], laidByText := true, laidKinds := [.data, .widerDeep, .pinned], laidTests := true, laidLooks := .later }
def FnQueryFitsCardSaid : Prop := Claim7.holds Tryd.pinned (.plain (OpenSpec.ofChange fnQueryFitsSpec)) fnQueryFitsCard

/-- THE TIED CARD OF 'laws.FnExactQueryTurn'. -/
def fnExactQueryTurnCard : Claim7 := { stood := { row := fnExactQueryTurnRow, standIns := [], harness := (true, "74b1a47686edb2729986f058c815c14e705f2dc7ffb75700853c4202f1a37f87"), looks := false }, kinds := [], alts := [], laidByText := true, laidKinds := [.data, .widerDeep, .pinned], laidTests := true, laidLooks := .later }
def FnExactQueryTurnCardSaid : Prop := Claim7.holds Tryd.pinned (.plain (OpenSpec.ofChange fnExactQueryTurnSpec)) fnExactQueryTurnCard

/-- THE TIED CARD OF 'laws.FnExactQueryFits'. -/
def fnExactQueryFitsCard : Claim7 := { stood := { row := fnExactQueryFitsRow, standIns := [], harness := (true, "74b1a47686edb2729986f058c815c14e705f2dc7ffb75700853c4202f1a37f87"), looks := false }, kinds := [], alts := [], laidByText := true, laidKinds := [.data, .widerDeep, .pinned], laidTests := true, laidLooks := .later }
def FnExactQueryFitsCardSaid : Prop := Claim7.holds Tryd.pinned (.plain (OpenSpec.ofChange fnExactQueryFitsSpec)) fnExactQueryFitsCard

/-- THE TIED CARD OF 'laws.FnExactQueryPut'. -/
def fnExactQueryPutCard : Claim7 := { stood := { row := fnExactQueryPutRow, standIns := [], harness := (true, "74b1a47686edb2729986f058c815c14e705f2dc7ffb75700853c4202f1a37f87"), looks := false }, kinds := [], alts := [], laidByText := true, laidKinds := [.data, .data, .data, .data, .widerDeep, .pinned], laidTests := true, laidLooks := .later }
def FnExactQueryPutCardSaid : Prop := Claim7.holds Tryd.pinned (.plain (OpenSpec.ofChange fnExactQueryPutSpec)) fnExactQueryPutCard

/-- THE TIED CARD OF 'laws.FnQueryTerms'. -/
def fnQueryTermsCard : Claim7 := { stood := { row := fnQueryTermsRow, standIns := [], harness := (true, "74b1a47686edb2729986f058c815c14e705f2dc7ffb75700853c4202f1a37f87"), looks := false }, kinds := [], alts := [], laidByText := true, laidKinds := [.data, .widerDeep, .pinned], laidTests := true, laidLooks := .later }
def FnQueryTermsCardSaid : Prop := Claim7.holds Tryd.pinned (.plain (OpenSpec.ofChange fnQueryTermsSpec)) fnQueryTermsCard

/-- THE TIED CARD OF 'laws.FnExactQueryTerms'. -/
def fnExactQueryTermsCard : Claim7 := { stood := { row := fnExactQueryTermsRow, standIns := [], harness := (true, "74b1a47686edb2729986f058c815c14e705f2dc7ffb75700853c4202f1a37f87"), looks := false }, kinds := [], alts := [], laidByText := true, laidKinds := [.data, .widerDeep, .pinned], laidTests := true, laidLooks := .later }
def FnExactQueryTermsCardSaid : Prop := Claim7.holds Tryd.pinned (.plain (OpenSpec.ofChange fnExactQueryTermsSpec)) fnExactQueryTermsCard

/-- THE SECOND FORM's CARD OF 'laws.FnQueryFits'. -/
def fnQueryFitsUptoCard : Claim7 := { stood := { row := fnQueryFitsUptoRow, standIns := [], harness := (true, "74b1a47686edb2729986f058c815c14e705f2dc7ffb75700853c4202f1a37f87"), looks := false }, kinds := [], alts := [], laidByText := true, laidKinds := [.data, .widerDeep, .pinned], laidTests := true, laidLooks := .later }
def FnQueryFitsUptoCardSaid : Prop := Claim7.holds Tryd.pinned (.plain (OpenSpec.upto fnQueryFitsSpec)) fnQueryFitsUptoCard

/-- THE SECOND FORM's CARD OF 'laws.FnExactQueryTurn'. -/
def fnExactQueryTurnUptoCard : Claim7 := { stood := { row := fnExactQueryTurnUptoRow, standIns := [], harness := (true, "74b1a47686edb2729986f058c815c14e705f2dc7ffb75700853c4202f1a37f87"), looks := false }, kinds := [], alts := [], laidByText := true, laidKinds := [.data, .widerDeep, .pinned], laidTests := true, laidLooks := .later }
def FnExactQueryTurnUptoCardSaid : Prop := Claim7.holds Tryd.pinned (.plain (OpenSpec.upto fnExactQueryTurnSpec)) fnExactQueryTurnUptoCard

/-- THE SECOND FORM's CARD OF 'laws.FnExactQueryFits'. -/
def fnExactQueryFitsUptoCard : Claim7 := { stood := { row := fnExactQueryFitsUptoRow, standIns := [], harness := (true, "74b1a47686edb2729986f058c815c14e705f2dc7ffb75700853c4202f1a37f87"), looks := false }, kinds := [], alts := [], laidByText := true, laidKinds := [.data, .widerDeep, .pinned], laidTests := true, laidLooks := .later }
def FnExactQueryFitsUptoCardSaid : Prop := Claim7.holds Tryd.pinned (.plain (OpenSpec.upto fnExactQueryFitsSpec)) fnExactQueryFitsUptoCard

/-- THE SECOND FORM's CARD OF 'laws.FnExactQueryPut'. -/
def fnExactQueryPutUptoCard : Claim7 := { stood := { row := fnExactQueryPutUptoRow, standIns := [], harness := (true, "74b1a47686edb2729986f058c815c14e705f2dc7ffb75700853c4202f1a37f87"), looks := false }, kinds := [], alts := [], laidByText := true, laidKinds := [.data, .data, .data, .data, .widerDeep, .pinned], laidTests := true, laidLooks := .later }
def FnExactQueryPutUptoCardSaid : Prop := Claim7.holds Tryd.pinned (.plain (OpenSpec.upto fnExactQueryPutSpec)) fnExactQueryPutUptoCard

/-- THE SECOND FORM's CARD OF 'laws.FnQueryTerms'. -/
def fnQueryTermsUptoCard : Claim7 := { stood := { row := fnQueryTermsUptoRow, standIns := [], harness := (true, "74b1a47686edb2729986f058c815c14e705f2dc7ffb75700853c4202f1a37f87"), looks := false }, kinds := [], alts := [], laidByText := true, laidKinds := [.data, .widerDeep, .pinned], laidTests := true, laidLooks := .later }
def FnQueryTermsUptoCardSaid : Prop := Claim7.holds Tryd.pinned (.plain (OpenSpec.upto fnQueryTermsSpec)) fnQueryTermsUptoCard

/-- THE SECOND FORM's CARD OF 'laws.FnExactQueryTerms'. -/
def fnExactQueryTermsUptoCard : Claim7 := { stood := { row := fnExactQueryTermsUptoRow, standIns := [], harness := (true, "74b1a47686edb2729986f058c815c14e705f2dc7ffb75700853c4202f1a37f87"), looks := false }, kinds := [], alts := [], laidByText := true, laidKinds := [.data, .widerDeep, .pinned], laidTests := true, laidLooks := .later }
def FnExactQueryTermsUptoCardSaid : Prop := Claim7.holds Tryd.pinned (.plain (OpenSpec.upto fnExactQueryTermsSpec)) fnExactQueryTermsUptoCard
end Rows
end Go.Proofs.YtfphffeonmjfcaaDoor
