/-
  DERIVED. GIVEN WITH THE SEED: THE CARDS: each row of YtdebinbhbdlbaaaGreatDoorRows.lean that lists a variable, with what it lists TIED to the program's text (the seventh form; the later family's looks); each row that meets fmt, with fmt's text TOLD by the authors' own Lean function (tested against real Go, not proved from fmt's source: count such statements apart). THE CARD IS WHAT COUNTS. Prove the row's statement (the work); the ties are given (YtdebinbhbdlbaaaGreatDoorTie.lean); close each card by the builder's one call (the guide's Derived/Test/ToyasCard.lean, 'card_holds'). Laid BY PROGRAM, IN A SANDBOX (cutbox-door.mjs). By AI agents, Wed Nov 11 2026. No macro, syntax, notation, axiom, sorry.
-/
import Derived.Test.YtdebinbhbdlbaaaGreatDoorRows
import GoSem.ClaimSeven
namespace Go.Proofs.YtdebinbhbdlbaaaGreatDoor
namespace Rows

/-- THE TIED CARD OF 'laws.FnFindMore'. -/
def fnFindMoreCard : Claim7 := { stood := { row := fnFindMoreRow, standIns := [], harness := (true, "e89fa6efa3077c45739f9be0d8304c45b2fa4e1e48015b00a033e8c99ee1caad"), looks := true }, kinds := [], alts := [], laidByText := true, laidKinds := [.data, .data, .data, .data, .sentinel, .sentinel, .widerDeep, .pinned], laidTests := true, laidLooks := .later }
def FnFindMoreCardSaid : Prop := Claim7.holds Tryz.pinned (.plain (OpenSpec.ofChange fnFindMoreSpec)) fnFindMoreCard

/-- THE TIED CARD OF 'laws.FnFindLess'. -/
def fnFindLessCard : Claim7 := { stood := { row := fnFindLessRow, standIns := [], harness := (true, "e89fa6efa3077c45739f9be0d8304c45b2fa4e1e48015b00a033e8c99ee1caad"), looks := true }, kinds := [], alts := [], laidByText := true, laidKinds := [.data, .data, .data, .data, .sentinel, .sentinel, .widerDeep, .pinned], laidTests := true, laidLooks := .later }
def FnFindLessCardSaid : Prop := Claim7.holds Tryz.pinned (.plain (OpenSpec.ofChange fnFindLessSpec)) fnFindLessCard

/-- THE TIED CARD OF 'laws.FnIndexOrder'. -/
def fnIndexOrderCard : Claim7 := { stood := { row := fnIndexOrderRow, standIns := [], harness := (true, "e89fa6efa3077c45739f9be0d8304c45b2fa4e1e48015b00a033e8c99ee1caad"), looks := true }, kinds := [], alts := [], laidByText := true, laidKinds := [.data, .data, .data, .data, .sentinel, .sentinel, .widerDeep, .pinned], laidTests := true, laidLooks := .later }
def FnIndexOrderCardSaid : Prop := Claim7.holds Tryz.pinned (.plain (OpenSpec.ofChange fnIndexOrderSpec)) fnIndexOrderCard

/-- THE TIED CARD OF 'laws.FnFindNot'. -/
def fnFindNotCard : Claim7 := { stood := { row := fnFindNotRow, standIns := [], harness := (true, "e89fa6efa3077c45739f9be0d8304c45b2fa4e1e48015b00a033e8c99ee1caad"), looks := true }, kinds := [], alts := [], laidByText := true, laidKinds := [.data, .data, .data, .data, .sentinel, .sentinel, .widerDeep, .pinned], laidTests := true, laidLooks := .later }
def FnFindNotCardSaid : Prop := Claim7.holds Tryz.pinned (.plain (OpenSpec.ofChange fnFindNotSpec)) fnFindNotCard

/-- THE TIED CARD OF 'laws.FnFindSets'. -/
def fnFindSetsCard : Claim7 := { stood := { row := fnFindSetsRow, standIns := [], harness := (true, "e89fa6efa3077c45739f9be0d8304c45b2fa4e1e48015b00a033e8c99ee1caad"), looks := true }, kinds := [], alts := [], laidByText := true, laidKinds := [.data, .data, .data, .data, .sentinel, .sentinel, .widerDeep, .pinned], laidTests := true, laidLooks := .later }
def FnFindSetsCardSaid : Prop := Claim7.holds Tryz.pinned (.plain (OpenSpec.ofChange fnFindSetsSpec)) fnFindSetsCard

/-- THE TIED CARD OF 'laws.FnFindField'. -/
def fnFindFieldCard : Claim7 := { stood := { row := fnFindFieldRow, standIns := [], harness := (true, "e89fa6efa3077c45739f9be0d8304c45b2fa4e1e48015b00a033e8c99ee1caad"), looks := true }, kinds := [], alts := [], laidByText := true, laidKinds := [.data, .data, .data, .data, .sentinel, .sentinel, .widerDeep, .pinned], laidTests := true, laidLooks := .later }
def FnFindFieldCardSaid : Prop := Claim7.holds Tryz.pinned (.plain (OpenSpec.ofChange fnFindFieldSpec)) fnFindFieldCard

/-- THE TIED CARD OF 'laws.FnFindPhrase'. -/
def fnFindPhraseCard : Claim7 := { stood := { row := fnFindPhraseRow, standIns := [], harness := (true, "e89fa6efa3077c45739f9be0d8304c45b2fa4e1e48015b00a033e8c99ee1caad"), looks := true }, kinds := [], alts := [], laidByText := true, laidKinds := [.data, .data, .data, .data, .sentinel, .sentinel, .widerDeep, .pinned], laidTests := true, laidLooks := .later }
def FnFindPhraseCardSaid : Prop := Claim7.holds Tryz.pinned (.plain (OpenSpec.ofChange fnFindPhraseSpec)) fnFindPhraseCard

/-- THE TIED CARD OF 'laws.FnFindBegin'. -/
def fnFindBeginCard : Claim7 := { stood := { row := fnFindBeginRow, standIns := [], harness := (true, "e89fa6efa3077c45739f9be0d8304c45b2fa4e1e48015b00a033e8c99ee1caad"), looks := true }, kinds := [], alts := [], laidByText := true, laidKinds := [.data, .data, .data, .data, .sentinel, .sentinel, .widerDeep, .pinned], laidTests := true, laidLooks := .later }
def FnFindBeginCardSaid : Prop := Claim7.holds Tryz.pinned (.plain (OpenSpec.ofChange fnFindBeginSpec)) fnFindBeginCard

/-- THE TIED CARD OF 'laws.FnFindWord'. -/
def fnFindWordCard : Claim7 := { stood := { row := fnFindWordRow, standIns := [], harness := (true, "e89fa6efa3077c45739f9be0d8304c45b2fa4e1e48015b00a033e8c99ee1caad"), looks := true }, kinds := [], alts := [], laidByText := true, laidKinds := [.data, .data, .data, .data, .sentinel, .sentinel, .widerDeep, .pinned], laidTests := true, laidLooks := .later }
def FnFindWordCardSaid : Prop := Claim7.holds Tryz.pinned (.plain (OpenSpec.ofChange fnFindWordSpec)) fnFindWordCard

/-- THE SECOND FORM's CARD OF 'laws.FnFindMore'. -/
def fnFindMoreUptoCard : Claim7 := { stood := { row := fnFindMoreUptoRow, standIns := [], harness := (true, "e89fa6efa3077c45739f9be0d8304c45b2fa4e1e48015b00a033e8c99ee1caad"), looks := true }, kinds := [], alts := [], laidByText := true, laidKinds := [.data, .data, .data, .data, .sentinel, .sentinel, .widerDeep, .pinned], laidTests := true, laidLooks := .later }
def FnFindMoreUptoCardSaid : Prop := Claim7.holds Tryz.pinned (.plain (OpenSpec.upto fnFindMoreSpec)) fnFindMoreUptoCard

/-- THE SECOND FORM's CARD OF 'laws.FnFindLess'. -/
def fnFindLessUptoCard : Claim7 := { stood := { row := fnFindLessUptoRow, standIns := [], harness := (true, "e89fa6efa3077c45739f9be0d8304c45b2fa4e1e48015b00a033e8c99ee1caad"), looks := true }, kinds := [], alts := [], laidByText := true, laidKinds := [.data, .data, .data, .data, .sentinel, .sentinel, .widerDeep, .pinned], laidTests := true, laidLooks := .later }
def FnFindLessUptoCardSaid : Prop := Claim7.holds Tryz.pinned (.plain (OpenSpec.upto fnFindLessSpec)) fnFindLessUptoCard

/-- THE SECOND FORM's CARD OF 'laws.FnIndexOrder'. -/
def fnIndexOrderUptoCard : Claim7 := { stood := { row := fnIndexOrderUptoRow, standIns := [], harness := (true, "e89fa6efa3077c45739f9be0d8304c45b2fa4e1e48015b00a033e8c99ee1caad"), looks := true }, kinds := [], alts := [], laidByText := true, laidKinds := [.data, .data, .data, .data, .sentinel, .sentinel, .widerDeep, .pinned], laidTests := true, laidLooks := .later }
def FnIndexOrderUptoCardSaid : Prop := Claim7.holds Tryz.pinned (.plain (OpenSpec.upto fnIndexOrderSpec)) fnIndexOrderUptoCard

/-- THE SECOND FORM's CARD OF 'laws.FnFindNot'. -/
def fnFindNotUptoCard : Claim7 := { stood := { row := fnFindNotUptoRow, standIns := [], harness := (true, "e89fa6efa3077c45739f9be0d8304c45b2fa4e1e48015b00a033e8c99ee1caad"), looks := true }, kinds := [], alts := [], laidByText := true, laidKinds := [.data, .data, .data, .data, .sentinel, .sentinel, .widerDeep, .pinned], laidTests := true, laidLooks := .later }
def FnFindNotUptoCardSaid : Prop := Claim7.holds Tryz.pinned (.plain (OpenSpec.upto fnFindNotSpec)) fnFindNotUptoCard

/-- THE SECOND FORM's CARD OF 'laws.FnFindSets'. -/
def fnFindSetsUptoCard : Claim7 := { stood := { row := fnFindSetsUptoRow, standIns := [], harness := (true, "e89fa6efa3077c45739f9be0d8304c45b2fa4e1e48015b00a033e8c99ee1caad"), looks := true }, kinds := [], alts := [], laidByText := true, laidKinds := [.data, .data, .data, .data, .sentinel, .sentinel, .widerDeep, .pinned], laidTests := true, laidLooks := .later }
def FnFindSetsUptoCardSaid : Prop := Claim7.holds Tryz.pinned (.plain (OpenSpec.upto fnFindSetsSpec)) fnFindSetsUptoCard

/-- THE SECOND FORM's CARD OF 'laws.FnFindField'. -/
def fnFindFieldUptoCard : Claim7 := { stood := { row := fnFindFieldUptoRow, standIns := [], harness := (true, "e89fa6efa3077c45739f9be0d8304c45b2fa4e1e48015b00a033e8c99ee1caad"), looks := true }, kinds := [], alts := [], laidByText := true, laidKinds := [.data, .data, .data, .data, .sentinel, .sentinel, .widerDeep, .pinned], laidTests := true, laidLooks := .later }
def FnFindFieldUptoCardSaid : Prop := Claim7.holds Tryz.pinned (.plain (OpenSpec.upto fnFindFieldSpec)) fnFindFieldUptoCard

/-- THE SECOND FORM's CARD OF 'laws.FnFindPhrase'. -/
def fnFindPhraseUptoCard : Claim7 := { stood := { row := fnFindPhraseUptoRow, standIns := [], harness := (true, "e89fa6efa3077c45739f9be0d8304c45b2fa4e1e48015b00a033e8c99ee1caad"), looks := true }, kinds := [], alts := [], laidByText := true, laidKinds := [.data, .data, .data, .data, .sentinel, .sentinel, .widerDeep, .pinned], laidTests := true, laidLooks := .later }
def FnFindPhraseUptoCardSaid : Prop := Claim7.holds Tryz.pinned (.plain (OpenSpec.upto fnFindPhraseSpec)) fnFindPhraseUptoCard

/-- THE SECOND FORM's CARD OF 'laws.FnFindBegin'. -/
def fnFindBeginUptoCard : Claim7 := { stood := { row := fnFindBeginUptoRow, standIns := [], harness := (true, "e89fa6efa3077c45739f9be0d8304c45b2fa4e1e48015b00a033e8c99ee1caad"), looks := true }, kinds := [], alts := [], laidByText := true, laidKinds := [.data, .data, .data, .data, .sentinel, .sentinel, .widerDeep, .pinned], laidTests := true, laidLooks := .later }
def FnFindBeginUptoCardSaid : Prop := Claim7.holds Tryz.pinned (.plain (OpenSpec.upto fnFindBeginSpec)) fnFindBeginUptoCard

/-- THE SECOND FORM's CARD OF 'laws.FnFindWord'. -/
def fnFindWordUptoCard : Claim7 := { stood := { row := fnFindWordUptoRow, standIns := [], harness := (true, "e89fa6efa3077c45739f9be0d8304c45b2fa4e1e48015b00a033e8c99ee1caad"), looks := true }, kinds := [], alts := [], laidByText := true, laidKinds := [.data, .data, .data, .data, .sentinel, .sentinel, .widerDeep, .pinned], laidTests := true, laidLooks := .later }
def FnFindWordUptoCardSaid : Prop := Claim7.holds Tryz.pinned (.plain (OpenSpec.upto fnFindWordSpec)) fnFindWordUptoCard
end Rows
end Go.Proofs.YtdebinbhbdlbaaaGreatDoor
