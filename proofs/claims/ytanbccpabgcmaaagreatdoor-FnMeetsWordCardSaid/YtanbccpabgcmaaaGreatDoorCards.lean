/-
  DERIVED. GIVEN WITH THE SEED: THE CARDS: each row of YtanbccpabgcmaaaGreatDoorRows.lean that lists a variable, with what it lists TIED to the program's text (the seventh form; the later family's looks); each row that meets fmt, with fmt's text TOLD by the authors' own Lean function (tested against real Go, not proved from fmt's source: count such statements apart). THE CARD IS WHAT COUNTS. Prove the row's statement (the work); the ties are given (YtanbccpabgcmaaaGreatDoorTie.lean); close each card by the builder's one call (the guide's Derived/Test/ToyasCard.lean, 'card_holds'). Laid BY PROGRAM, IN A SANDBOX (cutbox-door.mjs). By AI agents, Wed Nov 11 2026. No macro, syntax, notation, axiom, sorry.
-/
import Derived.Test.YtanbccpabgcmaaaGreatDoorRows
import GoSem.ClaimSeven
namespace Go.Proofs.YtanbccpabgcmaaaGreatDoor
namespace Rows

/-- THE TIED CARD OF 'laws.FnDocNum'. -/
def fnDocNumCard : Claim7 := { stood := { row := fnDocNumRow, standIns := [], harness := (true, "19fa9f2be258b18b401d3047f82394ba8f13160d5e05f70c86d47215322eb81b"), looks := true }, kinds := [], alts := [], laidByText := true, laidKinds := [.data, .data, .data, .data, .sentinel, .sentinel, .pinned], laidTests := true, laidLooks := .later }
def FnDocNumCardSaid : Prop := Claim7.holds Tryz.pinned (.plain (OpenSpec.ofChange fnDocNumSpec)) fnDocNumCard

/-- THE TIED CARD OF 'laws.FnDocTags'. -/
def fnDocTagsCard : Claim7 := { stood := { row := fnDocTagsRow, standIns := [], harness := (true, "19fa9f2be258b18b401d3047f82394ba8f13160d5e05f70c86d47215322eb81b"), looks := true }, kinds := [], alts := [], laidByText := true, laidKinds := [.data, .data, .data, .data, .sentinel, .sentinel, .pinned], laidTests := true, laidLooks := .later }
def FnDocTagsCardSaid : Prop := Claim7.holds Tryz.pinned (.plain (OpenSpec.ofChange fnDocTagsSpec)) fnDocTagsCard

/-- THE TIED CARD OF 'laws.FnMeetsWord'. -/
def fnMeetsWordCard : Claim7 := { stood := { row := fnMeetsWordRow, standIns := [], harness := (true, "19fa9f2be258b18b401d3047f82394ba8f13160d5e05f70c86d47215322eb81b"), looks := true }, kinds := [], alts := [], laidByText := true, laidKinds := [.data, .data, .data, .data, .sentinel, .sentinel, .widerDeep, .pinned], laidTests := true, laidLooks := .later }
def FnMeetsWordCardSaid : Prop := Claim7.holds Tryz.pinned (.plain (OpenSpec.ofChange fnMeetsWordSpec)) fnMeetsWordCard

/-- THE TIED CARD OF 'laws.FnDocMeets'. -/
def fnDocMeetsCard : Claim7 := { stood := { row := fnDocMeetsRow, standIns := [], harness := (true, "19fa9f2be258b18b401d3047f82394ba8f13160d5e05f70c86d47215322eb81b"), looks := true }, kinds := [], alts := [], laidByText := true, laidKinds := [.data, .data, .data, .data, .sentinel, .sentinel, .widerDeep, .pinned], laidTests := true, laidLooks := .later }
def FnDocMeetsCardSaid : Prop := Claim7.holds Tryz.pinned (.plain (OpenSpec.ofChange fnDocMeetsSpec)) fnDocMeetsCard

/-- THE TIED CARD OF 'laws.FnMeets'. -/
def fnMeetsCard : Claim7 := { stood := { row := fnMeetsRow, standIns := [], harness := (true, "19fa9f2be258b18b401d3047f82394ba8f13160d5e05f70c86d47215322eb81b"), looks := true }, kinds := [], alts := [], laidByText := true, laidKinds := [.data, .data, .data, .data, .sentinel, .sentinel, .widerDeep, .pinned], laidTests := true, laidLooks := .later }
def FnMeetsCardSaid : Prop := Claim7.holds Tryz.pinned (.plain (OpenSpec.ofChange fnMeetsSpec)) fnMeetsCard

/-- THE TIED CARD OF 'laws.FnMeetsTurn'. -/
def fnMeetsTurnCard : Claim7 := { stood := { row := fnMeetsTurnRow, standIns := [], harness := (true, "19fa9f2be258b18b401d3047f82394ba8f13160d5e05f70c86d47215322eb81b"), looks := true }, kinds := [], alts := [], laidByText := true, laidKinds := [.data, .data, .data, .data, .sentinel, .sentinel, .widerDeep, .pinned], laidTests := true, laidLooks := .later }
def FnMeetsTurnCardSaid : Prop := Claim7.holds Tryz.pinned (.plain (OpenSpec.ofChange fnMeetsTurnSpec)) fnMeetsTurnCard

/-- THE TIED CARD OF 'laws.FnQueryTwice'. -/
def fnQueryTwiceCard : Claim7 := { stood := { row := fnQueryTwiceRow, standIns := [], harness := (true, "19fa9f2be258b18b401d3047f82394ba8f13160d5e05f70c86d47215322eb81b"), looks := true }, kinds := [], alts := [], laidByText := true, laidKinds := [.data, .data, .data, .data, .sentinel, .sentinel, .widerDeep, .pinned], laidTests := true, laidLooks := .later }
def FnQueryTwiceCardSaid : Prop := Claim7.holds Tryz.pinned (.plain (OpenSpec.ofChange fnQueryTwiceSpec)) fnQueryTwiceCard

/-- THE TIED CARD OF 'laws.FnExactMeets'. -/
def fnExactMeetsCard : Claim7 := { stood := { row := fnExactMeetsRow, standIns := [], harness := (true, "19fa9f2be258b18b401d3047f82394ba8f13160d5e05f70c86d47215322eb81b"), looks := true }, kinds := [], alts := [], laidByText := true, laidKinds := [.data, .data, .data, .data, .sentinel, .sentinel, .widerDeep, .pinned], laidTests := true, laidLooks := .later }
def FnExactMeetsCardSaid : Prop := Claim7.holds Tryz.pinned (.plain (OpenSpec.ofChange fnExactMeetsSpec)) fnExactMeetsCard

/-- THE TIED CARD OF 'laws.FnDocLess'. -/
def fnDocLessCard : Claim7 := { stood := { row := fnDocLessRow, standIns := [], harness := (true, "19fa9f2be258b18b401d3047f82394ba8f13160d5e05f70c86d47215322eb81b"), looks := true }, kinds := [], alts := [], laidByText := true, laidKinds := [.data, .data, .data, .data, .sentinel, .sentinel, .widerDeep, .pinned], laidTests := true, laidLooks := .later }
def FnDocLessCardSaid : Prop := Claim7.holds Tryz.pinned (.plain (OpenSpec.ofChange fnDocLessSpec)) fnDocLessCard

/-- THE TIED CARD OF 'laws.FnQuery'. -/
def fnQueryCard : Claim7 := { stood := { row := fnQueryRow, standIns := [], harness := (true, "19fa9f2be258b18b401d3047f82394ba8f13160d5e05f70c86d47215322eb81b"), looks := true }, kinds := [], alts := [], laidByText := true, laidKinds := [.data, .data, .data, .data, .sentinel, .sentinel, .widerDeep, .pinned], laidTests := true, laidLooks := .later }
def FnQueryCardSaid : Prop := Claim7.holds Tryz.pinned (.plain (OpenSpec.ofChange fnQuerySpec)) fnQueryCard

/-- THE TIED CARD OF 'laws.FnExactQueryGet'. -/
def fnExactQueryGetCard : Claim7 := { stood := { row := fnExactQueryGetRow, standIns := [], harness := (true, "19fa9f2be258b18b401d3047f82394ba8f13160d5e05f70c86d47215322eb81b"), looks := true }, kinds := [], alts := [], laidByText := true, laidKinds := [.data, .data, .data, .data, .sentinel, .sentinel, .widerDeep, .pinned], laidTests := true, laidLooks := .later }
def FnExactQueryGetCardSaid : Prop := Claim7.holds Tryz.pinned (.plain (OpenSpec.ofChange fnExactQueryGetSpec)) fnExactQueryGetCard

/-- THE SECOND FORM's CARD OF 'laws.FnDocNum'. -/
def fnDocNumUptoCard : Claim7 := { stood := { row := fnDocNumUptoRow, standIns := [], harness := (true, "19fa9f2be258b18b401d3047f82394ba8f13160d5e05f70c86d47215322eb81b"), looks := true }, kinds := [], alts := [], laidByText := true, laidKinds := [.data, .data, .data, .data, .sentinel, .sentinel, .pinned], laidTests := true, laidLooks := .later }
def FnDocNumUptoCardSaid : Prop := Claim7.holds Tryz.pinned (.plain (OpenSpec.upto fnDocNumSpec)) fnDocNumUptoCard

/-- THE SECOND FORM's CARD OF 'laws.FnDocTags'. -/
def fnDocTagsUptoCard : Claim7 := { stood := { row := fnDocTagsUptoRow, standIns := [], harness := (true, "19fa9f2be258b18b401d3047f82394ba8f13160d5e05f70c86d47215322eb81b"), looks := true }, kinds := [], alts := [], laidByText := true, laidKinds := [.data, .data, .data, .data, .sentinel, .sentinel, .pinned], laidTests := true, laidLooks := .later }
def FnDocTagsUptoCardSaid : Prop := Claim7.holds Tryz.pinned (.plain (OpenSpec.upto fnDocTagsSpec)) fnDocTagsUptoCard

/-- THE SECOND FORM's CARD OF 'laws.FnMeetsWord'. -/
def fnMeetsWordUptoCard : Claim7 := { stood := { row := fnMeetsWordUptoRow, standIns := [], harness := (true, "19fa9f2be258b18b401d3047f82394ba8f13160d5e05f70c86d47215322eb81b"), looks := true }, kinds := [], alts := [], laidByText := true, laidKinds := [.data, .data, .data, .data, .sentinel, .sentinel, .widerDeep, .pinned], laidTests := true, laidLooks := .later }
def FnMeetsWordUptoCardSaid : Prop := Claim7.holds Tryz.pinned (.plain (OpenSpec.upto fnMeetsWordSpec)) fnMeetsWordUptoCard

/-- THE SECOND FORM's CARD OF 'laws.FnDocMeets'. -/
def fnDocMeetsUptoCard : Claim7 := { stood := { row := fnDocMeetsUptoRow, standIns := [], harness := (true, "19fa9f2be258b18b401d3047f82394ba8f13160d5e05f70c86d47215322eb81b"), looks := true }, kinds := [], alts := [], laidByText := true, laidKinds := [.data, .data, .data, .data, .sentinel, .sentinel, .widerDeep, .pinned], laidTests := true, laidLooks := .later }
def FnDocMeetsUptoCardSaid : Prop := Claim7.holds Tryz.pinned (.plain (OpenSpec.upto fnDocMeetsSpec)) fnDocMeetsUptoCard

/-- THE SECOND FORM's CARD OF 'laws.FnMeets'. -/
def fnMeetsUptoCard : Claim7 := { stood := { row := fnMeetsUptoRow, standIns := [], harness := (true, "19fa9f2be258b18b401d3047f82394ba8f13160d5e05f70c86d47215322eb81b"), looks := true }, kinds := [], alts := [], laidByText := true, laidKinds := [.data, .data, .data, .data, .sentinel, .sentinel, .widerDeep, .pinned], laidTests := true, laidLooks := .later }
def FnMeetsUptoCardSaid : Prop := Claim7.holds Tryz.pinned (.plain (OpenSpec.upto fnMeetsSpec)) fnMeetsUptoCard

/-- THE SECOND FORM's CARD OF 'laws.FnMeetsTurn'. -/
def fnMeetsTurnUptoCard : Claim7 := { stood := { row := fnMeetsTurnUptoRow, standIns := [], harness := (true, "19fa9f2be258b18b401d3047f82394ba8f13160d5e05f70c86d47215322eb81b"), looks := true }, kinds := [], alts := [], laidByText := true, laidKinds := [.data, .data, .data, .data, .sentinel, .sentinel, .widerDeep, .pinned], laidTests := true, laidLooks := .later }
def FnMeetsTurnUptoCardSaid : Prop := Claim7.holds Tryz.pinned (.plain (OpenSpec.upto fnMeetsTurnSpec)) fnMeetsTurnUptoCard

/-- THE SECOND FORM's CARD OF 'laws.FnQueryTwice'. -/
def fnQueryTwiceUptoCard : Claim7 := { stood := { row := fnQueryTwiceUptoRow, standIns := [], harness := (true, "19fa9f2be258b18b401d3047f82394ba8f13160d5e05f70c86d47215322eb81b"), looks := true }, kinds := [], alts := [], laidByText := true, laidKinds := [.data, .data, .data, .data, .sentinel, .sentinel, .widerDeep, .pinned], laidTests := true, laidLooks := .later }
def FnQueryTwiceUptoCardSaid : Prop := Claim7.holds Tryz.pinned (.plain (OpenSpec.upto fnQueryTwiceSpec)) fnQueryTwiceUptoCard

/-- THE SECOND FORM's CARD OF 'laws.FnExactMeets'. -/
def fnExactMeetsUptoCard : Claim7 := { stood := { row := fnExactMeetsUptoRow, standIns := [], harness := (true, "19fa9f2be258b18b401d3047f82394ba8f13160d5e05f70c86d47215322eb81b"), looks := true }, kinds := [], alts := [], laidByText := true, laidKinds := [.data, .data, .data, .data, .sentinel, .sentinel, .widerDeep, .pinned], laidTests := true, laidLooks := .later }
def FnExactMeetsUptoCardSaid : Prop := Claim7.holds Tryz.pinned (.plain (OpenSpec.upto fnExactMeetsSpec)) fnExactMeetsUptoCard

/-- THE SECOND FORM's CARD OF 'laws.FnDocLess'. -/
def fnDocLessUptoCard : Claim7 := { stood := { row := fnDocLessUptoRow, standIns := [], harness := (true, "19fa9f2be258b18b401d3047f82394ba8f13160d5e05f70c86d47215322eb81b"), looks := true }, kinds := [], alts := [], laidByText := true, laidKinds := [.data, .data, .data, .data, .sentinel, .sentinel, .widerDeep, .pinned], laidTests := true, laidLooks := .later }
def FnDocLessUptoCardSaid : Prop := Claim7.holds Tryz.pinned (.plain (OpenSpec.upto fnDocLessSpec)) fnDocLessUptoCard

/-- THE SECOND FORM's CARD OF 'laws.FnQuery'. -/
def fnQueryUptoCard : Claim7 := { stood := { row := fnQueryUptoRow, standIns := [], harness := (true, "19fa9f2be258b18b401d3047f82394ba8f13160d5e05f70c86d47215322eb81b"), looks := true }, kinds := [], alts := [], laidByText := true, laidKinds := [.data, .data, .data, .data, .sentinel, .sentinel, .widerDeep, .pinned], laidTests := true, laidLooks := .later }
def FnQueryUptoCardSaid : Prop := Claim7.holds Tryz.pinned (.plain (OpenSpec.upto fnQuerySpec)) fnQueryUptoCard

/-- THE SECOND FORM's CARD OF 'laws.FnExactQueryGet'. -/
def fnExactQueryGetUptoCard : Claim7 := { stood := { row := fnExactQueryGetUptoRow, standIns := [], harness := (true, "19fa9f2be258b18b401d3047f82394ba8f13160d5e05f70c86d47215322eb81b"), looks := true }, kinds := [], alts := [], laidByText := true, laidKinds := [.data, .data, .data, .data, .sentinel, .sentinel, .widerDeep, .pinned], laidTests := true, laidLooks := .later }
def FnExactQueryGetUptoCardSaid : Prop := Claim7.holds Tryz.pinned (.plain (OpenSpec.upto fnExactQueryGetSpec)) fnExactQueryGetUptoCard
end Rows
end Go.Proofs.YtanbccpabgcmaaaGreatDoor
