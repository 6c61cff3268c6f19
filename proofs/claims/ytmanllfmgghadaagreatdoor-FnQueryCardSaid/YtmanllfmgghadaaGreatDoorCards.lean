/-
  DERIVED. GIVEN WITH THE SEED: THE CARDS: each row of YtmanllfmgghadaaGreatDoorRows.lean that lists a variable, with what it lists TIED to the program's text (the seventh form; the later family's looks); each row that meets fmt, with fmt's text TOLD by the authors' own Lean function (tested against real Go, not proved from fmt's source: count such statements apart). THE CARD IS WHAT COUNTS. Prove the row's statement (the work); the ties are given (YtmanllfmgghadaaGreatDoorTie.lean); close each card by the builder's one call (the guide's Derived/Test/ToyasCard.lean, 'card_holds'). Laid BY PROGRAM, IN A SANDBOX (cutbox-door.mjs). By AI agents, Wed Nov 11 2026. No macro, syntax, notation, axiom, sorry.
-/
import Derived.Test.YtmanllfmgghadaaGreatDoorRows
import GoSem.ClaimSeven
namespace Go.Proofs.YtmanllfmgghadaaGreatDoor
namespace Rows

/-- THE TIED CARD OF 'laws.FnExactKeys'. -/
def fnExactKeysCard : Claim7 := { stood := { row := fnExactKeysRow, standIns := [], harness := (true, "e67406147162c5de102d3bc8b05367c8b1a8cd78763c74a979ea135414646e26"), looks := true }, kinds := [], alts := [], laidByText := true, laidKinds := [.data, .data, .data, .data, .sentinel, .sentinel, .widerDeep, .pinned], laidTests := true, laidLooks := .later }
def FnExactKeysCardSaid : Prop := Claim7.holds Tryz.pinned (.plain (OpenSpec.ofChange fnExactKeysSpec)) fnExactKeysCard

/-- THE TIED CARD OF 'laws.FnExactAlike'. -/
def fnExactAlikeCard : Claim7 := { stood := { row := fnExactAlikeRow, standIns := [], harness := (true, "e67406147162c5de102d3bc8b05367c8b1a8cd78763c74a979ea135414646e26"), looks := true }, kinds := [], alts := [], laidByText := true, laidKinds := [.data, .data, .data, .data, .sentinel, .sentinel, .widerDeep, .pinned], laidTests := true, laidLooks := .later }
def FnExactAlikeCardSaid : Prop := Claim7.holds Tryz.pinned (.plain (OpenSpec.ofChange fnExactAlikeSpec)) fnExactAlikeCard

/-- THE TIED CARD OF 'laws.FnExactFind'. -/
def fnExactFindCard : Claim7 := { stood := { row := fnExactFindRow, standIns := [], harness := (true, "e67406147162c5de102d3bc8b05367c8b1a8cd78763c74a979ea135414646e26"), looks := true }, kinds := [], alts := [], laidByText := true, laidKinds := [.data, .data, .data, .data, .sentinel, .sentinel, .widerDeep, .pinned], laidTests := true, laidLooks := .later }
def FnExactFindCardSaid : Prop := Claim7.holds Tryz.pinned (.plain (OpenSpec.ofChange fnExactFindSpec)) fnExactFindCard

/-- THE TIED CARD OF 'laws.FnExactIndexDrop'. -/
def fnExactIndexDropCard : Claim7 := { stood := { row := fnExactIndexDropRow, standIns := [], harness := (true, "e67406147162c5de102d3bc8b05367c8b1a8cd78763c74a979ea135414646e26"), looks := true }, kinds := [], alts := [], laidByText := true, laidKinds := [.data, .data, .data, .data, .sentinel, .sentinel, .widerDeep, .pinned], laidTests := true, laidLooks := .later }
def FnExactIndexDropCardSaid : Prop := Claim7.holds Tryz.pinned (.plain (OpenSpec.ofChange fnExactIndexDropSpec)) fnExactIndexDropCard

/-- THE TIED CARD OF 'laws.FnExactIndexPut'. -/
def fnExactIndexPutCard : Claim7 := { stood := { row := fnExactIndexPutRow, standIns := [], harness := (true, "e67406147162c5de102d3bc8b05367c8b1a8cd78763c74a979ea135414646e26"), looks := true }, kinds := [], alts := [], laidByText := true, laidKinds := [.data, .data, .data, .data, .sentinel, .sentinel, .widerDeep, .pinned], laidTests := true, laidLooks := .later }
def FnExactIndexPutCardSaid : Prop := Claim7.holds Tryz.pinned (.plain (OpenSpec.ofChange fnExactIndexPutSpec)) fnExactIndexPutCard

/-- THE TIED CARD OF 'laws.FnExactQueryGet'. -/
def fnExactQueryGetCard : Claim7 := { stood := { row := fnExactQueryGetRow, standIns := [], harness := (true, "e67406147162c5de102d3bc8b05367c8b1a8cd78763c74a979ea135414646e26"), looks := true }, kinds := [], alts := [], laidByText := true, laidKinds := [.data, .data, .data, .data, .sentinel, .sentinel, .widerDeep, .pinned], laidTests := true, laidLooks := .later }
def FnExactQueryGetCardSaid : Prop := Claim7.holds Tryz.pinned (.plain (OpenSpec.ofChange fnExactQueryGetSpec)) fnExactQueryGetCard

/-- THE TIED CARD OF 'laws.FnQuery'. -/
def fnQueryCard : Claim7 := { stood := { row := fnQueryRow, standIns := [], harness := (true, "e67406147162c5de102d3bc8b05367c8b1a8cd78763c74a979ea135414646e26"), looks := true }, kinds := [], alts := [], laidByText := true, laidKinds := [.data, .data, .data, .data, .sentinel, .sentinel, .widerDeep, .pinned], laidTests := true, laidLooks := .later }
def FnQueryCardSaid : Prop := Claim7.holds Tryz.pinned (.plain (OpenSpec.ofChange fnQuerySpec)) fnQueryCard

/-- THE SECOND FORM's CARD OF 'laws.FnExactKeys'. -/
def fnExactKeysUptoCard : Claim7 := { stood := { row := fnExactKeysUptoRow, standIns := [], harness := (true, "e67406147162c5de102d3bc8b05367c8b1a8cd78763c74a979ea135414646e26"), looks := true }, kinds := [], alts := [], laidByText := true, laidKinds := [.data, .data, .data, .data, .sentinel, .sentinel, .widerDeep, .pinned], laidTests := true, laidLooks := .later }
def FnExactKeysUptoCardSaid : Prop := Claim7.holds Tryz.pinned (.plain (OpenSpec.upto fnExactKeysSpec)) fnExactKeysUptoCard

/-- THE SECOND FORM's CARD OF 'laws.FnExactAlike'. -/
def fnExactAlikeUptoCard : Claim7 := { stood := { row := fnExactAlikeUptoRow, standIns := [], harness := (true, "e67406147162c5de102d3bc8b05367c8b1a8cd78763c74a979ea135414646e26"), looks := true }, kinds := [], alts := [], laidByText := true, laidKinds := [.data, .data, .data, .data, .sentinel, .sentinel, .widerDeep, .pinned], laidTests := true, laidLooks := .later }
def FnExactAlikeUptoCardSaid : Prop := Claim7.holds Tryz.pinned (.plain (OpenSpec.upto fnExactAlikeSpec)) fnExactAlikeUptoCard

/-- THE SECOND FORM's CARD OF 'laws.FnExactFind'. -/
def fnExactFindUptoCard : Claim7 := { stood := { row := fnExactFindUptoRow, standIns := [], harness := (true, "e67406147162c5de102d3bc8b05367c8b1a8cd78763c74a979ea135414646e26"), looks := true }, kinds := [], alts := [], laidByText := true, laidKinds := [.data, .data, .data, .data, .sentinel, .sentinel, .widerDeep, .pinned], laidTests := true, laidLooks := .later }
def FnExactFindUptoCardSaid : Prop := Claim7.holds Tryz.pinned (.plain (OpenSpec.upto fnExactFindSpec)) fnExactFindUptoCard

/-- THE SECOND FORM's CARD OF 'laws.FnExactIndexDrop'. -/
def fnExactIndexDropUptoCard : Claim7 := { stood := { row := fnExactIndexDropUptoRow, standIns := [], harness := (true, "e67406147162c5de102d3bc8b05367c8b1a8cd78763c74a979ea135414646e26"), looks := true }, kinds := [], alts := [], laidByText := true, laidKinds := [.data, .data, .data, .data, .sentinel, .sentinel, .widerDeep, .pinned], laidTests := true, laidLooks := .later }
def FnExactIndexDropUptoCardSaid : Prop := Claim7.holds Tryz.pinned (.plain (OpenSpec.upto fnExactIndexDropSpec)) fnExactIndexDropUptoCard

/-- THE SECOND FORM's CARD OF 'laws.FnExactIndexPut'. -/
def fnExactIndexPutUptoCard : Claim7 := { stood := { row := fnExactIndexPutUptoRow, standIns := [], harness := (true, "e67406147162c5de102d3bc8b05367c8b1a8cd78763c74a979ea135414646e26"), looks := true }, kinds := [], alts := [], laidByText := true, laidKinds := [.data, .data, .data, .data, .sentinel, .sentinel, .widerDeep, .pinned], laidTests := true, laidLooks := .later }
def FnExactIndexPutUptoCardSaid : Prop := Claim7.holds Tryz.pinned (.plain (OpenSpec.upto fnExactIndexPutSpec)) fnExactIndexPutUptoCard

/-- THE SECOND FORM's CARD OF 'laws.FnExactQueryGet'. -/
def fnExactQueryGetUptoCard : Claim7 := { stood := { row := fnExactQueryGetUptoRow, standIns := [], harness := (true, "e67406147162c5de102d3bc8b05367c8b1a8cd78763c74a979ea135414646e26"), looks := true }, kinds := [], alts := [], laidByText := true, laidKinds := [.data, .data, .data, .data, .sentinel, .sentinel, .widerDeep, .pinned], laidTests := true, laidLooks := .later }
def FnExactQueryGetUptoCardSaid : Prop := Claim7.holds Tryz.pinned (.plain (OpenSpec.upto fnExactQueryGetSpec)) fnExactQueryGetUptoCard

/-- THE SECOND FORM's CARD OF 'laws.FnQuery'. -/
def fnQueryUptoCard : Claim7 := { stood := { row := fnQueryUptoRow, standIns := [], harness := (true, "e67406147162c5de102d3bc8b05367c8b1a8cd78763c74a979ea135414646e26"), looks := true }, kinds := [], alts := [], laidByText := true, laidKinds := [.data, .data, .data, .data, .sentinel, .sentinel, .widerDeep, .pinned], laidTests := true, laidLooks := .later }
def FnQueryUptoCardSaid : Prop := Claim7.holds Tryz.pinned (.plain (OpenSpec.upto fnQuerySpec)) fnQueryUptoCard
end Rows
end Go.Proofs.YtmanllfmgghadaaGreatDoor
