/-
  DERIVED. GIVEN WITH THE SEED: THE CARDS: each row of YtjagjfjhinlgiaaGreatDoorRows.lean that lists a variable, with what it lists TIED to the program's text (the seventh form; the later family's looks); each row that meets fmt, with fmt's text TOLD by the authors' own Lean function (tested against real Go, not proved from fmt's source: count such statements apart). THE CARD IS WHAT COUNTS. Prove the row's statement (the work); the ties are given (YtjagjfjhinlgiaaGreatDoorTie.lean); close each card by the builder's one call (the guide's Derived/Test/ToyasCard.lean, 'card_holds'). Laid BY PROGRAM, IN A SANDBOX (cutbox-door.mjs). By AI agents, Wed Nov 11 2026. No macro, syntax, notation, axiom, sorry.
-/
import Derived.Test.YtjagjfjhinlgiaaGreatDoorRows
import GoSem.ClaimSeven
namespace Go.Proofs.YtjagjfjhinlgiaaGreatDoor
namespace Rows

/-- THE TIED CARD OF 'laws.FnIndexNone'. -/
def fnIndexNoneCard : Claim7 := { stood := { row := fnIndexNoneRow, standIns := [], harness := (true, "7df757b1549e71c3294fc59d7139e6b88747a92e52ea0f83dcfa5f6be8419f67"), looks := true }, kinds := [], alts := [], laidByText := true, laidKinds := [.data, .data, .data, .data, .sentinel, .sentinel, .widerDeep, .pinned], laidTests := true, laidLooks := .later }
def FnIndexNoneCardSaid : Prop := Claim7.holds Tryz.pinned (.plain (OpenSpec.ofChange fnIndexNoneSpec)) fnIndexNoneCard

/-- THE TIED CARD OF 'laws.FnKeys'. -/
def fnKeysCard : Claim7 := { stood := { row := fnKeysRow, standIns := [], harness := (true, "7df757b1549e71c3294fc59d7139e6b88747a92e52ea0f83dcfa5f6be8419f67"), looks := true }, kinds := [], alts := [], laidByText := true, laidKinds := [.data, .data, .data, .data, .sentinel, .sentinel, .widerDeep, .pinned], laidTests := true, laidLooks := .later }
def FnKeysCardSaid : Prop := Claim7.holds Tryz.pinned (.plain (OpenSpec.ofChange fnKeysSpec)) fnKeysCard

/-- THE TIED CARD OF 'laws.FnAlike'. -/
def fnAlikeCard : Claim7 := { stood := { row := fnAlikeRow, standIns := [], harness := (true, "7df757b1549e71c3294fc59d7139e6b88747a92e52ea0f83dcfa5f6be8419f67"), looks := true }, kinds := [], alts := [], laidByText := true, laidKinds := [.data, .data, .data, .data, .sentinel, .sentinel, .widerDeep, .pinned], laidTests := true, laidLooks := .later }
def FnAlikeCardSaid : Prop := Claim7.holds Tryz.pinned (.plain (OpenSpec.ofChange fnAlikeSpec)) fnAlikeCard

/-- THE TIED CARD OF 'laws.FnIndexTwice'. -/
def fnIndexTwiceCard : Claim7 := { stood := { row := fnIndexTwiceRow, standIns := [], harness := (true, "7df757b1549e71c3294fc59d7139e6b88747a92e52ea0f83dcfa5f6be8419f67"), looks := true }, kinds := [], alts := [], laidByText := true, laidKinds := [.data, .data, .data, .data, .sentinel, .sentinel, .widerDeep, .pinned], laidTests := true, laidLooks := .later }
def FnIndexTwiceCardSaid : Prop := Claim7.holds Tryz.pinned (.plain (OpenSpec.ofChange fnIndexTwiceSpec)) fnIndexTwiceCard

/-- THE TIED CARD OF 'laws.FnIndexDrop'. -/
def fnIndexDropCard : Claim7 := { stood := { row := fnIndexDropRow, standIns := [], harness := (true, "7df757b1549e71c3294fc59d7139e6b88747a92e52ea0f83dcfa5f6be8419f67"), looks := true }, kinds := [], alts := [], laidByText := true, laidKinds := [.data, .data, .data, .data, .sentinel, .sentinel, .widerDeep, .pinned], laidTests := true, laidLooks := .later }
def FnIndexDropCardSaid : Prop := Claim7.holds Tryz.pinned (.plain (OpenSpec.ofChange fnIndexDropSpec)) fnIndexDropCard

/-- THE TIED CARD OF 'laws.FnIndexPut'. -/
def fnIndexPutCard : Claim7 := { stood := { row := fnIndexPutRow, standIns := [], harness := (true, "7df757b1549e71c3294fc59d7139e6b88747a92e52ea0f83dcfa5f6be8419f67"), looks := true }, kinds := [], alts := [], laidByText := true, laidKinds := [.data, .data, .data, .data, .sentinel, .sentinel, .widerDeep, .pinned], laidTests := true, laidLooks := .later }
def FnIndexPutCardSaid : Prop := Claim7.holds Tryz.pinned (.plain (OpenSpec.ofChange fnIndexPutSpec)) fnIndexPutCard

/-- THE TIED CARD OF 'laws.FnIndexBack'. -/
def fnIndexBackCard : Claim7 := { stood := { row := fnIndexBackRow, standIns := [], harness := (true, "7df757b1549e71c3294fc59d7139e6b88747a92e52ea0f83dcfa5f6be8419f67"), looks := true }, kinds := [], alts := [], laidByText := true, laidKinds := [.data, .data, .data, .data, .sentinel, .sentinel, .widerDeep, .pinned], laidTests := true, laidLooks := .later }
def FnIndexBackCardSaid : Prop := Claim7.holds Tryz.pinned (.plain (OpenSpec.ofChange fnIndexBackSpec)) fnIndexBackCard

/-- THE TIED CARD OF 'laws.FnFindAll'. -/
def fnFindAllCard : Claim7 := { stood := { row := fnFindAllRow, standIns := [], harness := (true, "7df757b1549e71c3294fc59d7139e6b88747a92e52ea0f83dcfa5f6be8419f67"), looks := true }, kinds := [], alts := [], laidByText := true, laidKinds := [.data, .data, .data, .data, .sentinel, .sentinel, .widerDeep, .pinned], laidTests := true, laidLooks := .later }
def FnFindAllCardSaid : Prop := Claim7.holds Tryz.pinned (.plain (OpenSpec.ofChange fnFindAllSpec)) fnFindAllCard

/-- THE TIED CARD OF 'laws.FnKeysAll'. -/
def fnKeysAllCard : Claim7 := { stood := { row := fnKeysAllRow, standIns := [], harness := (true, "7df757b1549e71c3294fc59d7139e6b88747a92e52ea0f83dcfa5f6be8419f67"), looks := true }, kinds := [], alts := [], laidByText := true, laidKinds := [.data, .data, .data, .data, .sentinel, .sentinel, .widerDeep, .pinned], laidTests := true, laidLooks := .later }
def FnKeysAllCardSaid : Prop := Claim7.holds Tryz.pinned (.plain (OpenSpec.ofChange fnKeysAllSpec)) fnKeysAllCard

/-- THE TIED CARD OF 'laws.FnFind'. -/
def fnFindCard : Claim7 := { stood := { row := fnFindRow, standIns := [], harness := (true, "7df757b1549e71c3294fc59d7139e6b88747a92e52ea0f83dcfa5f6be8419f67"), looks := true }, kinds := [], alts := [], laidByText := true, laidKinds := [.data, .data, .data, .data, .sentinel, .sentinel, .widerDeep, .pinned], laidTests := true, laidLooks := .later }
def FnFindCardSaid : Prop := Claim7.holds Tryz.pinned (.plain (OpenSpec.ofChange fnFindSpec)) fnFindCard

/-- THE SECOND FORM's CARD OF 'laws.FnIndexNone'. -/
def fnIndexNoneUptoCard : Claim7 := { stood := { row := fnIndexNoneUptoRow, standIns := [], harness := (true, "7df757b1549e71c3294fc59d7139e6b88747a92e52ea0f83dcfa5f6be8419f67"), looks := true }, kinds := [], alts := [], laidByText := true, laidKinds := [.data, .data, .data, .data, .sentinel, .sentinel, .widerDeep, .pinned], laidTests := true, laidLooks := .later }
def FnIndexNoneUptoCardSaid : Prop := Claim7.holds Tryz.pinned (.plain (OpenSpec.upto fnIndexNoneSpec)) fnIndexNoneUptoCard

/-- THE SECOND FORM's CARD OF 'laws.FnKeys'. -/
def fnKeysUptoCard : Claim7 := { stood := { row := fnKeysUptoRow, standIns := [], harness := (true, "7df757b1549e71c3294fc59d7139e6b88747a92e52ea0f83dcfa5f6be8419f67"), looks := true }, kinds := [], alts := [], laidByText := true, laidKinds := [.data, .data, .data, .data, .sentinel, .sentinel, .widerDeep, .pinned], laidTests := true, laidLooks := .later }
def FnKeysUptoCardSaid : Prop := Claim7.holds Tryz.pinned (.plain (OpenSpec.upto fnKeysSpec)) fnKeysUptoCard

/-- THE SECOND FORM's CARD OF 'laws.FnAlike'. -/
def fnAlikeUptoCard : Claim7 := { stood := { row := fnAlikeUptoRow, standIns := [], harness := (true, "7df757b1549e71c3294fc59d7139e6b88747a92e52ea0f83dcfa5f6be8419f67"), looks := true }, kinds := [], alts := [], laidByText := true, laidKinds := [.data, .data, .data, .data, .sentinel, .sentinel, .widerDeep, .pinned], laidTests := true, laidLooks := .later }
def FnAlikeUptoCardSaid : Prop := Claim7.holds Tryz.pinned (.plain (OpenSpec.upto fnAlikeSpec)) fnAlikeUptoCard

/-- THE SECOND FORM's CARD OF 'laws.FnIndexTwice'. -/
def fnIndexTwiceUptoCard : Claim7 := { stood := { row := fnIndexTwiceUptoRow, standIns := [], harness := (true, "7df757b1549e71c3294fc59d7139e6b88747a92e52ea0f83dcfa5f6be8419f67"), looks := true }, kinds := [], alts := [], laidByText := true, laidKinds := [.data, .data, .data, .data, .sentinel, .sentinel, .widerDeep, .pinned], laidTests := true, laidLooks := .later }
def FnIndexTwiceUptoCardSaid : Prop := Claim7.holds Tryz.pinned (.plain (OpenSpec.upto fnIndexTwiceSpec)) fnIndexTwiceUptoCard

/-- THE SECOND FORM's CARD OF 'laws.FnIndexDrop'. -/
def fnIndexDropUptoCard : Claim7 := { stood := { row := fnIndexDropUptoRow, standIns := [], harness := (true, "7df757b1549e71c3294fc59d7139e6b88747a92e52ea0f83dcfa5f6be8419f67"), looks := true }, kinds := [], alts := [], laidByText := true, laidKinds := [.data, .data, .data, .data, .sentinel, .sentinel, .widerDeep, .pinned], laidTests := true, laidLooks := .later }
def FnIndexDropUptoCardSaid : Prop := Claim7.holds Tryz.pinned (.plain (OpenSpec.upto fnIndexDropSpec)) fnIndexDropUptoCard

/-- THE SECOND FORM's CARD OF 'laws.FnIndexPut'. -/
def fnIndexPutUptoCard : Claim7 := { stood := { row := fnIndexPutUptoRow, standIns := [], harness := (true, "7df757b1549e71c3294fc59d7139e6b88747a92e52ea0f83dcfa5f6be8419f67"), looks := true }, kinds := [], alts := [], laidByText := true, laidKinds := [.data, .data, .data, .data, .sentinel, .sentinel, .widerDeep, .pinned], laidTests := true, laidLooks := .later }
def FnIndexPutUptoCardSaid : Prop := Claim7.holds Tryz.pinned (.plain (OpenSpec.upto fnIndexPutSpec)) fnIndexPutUptoCard

/-- THE SECOND FORM's CARD OF 'laws.FnIndexBack'. -/
def fnIndexBackUptoCard : Claim7 := { stood := { row := fnIndexBackUptoRow, standIns := [], harness := (true, "7df757b1549e71c3294fc59d7139e6b88747a92e52ea0f83dcfa5f6be8419f67"), looks := true }, kinds := [], alts := [], laidByText := true, laidKinds := [.data, .data, .data, .data, .sentinel, .sentinel, .widerDeep, .pinned], laidTests := true, laidLooks := .later }
def FnIndexBackUptoCardSaid : Prop := Claim7.holds Tryz.pinned (.plain (OpenSpec.upto fnIndexBackSpec)) fnIndexBackUptoCard

/-- THE SECOND FORM's CARD OF 'laws.FnFindAll'. -/
def fnFindAllUptoCard : Claim7 := { stood := { row := fnFindAllUptoRow, standIns := [], harness := (true, "7df757b1549e71c3294fc59d7139e6b88747a92e52ea0f83dcfa5f6be8419f67"), looks := true }, kinds := [], alts := [], laidByText := true, laidKinds := [.data, .data, .data, .data, .sentinel, .sentinel, .widerDeep, .pinned], laidTests := true, laidLooks := .later }
def FnFindAllUptoCardSaid : Prop := Claim7.holds Tryz.pinned (.plain (OpenSpec.upto fnFindAllSpec)) fnFindAllUptoCard

/-- THE SECOND FORM's CARD OF 'laws.FnKeysAll'. -/
def fnKeysAllUptoCard : Claim7 := { stood := { row := fnKeysAllUptoRow, standIns := [], harness := (true, "7df757b1549e71c3294fc59d7139e6b88747a92e52ea0f83dcfa5f6be8419f67"), looks := true }, kinds := [], alts := [], laidByText := true, laidKinds := [.data, .data, .data, .data, .sentinel, .sentinel, .widerDeep, .pinned], laidTests := true, laidLooks := .later }
def FnKeysAllUptoCardSaid : Prop := Claim7.holds Tryz.pinned (.plain (OpenSpec.upto fnKeysAllSpec)) fnKeysAllUptoCard

/-- THE SECOND FORM's CARD OF 'laws.FnFind'. -/
def fnFindUptoCard : Claim7 := { stood := { row := fnFindUptoRow, standIns := [], harness := (true, "7df757b1549e71c3294fc59d7139e6b88747a92e52ea0f83dcfa5f6be8419f67"), looks := true }, kinds := [], alts := [], laidByText := true, laidKinds := [.data, .data, .data, .data, .sentinel, .sentinel, .widerDeep, .pinned], laidTests := true, laidLooks := .later }
def FnFindUptoCardSaid : Prop := Claim7.holds Tryz.pinned (.plain (OpenSpec.upto fnFindSpec)) fnFindUptoCard
end Rows
end Go.Proofs.YtjagjfjhinlgiaaGreatDoor
