/-
  DERIVED. GIVEN WITH THE SEED: THE CARDS: each row of YtgnggcpcijcahaaGreatDoorRows.lean that lists a variable, with what it lists TIED to the program's text (the seventh form; the later family's looks); each row that meets fmt, with fmt's text TOLD by the authors' own Lean function (tested against real Go, not proved from fmt's source: count such statements apart). THE CARD IS WHAT COUNTS. Prove the row's statement (the work); the ties are given (YtgnggcpcijcahaaGreatDoorTie.lean); close each card by the builder's one call (the guide's Derived/Test/ToyasCard.lean, 'card_holds'). Laid BY PROGRAM, IN A SANDBOX (cutbox-door.mjs). By AI agents, Wed Nov 11 2026. No macro, syntax, notation, axiom, sorry.
-/
import Derived.Test.YtgnggcpcijcahaaGreatDoorRows
import GoSem.ClaimSeven
namespace Go.Proofs.YtgnggcpcijcahaaGreatDoor
namespace Rows

/-- THE TIED CARD OF 'laws.FnScore'. -/
def fnScoreCard : Claim7 := { stood := { row := fnScoreRow, standIns := [], harness := (true, "5504a0a793e8f3a32b8d339faf902809482a4b30faeba98f7c940e40807d0520"), looks := true }, kinds := [], alts := [], laidByText := true, laidKinds := [.data, .data, .data, .data, .sentinel, .sentinel, .widerDeep, .pinned], laidTests := true, laidLooks := .later }
def FnScoreCardSaid : Prop := Claim7.holds Tryz.pinned (.plain (OpenSpec.ofChange fnScoreSpec)) fnScoreCard

/-- THE TIED CARD OF 'laws.FnFindTwice'. -/
def fnFindTwiceCard : Claim7 := { stood := { row := fnFindTwiceRow, standIns := [], harness := (true, "5504a0a793e8f3a32b8d339faf902809482a4b30faeba98f7c940e40807d0520"), looks := true }, kinds := [], alts := [], laidByText := true, laidKinds := [.data, .data, .data, .data, .sentinel, .sentinel, .widerDeep, .pinned], laidTests := true, laidLooks := .later }
def FnFindTwiceCardSaid : Prop := Claim7.holds Tryz.pinned (.plain (OpenSpec.ofChange fnFindTwiceSpec)) fnFindTwiceCard

/-- THE TIED CARD OF 'laws.FnRankAll'. -/
def fnRankAllCard : Claim7 := { stood := { row := fnRankAllRow, standIns := [], harness := (true, "5504a0a793e8f3a32b8d339faf902809482a4b30faeba98f7c940e40807d0520"), looks := true }, kinds := [], alts := [], laidByText := true, laidKinds := [.data, .data, .data, .data, .sentinel, .sentinel, .widerDeep, .pinned], laidTests := true, laidLooks := .later }
def FnRankAllCardSaid : Prop := Claim7.holds Tryz.pinned (.plain (OpenSpec.ofChange fnRankAllSpec)) fnRankAllCard

/-- THE TIED CARD OF 'laws.FnRankTurn'. -/
def fnRankTurnCard : Claim7 := { stood := { row := fnRankTurnRow, standIns := [], harness := (true, "5504a0a793e8f3a32b8d339faf902809482a4b30faeba98f7c940e40807d0520"), looks := true }, kinds := [], alts := [], laidByText := true, laidKinds := [.data, .data, .data, .data, .sentinel, .sentinel, .widerDeep, .pinned], laidTests := true, laidLooks := .later }
def FnRankTurnCardSaid : Prop := Claim7.holds Tryz.pinned (.plain (OpenSpec.ofChange fnRankTurnSpec)) fnRankTurnCard

/-- THE TIED CARD OF 'laws.FnRankBy'. -/
def fnRankByCard : Claim7 := { stood := { row := fnRankByRow, standIns := [], harness := (true, "5504a0a793e8f3a32b8d339faf902809482a4b30faeba98f7c940e40807d0520"), looks := true }, kinds := [], alts := [], laidByText := true, laidKinds := [.data, .data, .data, .data, .sentinel, .sentinel, .widerDeep, .pinned], laidTests := true, laidLooks := .later }
def FnRankByCardSaid : Prop := Claim7.holds Tryz.pinned (.plain (OpenSpec.ofChange fnRankBySpec)) fnRankByCard

/-- THE TIED CARD OF 'laws.FnFindBegin'. -/
def fnFindBeginCard : Claim7 := { stood := { row := fnFindBeginRow, standIns := [], harness := (true, "5504a0a793e8f3a32b8d339faf902809482a4b30faeba98f7c940e40807d0520"), looks := true }, kinds := [], alts := [], laidByText := true, laidKinds := [.data, .data, .data, .data, .sentinel, .sentinel, .widerDeep, .pinned], laidTests := true, laidLooks := .later }
def FnFindBeginCardSaid : Prop := Claim7.holds Tryz.pinned (.plain (OpenSpec.ofChange fnFindBeginSpec)) fnFindBeginCard

/-- THE TIED CARD OF 'laws.FnFindWord'. -/
def fnFindWordCard : Claim7 := { stood := { row := fnFindWordRow, standIns := [], harness := (true, "5504a0a793e8f3a32b8d339faf902809482a4b30faeba98f7c940e40807d0520"), looks := true }, kinds := [], alts := [], laidByText := true, laidKinds := [.data, .data, .data, .data, .sentinel, .sentinel, .widerDeep, .pinned], laidTests := true, laidLooks := .later }
def FnFindWordCardSaid : Prop := Claim7.holds Tryz.pinned (.plain (OpenSpec.ofChange fnFindWordSpec)) fnFindWordCard

/-- THE SECOND FORM's CARD OF 'laws.FnScore'. -/
def fnScoreUptoCard : Claim7 := { stood := { row := fnScoreUptoRow, standIns := [], harness := (true, "5504a0a793e8f3a32b8d339faf902809482a4b30faeba98f7c940e40807d0520"), looks := true }, kinds := [], alts := [], laidByText := true, laidKinds := [.data, .data, .data, .data, .sentinel, .sentinel, .widerDeep, .pinned], laidTests := true, laidLooks := .later }
def FnScoreUptoCardSaid : Prop := Claim7.holds Tryz.pinned (.plain (OpenSpec.upto fnScoreSpec)) fnScoreUptoCard

/-- THE SECOND FORM's CARD OF 'laws.FnFindTwice'. -/
def fnFindTwiceUptoCard : Claim7 := { stood := { row := fnFindTwiceUptoRow, standIns := [], harness := (true, "5504a0a793e8f3a32b8d339faf902809482a4b30faeba98f7c940e40807d0520"), looks := true }, kinds := [], alts := [], laidByText := true, laidKinds := [.data, .data, .data, .data, .sentinel, .sentinel, .widerDeep, .pinned], laidTests := true, laidLooks := .later }
def FnFindTwiceUptoCardSaid : Prop := Claim7.holds Tryz.pinned (.plain (OpenSpec.upto fnFindTwiceSpec)) fnFindTwiceUptoCard

/-- THE SECOND FORM's CARD OF 'laws.FnRankAll'. -/
def fnRankAllUptoCard : Claim7 := { stood := { row := fnRankAllUptoRow, standIns := [], harness := (true, "5504a0a793e8f3a32b8d339faf902809482a4b30faeba98f7c940e40807d0520"), looks := true }, kinds := [], alts := [], laidByText := true, laidKinds := [.data, .data, .data, .data, .sentinel, .sentinel, .widerDeep, .pinned], laidTests := true, laidLooks := .later }
def FnRankAllUptoCardSaid : Prop := Claim7.holds Tryz.pinned (.plain (OpenSpec.upto fnRankAllSpec)) fnRankAllUptoCard

/-- THE SECOND FORM's CARD OF 'laws.FnRankTurn'. -/
def fnRankTurnUptoCard : Claim7 := { stood := { row := fnRankTurnUptoRow, standIns := [], harness := (true, "5504a0a793e8f3a32b8d339faf902809482a4b30faeba98f7c940e40807d0520"), looks := true }, kinds := [], alts := [], laidByText := true, laidKinds := [.data, .data, .data, .data, .sentinel, .sentinel, .widerDeep, .pinned], laidTests := true, laidLooks := .later }
def FnRankTurnUptoCardSaid : Prop := Claim7.holds Tryz.pinned (.plain (OpenSpec.upto fnRankTurnSpec)) fnRankTurnUptoCard

/-- THE SECOND FORM's CARD OF 'laws.FnRankBy'. -/
def fnRankByUptoCard : Claim7 := { stood := { row := fnRankByUptoRow, standIns := [], harness := (true, "5504a0a793e8f3a32b8d339faf902809482a4b30faeba98f7c940e40807d0520"), looks := true }, kinds := [], alts := [], laidByText := true, laidKinds := [.data, .data, .data, .data, .sentinel, .sentinel, .widerDeep, .pinned], laidTests := true, laidLooks := .later }
def FnRankByUptoCardSaid : Prop := Claim7.holds Tryz.pinned (.plain (OpenSpec.upto fnRankBySpec)) fnRankByUptoCard

/-- THE SECOND FORM's CARD OF 'laws.FnFindBegin'. -/
def fnFindBeginUptoCard : Claim7 := { stood := { row := fnFindBeginUptoRow, standIns := [], harness := (true, "5504a0a793e8f3a32b8d339faf902809482a4b30faeba98f7c940e40807d0520"), looks := true }, kinds := [], alts := [], laidByText := true, laidKinds := [.data, .data, .data, .data, .sentinel, .sentinel, .widerDeep, .pinned], laidTests := true, laidLooks := .later }
def FnFindBeginUptoCardSaid : Prop := Claim7.holds Tryz.pinned (.plain (OpenSpec.upto fnFindBeginSpec)) fnFindBeginUptoCard

/-- THE SECOND FORM's CARD OF 'laws.FnFindWord'. -/
def fnFindWordUptoCard : Claim7 := { stood := { row := fnFindWordUptoRow, standIns := [], harness := (true, "5504a0a793e8f3a32b8d339faf902809482a4b30faeba98f7c940e40807d0520"), looks := true }, kinds := [], alts := [], laidByText := true, laidKinds := [.data, .data, .data, .data, .sentinel, .sentinel, .widerDeep, .pinned], laidTests := true, laidLooks := .later }
def FnFindWordUptoCardSaid : Prop := Claim7.holds Tryz.pinned (.plain (OpenSpec.upto fnFindWordSpec)) fnFindWordUptoCard
end Rows
end Go.Proofs.YtgnggcpcijcahaaGreatDoor
