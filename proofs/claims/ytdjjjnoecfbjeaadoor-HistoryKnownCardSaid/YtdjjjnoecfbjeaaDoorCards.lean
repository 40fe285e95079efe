/-
  DERIVED. GIVEN WITH THE SEED: THE CARDS: each row of YtdjjjnoecfbjeaaDoorRows.lean that lists a variable, with what it lists TIED to the program's text (the seventh form; the later family's looks); each row that meets fmt, with fmt's text TOLD by the authors' own Lean function (tested against real Go, not proved from fmt's source: count such statements apart). THE CARD IS WHAT COUNTS. Prove the row's statement (the work); the ties are given (YtdjjjnoecfbjeaaDoorTie.lean); close each card by the builder's one call (the guide's Derived/Test/ToyasCard.lean, 'card_holds'). Laid BY PROGRAM, IN A SANDBOX (cutbox-door.mjs). By AI agents, Wed Nov 11 2026. No macro, syntax, notation, axiom, sorry.
-/
import Derived.Test.YtdjjjnoecfbjeaaDoorRows
import GoSem.ClaimSeven
namespace Go.Proofs.YtdjjjnoecfbjeaaDoor
namespace Rows

/-- THE TIED CARD OF 'umpirelaw05.EventKnown'. -/
def eventKnownCard : Claim7 := { stood := { row := eventKnownRow, standIns := [], harness := (true, "d4079a42d7bf432ef8f3571bc534c9f77a424e4f162c61e25907f72e98a10873"), looks := true }, kinds := [], alts := [], laidByText := true, laidKinds := [.data], laidTests := true, laidLooks := .later }
def EventKnownCardSaid : Prop := Claim7.holds Tryd.pinned (.plain (OpenSpec.ofChange eventKnownSpec)) eventKnownCard

/-- THE TIED CARD OF 'umpirelaw07.HistoryTurns'. -/
def historyTurnsCard : Claim7 := { stood := { row := historyTurnsRow, standIns := [], harness := (true, "d4079a42d7bf432ef8f3571bc534c9f77a424e4f162c61e25907f72e98a10873"), looks := true }, kinds := [], alts := [], laidByText := true, laidKinds := [.data], laidTests := true, laidLooks := .later }
def HistoryTurnsCardSaid : Prop := Claim7.holds Tryd.pinned (.plain (OpenSpec.ofChange historyTurnsSpec)) historyTurnsCard

/-- THE TIED CARD OF 'umpirelaw07.HistoryApart'. -/
def historyApartCard : Claim7 := { stood := { row := historyApartRow, standIns := [], harness := (true, "d4079a42d7bf432ef8f3571bc534c9f77a424e4f162c61e25907f72e98a10873"), looks := true }, kinds := [], alts := [], laidByText := true, laidKinds := [.data], laidTests := true, laidLooks := .later }
def HistoryApartCardSaid : Prop := Claim7.holds Tryd.pinned (.plain (OpenSpec.ofChange historyApartSpec)) historyApartCard

/-- THE TIED CARD OF 'umpirelaw07.HistoryKnown'. -/
def historyKnownCard : Claim7 := { stood := { row := historyKnownRow, standIns := [], harness := (true, "d4079a42d7bf432ef8f3571bc534c9f77a424e4f162c61e25907f72e98a10873"), looks := true }, kinds := [], alts := [], laidByText := true, laidKinds := [.data], laidTests := true, laidLooks := .later }
def HistoryKnownCardSaid : Prop := Claim7.holds Tryd.pinned (.plain (OpenSpec.ofChange historyKnownSpec)) historyKnownCard

/-- THE SECOND FORM's CARD OF 'umpirelaw05.EventKnown'. -/
def eventKnownUptoCard : Claim7 := { stood := { row := eventKnownUptoRow, standIns := [], harness := (true, "d4079a42d7bf432ef8f3571bc534c9f77a424e4f162c61e25907f72e98a10873"), looks := true }, kinds := [], alts := [], laidByText := true, laidKinds := [.data], laidTests := true, laidLooks := .later }
def EventKnownUptoCardSaid : Prop := Claim7.holds Tryd.pinned (.plain (OpenSpec.upto eventKnownSpec)) eventKnownUptoCard

/-- THE SECOND FORM's CARD OF 'umpirelaw07.HistoryTurns'. -/
def historyTurnsUptoCard : Claim7 := { stood := { row := historyTurnsUptoRow, standIns := [], harness := (true, "d4079a42d7bf432ef8f3571bc534c9f77a424e4f162c61e25907f72e98a10873"), looks := true }, kinds := [], alts := [], laidByText := true, laidKinds := [.data], laidTests := true, laidLooks := .later }
def HistoryTurnsUptoCardSaid : Prop := Claim7.holds Tryd.pinned (.plain (OpenSpec.upto historyTurnsSpec)) historyTurnsUptoCard

/-- THE SECOND FORM's CARD OF 'umpirelaw07.HistoryApart'. -/
def historyApartUptoCard : Claim7 := { stood := { row := historyApartUptoRow, standIns := [], harness := (true, "d4079a42d7bf432ef8f3571bc534c9f77a424e4f162c61e25907f72e98a10873"), looks := true }, kinds := [], alts := [], laidByText := true, laidKinds := [.data], laidTests := true, laidLooks := .later }
def HistoryApartUptoCardSaid : Prop := Claim7.holds Tryd.pinned (.plain (OpenSpec.upto historyApartSpec)) historyApartUptoCard

/-- THE SECOND FORM's CARD OF 'umpirelaw07.HistoryKnown'. -/
def historyKnownUptoCard : Claim7 := { stood := { row := historyKnownUptoRow, standIns := [], harness := (true, "d4079a42d7bf432ef8f3571bc534c9f77a424e4f162c61e25907f72e98a10873"), looks := true }, kinds := [], alts := [], laidByText := true, laidKinds := [.data], laidTests := true, laidLooks := .later }
def HistoryKnownUptoCardSaid : Prop := Claim7.holds Tryd.pinned (.plain (OpenSpec.upto historyKnownSpec)) historyKnownUptoCard
end Rows
end Go.Proofs.YtdjjjnoecfbjeaaDoor
