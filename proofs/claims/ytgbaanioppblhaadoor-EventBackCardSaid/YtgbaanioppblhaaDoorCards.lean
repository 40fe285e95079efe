/-
  DERIVED. GIVEN WITH THE SEED: THE CARDS: each row of YtgbaanioppblhaaDoorRows.lean that lists a variable, with what it lists TIED to the program's text (the seventh form; the later family's looks); each row that meets fmt, with fmt's text TOLD by the authors' own Lean function (tested against real Go, not proved from fmt's source: count such statements apart). THE CARD IS WHAT COUNTS. Prove the row's statement (the work); the ties are given (YtgbaanioppblhaaDoorTie.lean); close each card by the builder's one call (the guide's Derived/Test/ToyasCard.lean, 'card_holds'). Laid BY PROGRAM, IN A SANDBOX (cutbox-door.mjs). By AI agents, Wed Nov 11 2026. No macro, syntax, notation, axiom, sorry.
-/
import Derived.Test.YtgbaanioppblhaaDoorRows
import GoSem.ClaimSeven
namespace Go.Proofs.YtgbaanioppblhaaDoor
namespace Rows

/-- THE TIED CARD OF 'umpirelaw05.EventPuts'. -/
def eventPutsCard : Claim7 := { stood := { row := eventPutsRow, standIns := [], harness := (true, "71554ce0cae2d5ae52b3f08b202099de93ca8451982c1ed3a56315787cbe55e2"), looks := false }, kinds := [], alts := [], laidByText := true, laidKinds := [.data], laidTests := true, laidLooks := .later }
def EventPutsCardSaid : Prop := Claim7.holds Tryd.pinned (.plain (OpenSpec.ofChange eventPutsSpec)) eventPutsCard

/-- THE TIED CARD OF 'umpirelaw05.EventTakes'. -/
def eventTakesCard : Claim7 := { stood := { row := eventTakesRow, standIns := [], harness := (true, "71554ce0cae2d5ae52b3f08b202099de93ca8451982c1ed3a56315787cbe55e2"), looks := false }, kinds := [], alts := [], laidByText := true, laidKinds := [.data], laidTests := true, laidLooks := .later }
def EventTakesCardSaid : Prop := Claim7.holds Tryd.pinned (.plain (OpenSpec.ofChange eventTakesSpec)) eventTakesCard

/-- THE TIED CARD OF 'umpirelaw05.EventKnown'. -/
def eventKnownCard : Claim7 := { stood := { row := eventKnownRow, standIns := [], harness := (true, "71554ce0cae2d5ae52b3f08b202099de93ca8451982c1ed3a56315787cbe55e2"), looks := false }, kinds := [], alts := [], laidByText := true, laidKinds := [.data], laidTests := true, laidLooks := .later }
def EventKnownCardSaid : Prop := Claim7.holds Tryd.pinned (.plain (OpenSpec.ofChange eventKnownSpec)) eventKnownCard

/-- THE TIED CARD OF 'umpirelaw05.EventBack'. -/
def eventBackCard : Claim7 := { stood := { row := eventBackRow, standIns := [], harness := (true, "71554ce0cae2d5ae52b3f08b202099de93ca8451982c1ed3a56315787cbe55e2"), looks := false }, kinds := [], alts := [], laidByText := true, laidKinds := [.data], laidTests := true, laidLooks := .later }
def EventBackCardSaid : Prop := Claim7.holds Tryd.pinned (.plain (OpenSpec.ofChange eventBackSpec)) eventBackCard

/-- THE TIED CARD OF 'umpirelaw05.EventWhole'. -/
def eventWholeCard : Claim7 := { stood := { row := eventWholeRow, standIns := [], harness := (true, "71554ce0cae2d5ae52b3f08b202099de93ca8451982c1ed3a56315787cbe55e2"), looks := false }, kinds := [], alts := [], laidByText := true, laidKinds := [.data], laidTests := true, laidLooks := .later }
def EventWholeCardSaid : Prop := Claim7.holds Tryd.pinned (.plain (OpenSpec.ofChange eventWholeSpec)) eventWholeCard

/-- THE SECOND FORM's CARD OF 'umpirelaw05.EventPuts'. -/
def eventPutsUptoCard : Claim7 := { stood := { row := eventPutsUptoRow, standIns := [], harness := (true, "71554ce0cae2d5ae52b3f08b202099de93ca8451982c1ed3a56315787cbe55e2"), looks := false }, kinds := [], alts := [], laidByText := true, laidKinds := [.data], laidTests := true, laidLooks := .later }
def EventPutsUptoCardSaid : Prop := Claim7.holds Tryd.pinned (.plain (OpenSpec.upto eventPutsSpec)) eventPutsUptoCard

/-- THE SECOND FORM's CARD OF 'umpirelaw05.EventTakes'. -/
def eventTakesUptoCard : Claim7 := { stood := { row := eventTakesUptoRow, standIns := [], harness := (true, "71554ce0cae2d5ae52b3f08b202099de93ca8451982c1ed3a56315787cbe55e2"), looks := false }, kinds := [], alts := [], laidByText := true, laidKinds := [.data], laidTests := true, laidLooks := .later }
def EventTakesUptoCardSaid : Prop := Claim7.holds Tryd.pinned (.plain (OpenSpec.upto eventTakesSpec)) eventTakesUptoCard

/-- THE SECOND FORM's CARD OF 'umpirelaw05.EventKnown'. -/
def eventKnownUptoCard : Claim7 := { stood := { row := eventKnownUptoRow, standIns := [], harness := (true, "71554ce0cae2d5ae52b3f08b202099de93ca8451982c1ed3a56315787cbe55e2"), looks := false }, kinds := [], alts := [], laidByText := true, laidKinds := [.data], laidTests := true, laidLooks := .later }
def EventKnownUptoCardSaid : Prop := Claim7.holds Tryd.pinned (.plain (OpenSpec.upto eventKnownSpec)) eventKnownUptoCard

/-- THE SECOND FORM's CARD OF 'umpirelaw05.EventBack'. -/
def eventBackUptoCard : Claim7 := { stood := { row := eventBackUptoRow, standIns := [], harness := (true, "71554ce0cae2d5ae52b3f08b202099de93ca8451982c1ed3a56315787cbe55e2"), looks := false }, kinds := [], alts := [], laidByText := true, laidKinds := [.data], laidTests := true, laidLooks := .later }
def EventBackUptoCardSaid : Prop := Claim7.holds Tryd.pinned (.plain (OpenSpec.upto eventBackSpec)) eventBackUptoCard

/-- THE SECOND FORM's CARD OF 'umpirelaw05.EventWhole'. -/
def eventWholeUptoCard : Claim7 := { stood := { row := eventWholeUptoRow, standIns := [], harness := (true, "71554ce0cae2d5ae52b3f08b202099de93ca8451982c1ed3a56315787cbe55e2"), looks := false }, kinds := [], alts := [], laidByText := true, laidKinds := [.data], laidTests := true, laidLooks := .later }
def EventWholeUptoCardSaid : Prop := Claim7.holds Tryd.pinned (.plain (OpenSpec.upto eventWholeSpec)) eventWholeUptoCard
end Rows
end Go.Proofs.YtgbaanioppblhaaDoor
