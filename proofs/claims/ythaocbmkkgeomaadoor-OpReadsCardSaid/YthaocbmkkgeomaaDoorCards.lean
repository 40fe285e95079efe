/-
  DERIVED. GIVEN WITH THE SEED: THE CARDS: each row of YthaocbmkkgeomaaDoorRows.lean that lists a variable, with what it lists TIED to the program's text (the seventh form; the later family's looks); each row that meets fmt, with fmt's text TOLD by the authors' own Lean function (tested against real Go, not proved from fmt's source: count such statements apart). THE CARD IS WHAT COUNTS. Prove the row's statement (the work); the ties are given (YthaocbmkkgeomaaDoorTie.lean); close each card by the builder's one call (the guide's Derived/Test/ToyasCard.lean, 'card_holds'). Laid BY PROGRAM, IN A SANDBOX (cutbox-door.mjs). By AI agents, Wed Nov 11 2026. No macro, syntax, notation, axiom, sorry.
-/
import Derived.Test.YthaocbmkkgeomaaDoorRows
import GoSem.ClaimSeven
namespace Go.Proofs.YthaocbmkkgeomaaDoor
namespace Rows

/-- THE TIED CARD OF 'umpirelaw03.ResultKinds'. -/
def resultKindsCard : Claim7 := { stood := { row := resultKindsRow, standIns := [], harness := (true, "b2aee424a20400b2e0e18ea2da0108d2b702d4ff4af5d4aefcb5d2ae18a6f7a1"), looks := true }, kinds := [], alts := [], laidByText := true, laidKinds := [.data, .data, .data, .sentinel, .sentinel, .data], laidTests := true, laidLooks := .later }
def ResultKindsCardSaid : Prop := Claim7.holds Tryd.pinned (.plain (OpenSpec.ofChange resultKindsSpec)) resultKindsCard

/-- THE TIED CARD OF 'umpirelaw03.ResultKnown'. -/
def resultKnownCard : Claim7 := { stood := { row := resultKnownRow, standIns := [], harness := (true, "b2aee424a20400b2e0e18ea2da0108d2b702d4ff4af5d4aefcb5d2ae18a6f7a1"), looks := true }, kinds := [], alts := [], laidByText := true, laidKinds := [.data, .data, .data, .sentinel, .sentinel, .data], laidTests := true, laidLooks := .later }
def ResultKnownCardSaid : Prop := Claim7.holds Tryd.pinned (.plain (OpenSpec.ofChange resultKnownSpec)) resultKnownCard

/-- THE TIED CARD OF 'umpirelaw03.ResultForms'. -/
def resultFormsCard : Claim7 := { stood := { row := resultFormsRow, standIns := [], harness := (true, "b2aee424a20400b2e0e18ea2da0108d2b702d4ff4af5d4aefcb5d2ae18a6f7a1"), looks := true }, kinds := [], alts := [], laidByText := true, laidKinds := [.data, .data, .data, .sentinel, .sentinel, .data], laidTests := true, laidLooks := .later }
def ResultFormsCardSaid : Prop := Claim7.holds Tryd.pinned (.plain (OpenSpec.ofChange resultFormsSpec)) resultFormsCard

/-- THE TIED CARD OF 'umpirelaw03.ResultBack'. -/
def resultBackCard : Claim7 := { stood := { row := resultBackRow, standIns := [], harness := (true, "b2aee424a20400b2e0e18ea2da0108d2b702d4ff4af5d4aefcb5d2ae18a6f7a1"), looks := true }, kinds := [], alts := [], laidByText := true, laidKinds := [.data, .data, .data, .sentinel, .sentinel, .data], laidTests := true, laidLooks := .later }
def ResultBackCardSaid : Prop := Claim7.holds Tryd.pinned (.plain (OpenSpec.ofChange resultBackSpec)) resultBackCard

/-- THE TIED CARD OF 'umpirelaw04.OpReads'. -/
def opReadsCard : Claim7 := { stood := { row := opReadsRow, standIns := [], harness := (true, "b2aee424a20400b2e0e18ea2da0108d2b702d4ff4af5d4aefcb5d2ae18a6f7a1"), looks := true }, kinds := [], alts := [], laidByText := true, laidKinds := [.data, .data, .data, .data, .sentinel, .sentinel, .data, .pinned], laidTests := true, laidLooks := .later }
def OpReadsCardSaid : Prop := Claim7.holds Tryd.pinned (.plain (OpenSpec.ofChange opReadsSpec)) opReadsCard

/-- THE TIED CARD OF 'umpirelaw04.OpBack'. -/
def opBackCard : Claim7 := { stood := { row := opBackRow, standIns := [], harness := (true, "b2aee424a20400b2e0e18ea2da0108d2b702d4ff4af5d4aefcb5d2ae18a6f7a1"), looks := true }, kinds := [], alts := [], laidByText := true, laidKinds := [.data, .data, .data, .data, .sentinel, .sentinel, .data, .pinned], laidTests := true, laidLooks := .later }
def OpBackCardSaid : Prop := Claim7.holds Tryd.pinned (.plain (OpenSpec.ofChange opBackSpec)) opBackCard

/-- THE TIED CARD OF 'umpirelaw04.OpTells'. -/
def opTellsCard : Claim7 := { stood := { row := opTellsRow, standIns := [], harness := (true, "b2aee424a20400b2e0e18ea2da0108d2b702d4ff4af5d4aefcb5d2ae18a6f7a1"), looks := true }, kinds := [], alts := [], laidByText := true, laidKinds := [.data, .data, .data, .data, .sentinel, .sentinel, .data, .pinned], laidTests := true, laidLooks := .later }
def OpTellsCardSaid : Prop := Claim7.holds Tryd.pinned (.plain (OpenSpec.ofChange opTellsSpec)) opTellsCard

/-- THE TIED CARD OF 'umpirelaw04.OpOne'. -/
def opOneCard : Claim7 := { stood := { row := opOneRow, standIns := [], harness := (true, "b2aee424a20400b2e0e18ea2da0108d2b702d4ff4af5d4aefcb5d2ae18a6f7a1"), looks := true }, kinds := [], alts := [], laidByText := true, laidKinds := [.data, .data, .data, .data, .sentinel, .sentinel, .data, .pinned], laidTests := true, laidLooks := .later }
def OpOneCardSaid : Prop := Claim7.holds Tryd.pinned (.plain (OpenSpec.ofChange opOneSpec)) opOneCard

/-- THE TIED CARD OF 'umpirelaw04.OpKnown'. -/
def opKnownCard : Claim7 := { stood := { row := opKnownRow, standIns := [], harness := (true, "b2aee424a20400b2e0e18ea2da0108d2b702d4ff4af5d4aefcb5d2ae18a6f7a1"), looks := true }, kinds := [], alts := [], laidByText := true, laidKinds := [.data, .data, .data, .data, .sentinel, .sentinel, .data, .pinned], laidTests := true, laidLooks := .later }
def OpKnownCardSaid : Prop := Claim7.holds Tryd.pinned (.plain (OpenSpec.ofChange opKnownSpec)) opKnownCard

/-- THE SECOND FORM's CARD OF 'umpirelaw03.ResultKinds'. -/
def resultKindsUptoCard : Claim7 := { stood := { row := resultKindsUptoRow, standIns := [], harness := (true, "b2aee424a20400b2e0e18ea2da0108d2b702d4ff4af5d4aefcb5d2ae18a6f7a1"), looks := true }, kinds := [], alts := [], laidByText := true, laidKinds := [.data, .data, .data, .sentinel, .sentinel, .data], laidTests := true, laidLooks := .later }
def ResultKindsUptoCardSaid : Prop := Claim7.holds Tryd.pinned (.plain (OpenSpec.upto resultKindsSpec)) resultKindsUptoCard

/-- THE SECOND FORM's CARD OF 'umpirelaw03.ResultKnown'. -/
def resultKnownUptoCard : Claim7 := { stood := { row := resultKnownUptoRow, standIns := [], harness := (true, "b2aee424a20400b2e0e18ea2da0108d2b702d4ff4af5d4aefcb5d2ae18a6f7a1"), looks := true }, kinds := [], alts := [], laidByText := true, laidKinds := [.data, .data, .data, .sentinel, .sentinel, .data], laidTests := true, laidLooks := .later }
def ResultKnownUptoCardSaid : Prop := Claim7.holds Tryd.pinned (.plain (OpenSpec.upto resultKnownSpec)) resultKnownUptoCard

/-- THE SECOND FORM's CARD OF 'umpirelaw03.ResultForms'. -/
def resultFormsUptoCard : Claim7 := { stood := { row := resultFormsUptoRow, standIns := [], harness := (true, "b2aee424a20400b2e0e18ea2da0108d2b702d4ff4af5d4aefcb5d2ae18a6f7a1"), looks := true }, kinds := [], alts := [], laidByText := true, laidKinds := [.data, .data, .data, .sentinel, .sentinel, .data], laidTests := true, laidLooks := .later }
def ResultFormsUptoCardSaid : Prop := Claim7.holds Tryd.pinned (.plain (OpenSpec.upto resultFormsSpec)) resultFormsUptoCard

/-- THE SECOND FORM's CARD OF 'umpirelaw03.ResultBack'. -/
def resultBackUptoCard : Claim7 := { stood := { row := resultBackUptoRow, standIns := [], harness := (true, "b2aee424a20400b2e0e18ea2da0108d2b702d4ff4af5d4aefcb5d2ae18a6f7a1"), looks := true }, kinds := [], alts := [], laidByText := true, laidKinds := [.data, .data, .data, .sentinel, .sentinel, .data], laidTests := true, laidLooks := .later }
def ResultBackUptoCardSaid : Prop := Claim7.holds Tryd.pinned (.plain (OpenSpec.upto resultBackSpec)) resultBackUptoCard

/-- THE SECOND FORM's CARD OF 'umpirelaw04.OpReads'. -/
def opReadsUptoCard : Claim7 := { stood := { row := opReadsUptoRow, standIns := [], harness := (true, "b2aee424a20400b2e0e18ea2da0108d2b702d4ff4af5d4aefcb5d2ae18a6f7a1"), looks := true }, kinds := [], alts := [], laidByText := true, laidKinds := [.data, .data, .data, .data, .sentinel, .sentinel, .data, .pinned], laidTests := true, laidLooks := .later }
def OpReadsUptoCardSaid : Prop := Claim7.holds Tryd.pinned (.plain (OpenSpec.upto opReadsSpec)) opReadsUptoCard

/-- THE SECOND FORM's CARD OF 'umpirelaw04.OpBack'. -/
def opBackUptoCard : Claim7 := { stood := { row := opBackUptoRow, standIns := [], harness := (true, "b2aee424a20400b2e0e18ea2da0108d2b702d4ff4af5d4aefcb5d2ae18a6f7a1"), looks := true }, kinds := [], alts := [], laidByText := true, laidKinds := [.data, .data, .data, .data, .sentinel, .sentinel, .data, .pinned], laidTests := true, laidLooks := .later }
def OpBackUptoCardSaid : Prop := Claim7.holds Tryd.pinned (.plain (OpenSpec.upto opBackSpec)) opBackUptoCard

/-- THE SECOND FORM's CARD OF 'umpirelaw04.OpTells'. -/
def opTellsUptoCard : Claim7 := { stood := { row := opTellsUptoRow, standIns := [], harness := (true, "b2aee424a20400b2e0e18ea2da0108d2b702d4ff4af5d4aefcb5d2ae18a6f7a1"), looks := true }, kinds := [], alts := [], laidByText := true, laidKinds := [.data, .data, .data, .data, .sentinel, .sentinel, .data, .pinned], laidTests := true, laidLooks := .later }
def OpTellsUptoCardSaid : Prop := Claim7.holds Tryd.pinned (.plain (OpenSpec.upto opTellsSpec)) opTellsUptoCard

/-- THE SECOND FORM's CARD OF 'umpirelaw04.OpOne'. -/
def opOneUptoCard : Claim7 := { stood := { row := opOneUptoRow, standIns := [], harness := (true, "b2aee424a20400b2e0e18ea2da0108d2b702d4ff4af5d4aefcb5d2ae18a6f7a1"), looks := true }, kinds := [], alts := [], laidByText := true, laidKinds := [.data, .data, .data, .data, .sentinel, .sentinel, .data, .pinned], laidTests := true, laidLooks := .later }
def OpOneUptoCardSaid : Prop := Claim7.holds Tryd.pinned (.plain (OpenSpec.upto opOneSpec)) opOneUptoCard

/-- THE SECOND FORM's CARD OF 'umpirelaw04.OpKnown'. -/
def opKnownUptoCard : Claim7 := { stood := { row := opKnownUptoRow, standIns := [], harness := (true, "b2aee424a20400b2e0e18ea2da0108d2b702d4ff4af5d4aefcb5d2ae18a6f7a1"), looks := true }, kinds := [], alts := [], laidByText := true, laidKinds := [.data, .data, .data, .data, .sentinel, .sentinel, .data, .pinned], laidTests := true, laidLooks := .later }
def OpKnownUptoCardSaid : Prop := Claim7.holds Tryd.pinned (.plain (OpenSpec.upto opKnownSpec)) opKnownUptoCard
end Rows
end Go.Proofs.YthaocbmkkgeomaaDoor
