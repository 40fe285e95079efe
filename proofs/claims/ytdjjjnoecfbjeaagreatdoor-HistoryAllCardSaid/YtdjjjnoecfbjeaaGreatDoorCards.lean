/-
  DERIVED. GIVEN WITH THE SEED: THE CARDS: each row of YtdjjjnoecfbjeaaGreatDoorRows.lean that lists a variable, with what it lists TIED to the program's text (the seventh form; the later family's looks); each row that meets fmt, with fmt's text TOLD by the authors' own Lean function (tested against real Go, not proved from fmt's source: count such statements apart). THE CARD IS WHAT COUNTS. Prove the row's statement (the work); the ties are given (YtdjjjnoecfbjeaaGreatDoorTie.lean); close each card by the builder's one call (the guide's Derived/Test/ToyasCard.lean, 'card_holds'). Laid BY PROGRAM, IN A SANDBOX (cutbox-door.mjs). By AI agents, Wed Nov 11 2026. No macro, syntax, notation, axiom, sorry.
-/
import Derived.Test.YtdjjjnoecfbjeaaGreatDoorRows
import GoSem.ClaimSeven
namespace Go.Proofs.YtdjjjnoecfbjeaaGreatDoor
namespace Rows

/-- THE TIED CARD OF 'umpirelaw07.HistoryAll'. -/
def historyAllCard : Claim7 := { stood := { row := historyAllRow, standIns := [], harness := (true, "7090ff6c99be271f743d6ebf152430b7a1426e1556b1cea5dafc0df779a6570b"), looks := false }, kinds := [], alts := [], laidByText := true, laidKinds := [.data], laidTests := true, laidLooks := .later }
def HistoryAllCardSaid : Prop := Claim7.holds Tryz.pinned (.plain (OpenSpec.ofChange historyAllSpec)) historyAllCard

/-- THE TIED CARD OF 'umpirelaw07.HistorySteps'. -/
def historyStepsCard : Claim7 := { stood := { row := historyStepsRow, standIns := [], harness := (true, "7090ff6c99be271f743d6ebf152430b7a1426e1556b1cea5dafc0df779a6570b"), looks := false }, kinds := [], alts := [], laidByText := true, laidKinds := [.data], laidTests := true, laidLooks := .later }
def HistoryStepsCardSaid : Prop := Claim7.holds Tryz.pinned (.plain (OpenSpec.ofChange historyStepsSpec)) historyStepsCard

/-- THE SECOND FORM's CARD OF 'umpirelaw07.HistoryAll'. -/
def historyAllUptoCard : Claim7 := { stood := { row := historyAllUptoRow, standIns := [], harness := (true, "7090ff6c99be271f743d6ebf152430b7a1426e1556b1cea5dafc0df779a6570b"), looks := false }, kinds := [], alts := [], laidByText := true, laidKinds := [.data], laidTests := true, laidLooks := .later }
def HistoryAllUptoCardSaid : Prop := Claim7.holds Tryz.pinned (.plain (OpenSpec.upto historyAllSpec)) historyAllUptoCard

/-- THE SECOND FORM's CARD OF 'umpirelaw07.HistorySteps'. -/
def historyStepsUptoCard : Claim7 := { stood := { row := historyStepsUptoRow, standIns := [], harness := (true, "7090ff6c99be271f743d6ebf152430b7a1426e1556b1cea5dafc0df779a6570b"), looks := false }, kinds := [], alts := [], laidByText := true, laidKinds := [.data], laidTests := true, laidLooks := .later }
def HistoryStepsUptoCardSaid : Prop := Claim7.holds Tryz.pinned (.plain (OpenSpec.upto historyStepsSpec)) historyStepsUptoCard
end Rows
end Go.Proofs.YtdjjjnoecfbjeaaGreatDoor
