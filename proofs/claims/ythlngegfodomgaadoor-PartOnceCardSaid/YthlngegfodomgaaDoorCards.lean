/-
  DERIVED. GIVEN WITH THE SEED: THE CARDS: each row of YthlngegfodomgaaDoorRows.lean that lists a variable, with what it lists TIED to the program's text (the seventh form; the later family's looks); each row that meets fmt, with fmt's text TOLD by the authors' own Lean function (tested against real Go, not proved from fmt's source: count such statements apart). THE CARD IS WHAT COUNTS. Prove the row's statement (the work); the ties are given (YthlngegfodomgaaDoorTie.lean); close each card by the builder's one call (the guide's Derived/Test/ToyasCard.lean, 'card_holds'). Laid BY PROGRAM, IN A SANDBOX (cutbox-door.mjs). By AI agents, Wed Nov 11 2026. No macro, syntax, notation, axiom, sorry.
-/
import Derived.Test.YthlngegfodomgaaDoorRows
import GoSem.ClaimSeven
namespace Go.Proofs.YthlngegfodomgaaDoor
namespace Rows

/-- THE TIED CARD OF 'umpirelaw21.PartSplits'. -/
def partSplitsCard : Claim7 := { stood := { row := partSplitsRow, standIns := [], harness := (true, "7f08dcb08799bd87bf0153081be3820711676bf938870080ce02aebadbb67eb2"), looks := false }, kinds := [], alts := [], laidByText := true, laidKinds := [.data, .data, .data, .data], laidTests := true, laidLooks := .later }
def PartSplitsCardSaid : Prop := Claim7.holds Tryd.pinned (.plain (OpenSpec.ofChange partSplitsSpec)) partSplitsCard

/-- THE TIED CARD OF 'umpirelaw21.PartOnce'. -/
def partOnceCard : Claim7 := { stood := { row := partOnceRow, standIns := [], harness := (true, "7f08dcb08799bd87bf0153081be3820711676bf938870080ce02aebadbb67eb2"), looks := false }, kinds := [], alts := [], laidByText := true, laidKinds := [.data, .data, .data, .data], laidTests := true, laidLooks := .later }
def PartOnceCardSaid : Prop := Claim7.holds Tryd.pinned (.plain (OpenSpec.ofChange partOnceSpec)) partOnceCard

/-- THE SECOND FORM's CARD OF 'umpirelaw21.PartSplits'. -/
def partSplitsUptoCard : Claim7 := { stood := { row := partSplitsUptoRow, standIns := [], harness := (true, "7f08dcb08799bd87bf0153081be3820711676bf938870080ce02aebadbb67eb2"), looks := false }, kinds := [], alts := [], laidByText := true, laidKinds := [.data, .data, .data, .data], laidTests := true, laidLooks := .later }
def PartSplitsUptoCardSaid : Prop := Claim7.holds Tryd.pinned (.plain (OpenSpec.upto partSplitsSpec)) partSplitsUptoCard

/-- THE SECOND FORM's CARD OF 'umpirelaw21.PartOnce'. -/
def partOnceUptoCard : Claim7 := { stood := { row := partOnceUptoRow, standIns := [], harness := (true, "7f08dcb08799bd87bf0153081be3820711676bf938870080ce02aebadbb67eb2"), looks := false }, kinds := [], alts := [], laidByText := true, laidKinds := [.data, .data, .data, .data], laidTests := true, laidLooks := .later }
def PartOnceUptoCardSaid : Prop := Claim7.holds Tryd.pinned (.plain (OpenSpec.upto partOnceSpec)) partOnceUptoCard
end Rows
end Go.Proofs.YthlngegfodomgaaDoor
