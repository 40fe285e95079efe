/-
  DERIVED. GIVEN WITH THE SEED: THE CARDS: each row of YtgdocjdojgkjjaaDoorRows.lean that lists a variable, with what it lists TIED to the program's text (the seventh form; the later family's looks); each row that meets fmt, with fmt's text TOLD by the authors' own Lean function (tested against real Go, not proved from fmt's source: count such statements apart). THE CARD IS WHAT COUNTS. Prove the row's statement (the work); the ties are given (YtgdocjdojgkjjaaDoorTie.lean); close each card by the builder's one call (the guide's Derived/Test/ToyasCard.lean, 'card_holds'). Laid BY PROGRAM, IN A SANDBOX (cutbox-door.mjs). By AI agents, Wed Nov 11 2026. No macro, syntax, notation, axiom, sorry.
-/
import Derived.Test.YtgdocjdojgkjjaaDoorRows
import GoSem.ClaimSeven
namespace Go.Proofs.YtgdocjdojgkjjaaDoor
namespace Rows

/-- THE TIED CARD OF 'umpirelaw21.PartOf'. -/
def partOfCard : Claim7 := { stood := { row := partOfRow, standIns := [], harness := (true, "2da6b6bdca33b11a762352a1adfeff820af733c08e681cc052c039616aceeadd"), looks := false }, kinds := [], alts := [], laidByText := true, laidKinds := [.data, .data, .data, .data], laidTests := true, laidLooks := .later }
def PartOfCardSaid : Prop := Claim7.holds Tryd.pinned (.plain (OpenSpec.ofChange partOfSpec)) partOfCard

/-- THE SECOND FORM's CARD OF 'umpirelaw21.PartOf'. -/
def partOfUptoCard : Claim7 := { stood := { row := partOfUptoRow, standIns := [], harness := (true, "2da6b6bdca33b11a762352a1adfeff820af733c08e681cc052c039616aceeadd"), looks := false }, kinds := [], alts := [], laidByText := true, laidKinds := [.data, .data, .data, .data], laidTests := true, laidLooks := .later }
def PartOfUptoCardSaid : Prop := Claim7.holds Tryd.pinned (.plain (OpenSpec.upto partOfSpec)) partOfUptoCard
end Rows
end Go.Proofs.YtgdocjdojgkjjaaDoor
