/-
  No cell of these rows narrows 'for every input' (looked for: loops, veiled, ifaces, maps, wideKeys, modest, calm, conditions, laid).
  DERIVED. THE GIVEN ROWS OF THIS SEAT. 6 by the template 'for every input the law returns true; each argument reads behind the call as it read before'; 0 by the template 'total and deterministic' (their statements: YtadognaafgndnaaTotals.lean).
  GIVEN WITH THE SEED: the statements are not yours to turn. If you find one false, say at which input.
  Laid BY PROGRAM, IN A SANDBOX (cutbox-rows.mjs): the forced cells as the released guide's own fill.sh prints them over the translation 85b020cdbadb0b6e… (all of the seat's roots in one cut). By AI agents, Wed Nov 11 2026. No macro, syntax, notation, axiom, sorry.
-/
import Derived.Test.YtadognaafgndnaaChecked
import GoSem.Claim
import GoSem.ClaimJoined
import GoSem.ClaimMapViews
import Derived.JoinedTies
import Derived.KernelRfl
namespace Go.Proofs.Ytadognaafgndnaa
/- THE CELL 'sum', in the pinned program and in every row, IS THE sha256 OF THE DUMP (.gsa) THAT YtadognaafgndnaaProg.lean LOADS. Nothing in Lean hashes anything: it is a label: what it is worth is what the hold of that sum in a sandbox is worth. -/
noncomputable def Try.pinned : Pinned := { name := "ytadognaafgndnaa", sum := "85b020cdbadb0b6eafddffb82584622be7162ec35c52b72782a50d63af53b65a", checked := Try.checked }
namespace Rows
def none {H : Type} : Left H := { results := [], args := [] }

/-- 'umpirelaw28.SccOrder': WHATEVER THE INPUT: true; the input reads as it did. -/
def sccOrderSpec : ChangeSpec := { name := "sccOrder", fn := fun _ => fun
  | [d] => { results := [.lit (.bool true)], args := [d] }
  | _ => none }
def sccOrderRow : OpenClaim := { program := "ytadognaafgndnaa", sum := "85b020cdbadb0b6eafddffb82584622be7162ec35c52b72782a50d63af53b65a", func := "umpire/umpirelaw28.SccOrder", spec := "sccOrder", unfollowed := true, recurses := true, apart := false }
def SccOrderSaid : Prop := sccOrderRow.holds Try.pinned (OpenSpec.ofChange sccOrderSpec)

/-- ITS FALSE NEIGHBOUR: 'it returns false'. Refute it at one input. -/
def sccOrderWrong : ChangeSpec := { name := "sccOrder", fn := fun _ => fun
  | [d] => { results := [.lit (.bool false)], args := [d] }
  | _ => none }
def SccOrderWrongFalsely : Prop := sccOrderRow.holds Try.pinned (OpenSpec.ofChange sccOrderWrong)

/-- 'umpirelaw28.SccEnds': WHATEVER THE INPUT: true; the input reads as it did. -/
def sccEndsSpec : ChangeSpec := { name := "sccEnds", fn := fun _ => fun
  | [d] => { results := [.lit (.bool true)], args := [d] }
  | _ => none }
def sccEndsRow : OpenClaim := { program := "ytadognaafgndnaa", sum := "85b020cdbadb0b6eafddffb82584622be7162ec35c52b72782a50d63af53b65a", func := "umpire/umpirelaw28.SccEnds", spec := "sccEnds", unfollowed := true, recurses := true, apart := false }
def SccEndsSaid : Prop := sccEndsRow.holds Try.pinned (OpenSpec.ofChange sccEndsSpec)

/-- ITS FALSE NEIGHBOUR: 'it returns false'. Refute it at one input. -/
def sccEndsWrong : ChangeSpec := { name := "sccEnds", fn := fun _ => fun
  | [d] => { results := [.lit (.bool false)], args := [d] }
  | _ => none }
def SccEndsWrongFalsely : Prop := sccEndsRow.holds Try.pinned (OpenSpec.ofChange sccEndsWrong)

/-- 'umpirelaw28.SccTwice': WHATEVER THE INPUT: true; the input reads as it did. -/
def sccTwiceSpec : ChangeSpec := { name := "sccTwice", fn := fun _ => fun
  | [d] => { results := [.lit (.bool true)], args := [d] }
  | _ => none }
def sccTwiceRow : OpenClaim := { program := "ytadognaafgndnaa", sum := "85b020cdbadb0b6eafddffb82584622be7162ec35c52b72782a50d63af53b65a", func := "umpire/umpirelaw28.SccTwice", spec := "sccTwice", unfollowed := true, recurses := true, apart := false }
def SccTwiceSaid : Prop := sccTwiceRow.holds Try.pinned (OpenSpec.ofChange sccTwiceSpec)

/-- ITS FALSE NEIGHBOUR: 'it returns false'. Refute it at one input. -/
def sccTwiceWrong : ChangeSpec := { name := "sccTwice", fn := fun _ => fun
  | [d] => { results := [.lit (.bool false)], args := [d] }
  | _ => none }
def SccTwiceWrongFalsely : Prop := sccTwiceRow.holds Try.pinned (OpenSpec.ofChange sccTwiceWrong)

/-- 'umpirelaw28.SccTells': WHATEVER THE INPUT: true; the input reads as it did. -/
def sccTellsSpec : ChangeSpec := { name := "sccTells", fn := fun _ => fun
  | [d] => { results := [.lit (.bool true)], args := [d] }
  | _ => none }
def sccTellsRow : OpenClaim := { program := "ytadognaafgndnaa", sum := "85b020cdbadb0b6eafddffb82584622be7162ec35c52b72782a50d63af53b65a", func := "umpire/umpirelaw28.SccTells", spec := "sccTells", unfollowed := true, recurses := true, apart := false }
def SccTellsSaid : Prop := sccTellsRow.holds Try.pinned (OpenSpec.ofChange sccTellsSpec)

/-- ITS FALSE NEIGHBOUR: 'it returns false'. Refute it at one input. -/
def sccTellsWrong : ChangeSpec := { name := "sccTells", fn := fun _ => fun
  | [d] => { results := [.lit (.bool false)], args := [d] }
  | _ => none }
def SccTellsWrongFalsely : Prop := sccTellsRow.holds Try.pinned (OpenSpec.ofChange sccTellsWrong)

/-- 'umpirelaw28.SccMeets': WHATEVER THE INPUT: true; the input reads as it did. -/
def sccMeetsSpec : ChangeSpec := { name := "sccMeets", fn := fun _ => fun
  | [d] => { results := [.lit (.bool true)], args := [d] }
  | _ => none }
def sccMeetsRow : OpenClaim := { program := "ytadognaafgndnaa", sum := "85b020cdbadb0b6eafddffb82584622be7162ec35c52b72782a50d63af53b65a", func := "umpire/umpirelaw28.SccMeets", spec := "sccMeets", unfollowed := true, recurses := true, apart := false }
def SccMeetsSaid : Prop := sccMeetsRow.holds Try.pinned (OpenSpec.ofChange sccMeetsSpec)

/-- ITS FALSE NEIGHBOUR: 'it returns false'. Refute it at one input. -/
def sccMeetsWrong : ChangeSpec := { name := "sccMeets", fn := fun _ => fun
  | [d] => { results := [.lit (.bool false)], args := [d] }
  | _ => none }
def SccMeetsWrongFalsely : Prop := sccMeetsRow.holds Try.pinned (OpenSpec.ofChange sccMeetsWrong)

/-- 'umpirelaw28.SccKnown': WHATEVER THE INPUT: true; the input reads as it did. -/
def sccKnownSpec : ChangeSpec := { name := "sccKnown", fn := fun _ => fun
  | [] => { results := [.lit (.bool true)], args := [] }
  | _ => none }
def sccKnownRow : OpenClaim := { program := "ytadognaafgndnaa", sum := "85b020cdbadb0b6eafddffb82584622be7162ec35c52b72782a50d63af53b65a", func := "umpire/umpirelaw28.SccKnown", spec := "sccKnown", unfollowed := true, recurses := true, apart := false }
def SccKnownSaid : Prop := sccKnownRow.holds Try.pinned (OpenSpec.ofChange sccKnownSpec)

/-- ITS FALSE NEIGHBOUR: 'it returns false'. Refute it at one input. -/
def sccKnownWrong : ChangeSpec := { name := "sccKnown", fn := fun _ => fun
  | [] => { results := [.lit (.bool false)], args := [] }
  | _ => none }
def SccKnownWrongFalsely : Prop := sccKnownRow.holds Try.pinned (OpenSpec.ofChange sccKnownWrong)

/- THE SECOND FORM. 'bulk': how many values and letters a reading holds, each counted each time it is reached (what is shared counts as often as it is met; a slice's spare places count too). A statement '..UptoSaid' is the law's where the arguments, and the package variables that the reading takes, are together of bulk at most 1048576: NARROWER than '..Said'. Prove '..Said' where nothing that the law and all that it calls make is longer than what came in: it says more and counts as full. Else prove '..UptoSaid'. A law counts once. -/
mutual
def uptoBulk {H : Type} : DataW H → Nat
  | .lit (.string bytes) => bytes.length + 1
  | .lit _ => 1
  | .nil => 1
  | .ptr d => uptoBulk d + 1
  | .slice elems spare => uptoBulkAll elems + uptoBulkAll spare + 1
  | .agg parts => uptoBulkAll parts + 1
  | .iface _ d => uptoBulk d + 1
  | .map entries => uptoBulkEntries entries + 1
  | .held _ => 1
def uptoBulkAll {H : Type} : List (DataW H) → Nat
  | [] => 0
  | d :: r => uptoBulk d + uptoBulkAll r
def uptoBulkEntries {H : Type} : List (Lit × DataW H) → Nat
  | [] => 0
  | x :: r => uptoBulkEntry x + uptoBulkEntries r
def uptoBulkEntry {H : Type} : Lit × DataW H → Nat
  | (.string bytes, d) => bytes.length + uptoBulk d + 1
  | (_, d) => uptoBulk d + 1
 end
def uptoSmall : (H : Type) → List (DataW H) → Bool := fun _ ds => decide (uptoBulkAll ds ≤ 1048576)
def OpenSpec.upto (s : _root_.Go.ChangeSpec) : _root_.Go.OpenSpec := { _root_.Go.OpenSpec.ofChange s with cond := some uptoSmall }

/-- 'umpirelaw28.SccOrder', WHERE WHAT IT READS IS OF BULK AT MOST 1048576: true; the input reads as it did. -/
def sccOrderUptoRow : OpenClaim := { program := "ytadognaafgndnaa", sum := "85b020cdbadb0b6eafddffb82584622be7162ec35c52b72782a50d63af53b65a", func := "umpire/umpirelaw28.SccOrder", spec := "sccOrder", unfollowed := true, recurses := true, apart := false, narrowed := true }
def SccOrderUptoSaid : Prop := sccOrderUptoRow.holds Try.pinned (OpenSpec.upto sccOrderSpec)

/-- 'umpirelaw28.SccEnds', WHERE WHAT IT READS IS OF BULK AT MOST 1048576: true; the input reads as it did. -/
def sccEndsUptoRow : OpenClaim := { program := "ytadognaafgndnaa", sum := "85b020cdbadb0b6eafddffb82584622be7162ec35c52b72782a50d63af53b65a", func := "umpire/umpirelaw28.SccEnds", spec := "sccEnds", unfollowed := true, recurses := true, apart := false, narrowed := true }
def SccEndsUptoSaid : Prop := sccEndsUptoRow.holds Try.pinned (OpenSpec.upto sccEndsSpec)

/-- 'umpirelaw28.SccTwice', WHERE WHAT IT READS IS OF BULK AT MOST 1048576: true; the input reads as it did. -/
def sccTwiceUptoRow : OpenClaim := { program := "ytadognaafgndnaa", sum := "85b020cdbadb0b6eafddffb82584622be7162ec35c52b72782a50d63af53b65a", func := "umpire/umpirelaw28.SccTwice", spec := "sccTwice", unfollowed := true, recurses := true, apart := false, narrowed := true }
def SccTwiceUptoSaid : Prop := sccTwiceUptoRow.holds Try.pinned (OpenSpec.upto sccTwiceSpec)

/-- 'umpirelaw28.SccTells', WHERE WHAT IT READS IS OF BULK AT MOST 1048576: true; the input reads as it did. -/
def sccTellsUptoRow : OpenClaim := { program := "ytadognaafgndnaa", sum := "85b020cdbadb0b6eafddffb82584622be7162ec35c52b72782a50d63af53b65a", func := "umpire/umpirelaw28.SccTells", spec := "sccTells", unfollowed := true, recurses := true, apart := false, narrowed := true }
def SccTellsUptoSaid : Prop := sccTellsUptoRow.holds Try.pinned (OpenSpec.upto sccTellsSpec)

/-- 'umpirelaw28.SccMeets', WHERE WHAT IT READS IS OF BULK AT MOST 1048576: true; the input reads as it did. -/
def sccMeetsUptoRow : OpenClaim := { program := "ytadognaafgndnaa", sum := "85b020cdbadb0b6eafddffb82584622be7162ec35c52b72782a50d63af53b65a", func := "umpire/umpirelaw28.SccMeets", spec := "sccMeets", unfollowed := true, recurses := true, apart := false, narrowed := true }
def SccMeetsUptoSaid : Prop := sccMeetsUptoRow.holds Try.pinned (OpenSpec.upto sccMeetsSpec)

/-- 'umpirelaw28.SccKnown', WHERE WHAT IT READS IS OF BULK AT MOST 1048576: true; the input reads as it did. -/
def sccKnownUptoRow : OpenClaim := { program := "ytadognaafgndnaa", sum := "85b020cdbadb0b6eafddffb82584622be7162ec35c52b72782a50d63af53b65a", func := "umpire/umpirelaw28.SccKnown", spec := "sccKnown", unfollowed := true, recurses := true, apart := false, narrowed := true }
def SccKnownUptoSaid : Prop := sccKnownUptoRow.holds Try.pinned (OpenSpec.upto sccKnownSpec)

end Rows
end Go.Proofs.Ytadognaafgndnaa
