/-
  No cell of these rows narrows 'for every input' (looked for: loops, veiled, ifaces, maps, wideKeys, modest, calm, conditions, laid).
  DERIVED. THE GIVEN ROWS OF THIS SEAT. 5 by the template 'for every input the law returns true; each argument reads behind the call as it read before'; 0 by the template 'total and deterministic' (their statements: YtjomjlodmelnbaaTotals.lean).
  GIVEN WITH THE SEED: the statements are not yours to turn. If you find one false, say at which input.
  Laid BY PROGRAM, IN A SANDBOX (cutbox-rows.mjs): the forced cells as the released guide's own fill.sh prints them over the translation c333b6467c688b20… (all of the seat's roots in one cut). By AI agents, Wed Nov 11 2026. No macro, syntax, notation, axiom, sorry.
-/
import Derived.Test.YtjomjlodmelnbaaChecked
import GoSem.Claim
import GoSem.ClaimJoined
import GoSem.ClaimMapViews
import Derived.JoinedTies
import Derived.KernelRfl
namespace Go.Proofs.Ytjomjlodmelnbaa
/- THE CELL 'sum', in the pinned program and in every row, IS THE sha256 OF THE DUMP (.gsa) THAT YtjomjlodmelnbaaProg.lean LOADS. Nothing in Lean hashes anything: it is a label: what it is worth is what the hold of that sum in a sandbox is worth. -/
noncomputable def Try.pinned : Pinned := { name := "ytjomjlodmelnbaa", sum := "c333b6467c688b202df266f28c9c8b13bb3e0bbb8960e6cd140317e257a80c3e", checked := Try.checked }
namespace Rows
def none {H : Type} : Left H := { results := [], args := [] }

/-- 'umpirelaw16.EntriesAll': WHATEVER THE INPUT: true; the input reads as it did. -/
def entriesAllSpec : ChangeSpec := { name := "entriesAll", fn := fun _ => fun
  | [d1, d2] => { results := [.lit (.bool true)], args := [d1, d2] }
  | _ => none }
def entriesAllRow : OpenClaim := { program := "ytjomjlodmelnbaa", sum := "c333b6467c688b202df266f28c9c8b13bb3e0bbb8960e6cd140317e257a80c3e", func := "umpire/umpirelaw16.EntriesAll", spec := "entriesAll", unfollowed := true, recurses := true, apart := false }
def EntriesAllSaid : Prop := entriesAllRow.holds Try.pinned (OpenSpec.ofChange entriesAllSpec)

/-- ITS FALSE NEIGHBOUR: 'it returns false'. Refute it at one input. -/
def entriesAllWrong : ChangeSpec := { name := "entriesAll", fn := fun _ => fun
  | [d1, d2] => { results := [.lit (.bool false)], args := [d1, d2] }
  | _ => none }
def EntriesAllWrongFalsely : Prop := entriesAllRow.holds Try.pinned (OpenSpec.ofChange entriesAllWrong)

/-- 'umpirelaw16.EntriesOrder': WHATEVER THE INPUT: true; the input reads as it did. -/
def entriesOrderSpec : ChangeSpec := { name := "entriesOrder", fn := fun _ => fun
  | [d1, d2] => { results := [.lit (.bool true)], args := [d1, d2] }
  | _ => none }
def entriesOrderRow : OpenClaim := { program := "ytjomjlodmelnbaa", sum := "c333b6467c688b202df266f28c9c8b13bb3e0bbb8960e6cd140317e257a80c3e", func := "umpire/umpirelaw16.EntriesOrder", spec := "entriesOrder", unfollowed := true, recurses := true, apart := false }
def EntriesOrderSaid : Prop := entriesOrderRow.holds Try.pinned (OpenSpec.ofChange entriesOrderSpec)

/-- ITS FALSE NEIGHBOUR: 'it returns false'. Refute it at one input. -/
def entriesOrderWrong : ChangeSpec := { name := "entriesOrder", fn := fun _ => fun
  | [d1, d2] => { results := [.lit (.bool false)], args := [d1, d2] }
  | _ => none }
def EntriesOrderWrongFalsely : Prop := entriesOrderRow.holds Try.pinned (OpenSpec.ofChange entriesOrderWrong)

/-- 'umpirelaw16.EntriesPlay': WHATEVER THE INPUT: true; the input reads as it did. -/
def entriesPlaySpec : ChangeSpec := { name := "entriesPlay", fn := fun _ => fun
  | [d1, d2, d3] => { results := [.lit (.bool true)], args := [d1, d2, d3] }
  | _ => none }
def entriesPlayRow : OpenClaim := { program := "ytjomjlodmelnbaa", sum := "c333b6467c688b202df266f28c9c8b13bb3e0bbb8960e6cd140317e257a80c3e", func := "umpire/umpirelaw16.EntriesPlay", spec := "entriesPlay", unfollowed := true, recurses := true, apart := false }
def EntriesPlaySaid : Prop := entriesPlayRow.holds Try.pinned (OpenSpec.ofChange entriesPlaySpec)

/-- ITS FALSE NEIGHBOUR: 'it returns false'. Refute it at one input. -/
def entriesPlayWrong : ChangeSpec := { name := "entriesPlay", fn := fun _ => fun
  | [d1, d2, d3] => { results := [.lit (.bool false)], args := [d1, d2, d3] }
  | _ => none }
def EntriesPlayWrongFalsely : Prop := entriesPlayRow.holds Try.pinned (OpenSpec.ofChange entriesPlayWrong)

/-- 'umpirelaw16.EntriesBack': WHATEVER THE INPUT: true; the input reads as it did. -/
def entriesBackSpec : ChangeSpec := { name := "entriesBack", fn := fun _ => fun
  | [d1, d2] => { results := [.lit (.bool true)], args := [d1, d2] }
  | _ => none }
def entriesBackRow : OpenClaim := { program := "ytjomjlodmelnbaa", sum := "c333b6467c688b202df266f28c9c8b13bb3e0bbb8960e6cd140317e257a80c3e", func := "umpire/umpirelaw16.EntriesBack", spec := "entriesBack", unfollowed := true, recurses := true, apart := false }
def EntriesBackSaid : Prop := entriesBackRow.holds Try.pinned (OpenSpec.ofChange entriesBackSpec)

/-- ITS FALSE NEIGHBOUR: 'it returns false'. Refute it at one input. -/
def entriesBackWrong : ChangeSpec := { name := "entriesBack", fn := fun _ => fun
  | [d1, d2] => { results := [.lit (.bool false)], args := [d1, d2] }
  | _ => none }
def EntriesBackWrongFalsely : Prop := entriesBackRow.holds Try.pinned (OpenSpec.ofChange entriesBackWrong)

/-- 'umpirelaw16.EntriesKnown': WHATEVER THE INPUT: true; the input reads as it did. -/
def entriesKnownSpec : ChangeSpec := { name := "entriesKnown", fn := fun _ => fun
  | [] => { results := [.lit (.bool true)], args := [] }
  | _ => none }
def entriesKnownRow : OpenClaim := { program := "ytjomjlodmelnbaa", sum := "c333b6467c688b202df266f28c9c8b13bb3e0bbb8960e6cd140317e257a80c3e", func := "umpire/umpirelaw16.EntriesKnown", spec := "entriesKnown", unfollowed := true, recurses := true, apart := false }
def EntriesKnownSaid : Prop := entriesKnownRow.holds Try.pinned (OpenSpec.ofChange entriesKnownSpec)

/-- ITS FALSE NEIGHBOUR: 'it returns false'. Refute it at one input. -/
def entriesKnownWrong : ChangeSpec := { name := "entriesKnown", fn := fun _ => fun
  | [] => { results := [.lit (.bool false)], args := [] }
  | _ => none }
def EntriesKnownWrongFalsely : Prop := entriesKnownRow.holds Try.pinned (OpenSpec.ofChange entriesKnownWrong)

/- THE SECOND FORM. 'bulk': how many values and letters a reading holds, each counted each time it is reached (what is shared counts as often as it is met; a slice's spare places count too). A statement '..UptoSaid' is the law's where the arguments, and the package variables that the reading takes, are together of bulk at most 1048576: NARROWER than '..Said'. Prove '..Said' where nothing that the law and all that it calls make is longer than what came in: it says more and counts as full. Else prove '..UptoSaid'. A law counts once. -/
mutual
def uptoBulk {H : Type} : DataW H → Nat
  | .lit (.string bytes) => bytes.length + 1
  | .lit _ => 1
  | .nil => 1
  | .ptr d => uptoBulk d + 1
  | .slice elems spare => uptoBulkAll elems + uptoBulkAll spare + 1
  | .agg parts => uptoBulkAll parts + 1
  | .iface _ d => uptoBulk d + 1
  | .map entries => uptoBulkEntries entries + 1
  | .held _ => 1
def uptoBulkAll {H : Type} : List (DataW H) → Nat
  | [] => 0
  | d :: r => uptoBulk d + uptoBulkAll r
def uptoBulkEntries {H : Type} : List (Lit × DataW H) → Nat
  | [] => 0
  | x :: r => uptoBulkEntry x + uptoBulkEntries r
def uptoBulkEntry {H : Type} : Lit × DataW H → Nat
  | (.string bytes, d) => bytes.length + uptoBulk d + 1
  | (_, d) => uptoBulk d + 1
 end
def uptoSmall : (H : Type) → List (DataW H) → Bool := fun _ ds => decide (uptoBulkAll ds ≤ 1048576)
def OpenSpec.upto (s : _root_.Go.ChangeSpec) : _root_.Go.OpenSpec := { _root_.Go.OpenSpec.ofChange s with cond := some uptoSmall }

/-- 'umpirelaw16.EntriesAll', WHERE WHAT IT READS IS OF BULK AT MOST 1048576: true; the input reads as it did. -/
def entriesAllUptoRow : OpenClaim := { program := "ytjomjlodmelnbaa", sum := "c333b6467c688b202df266f28c9c8b13bb3e0bbb8960e6cd140317e257a80c3e", func := "umpire/umpirelaw16.EntriesAll", spec := "entriesAll", unfollowed := true, recurses := true, apart := false, narrowed := true }
def EntriesAllUptoSaid : Prop := entriesAllUptoRow.holds Try.pinned (OpenSpec.upto entriesAllSpec)

/-- 'umpirelaw16.EntriesOrder', WHERE WHAT IT READS IS OF BULK AT MOST 1048576: true; the input reads as it did. -/
def entriesOrderUptoRow : OpenClaim := { program := "ytjomjlodmelnbaa", sum := "c333b6467c688b202df266f28c9c8b13bb3e0bbb8960e6cd140317e257a80c3e", func := "umpire/umpirelaw16.EntriesOrder", spec := "entriesOrder", unfollowed := true, recurses := true, apart := false, narrowed := true }
def EntriesOrderUptoSaid : Prop := entriesOrderUptoRow.holds Try.pinned (OpenSpec.upto entriesOrderSpec)

/-- 'umpirelaw16.EntriesPlay', WHERE WHAT IT READS IS OF BULK AT MOST 1048576: true; the input reads as it did. -/
def entriesPlayUptoRow : OpenClaim := { program := "ytjomjlodmelnbaa", sum := "c333b6467c688b202df266f28c9c8b13bb3e0bbb8960e6cd140317e257a80c3e", func := "umpire/umpirelaw16.EntriesPlay", spec := "entriesPlay", unfollowed := true, recurses := true, apart := false, narrowed := true }
def EntriesPlayUptoSaid : Prop := entriesPlayUptoRow.holds Try.pinned (OpenSpec.upto entriesPlaySpec)

/-- 'umpirelaw16.EntriesBack', WHERE WHAT IT READS IS OF BULK AT MOST 1048576: true; the input reads as it did. -/
def entriesBackUptoRow : OpenClaim := { program := "ytjomjlodmelnbaa", sum := "c333b6467c688b202df266f28c9c8b13bb3e0bbb8960e6cd140317e257a80c3e", func := "umpire/umpirelaw16.EntriesBack", spec := "entriesBack", unfollowed := true, recurses := true, apart := false, narrowed := true }
def EntriesBackUptoSaid : Prop := entriesBackUptoRow.holds Try.pinned (OpenSpec.upto entriesBackSpec)

/-- 'umpirelaw16.EntriesKnown', WHERE WHAT IT READS IS OF BULK AT MOST 1048576: true; the input reads as it did. -/
def entriesKnownUptoRow : OpenClaim := { program := "ytjomjlodmelnbaa", sum := "c333b6467c688b202df266f28c9c8b13bb3e0bbb8960e6cd140317e257a80c3e", func := "umpire/umpirelaw16.EntriesKnown", spec := "entriesKnown", unfollowed := true, recurses := true, apart := false, narrowed := true }
def EntriesKnownUptoSaid : Prop := entriesKnownUptoRow.holds Try.pinned (OpenSpec.upto entriesKnownSpec)

end Rows
end Go.Proofs.Ytjomjlodmelnbaa
