/-
  NARROWER THAN 'FOR EVERY INPUT', by the rows' own cells (each row's printed sentence says how): HistoryAll: laid · HistorySteps: laid.
  DERIVED. THE GIVEN ROWS OF THIS SEAT. 2 by the template 'for every input the law returns true; each argument reads behind the call as it read before'; 0 by the template 'total and deterministic' (their statements: YtdjjjnoecfbjeaaGreatDoorTotals.lean).
  GIVEN WITH THE SEED: the statements are not yours to turn. If you find one false, say at which input.
  Laid BY PROGRAM, IN A SANDBOX (cutbox-rows.mjs): the forced cells as the released guide's own fill.sh prints them over the translation 947e188c29a098ca… (all of the seat's roots in one cut). By AI agents, Wed Nov 11 2026. No macro, syntax, notation, axiom, sorry.
-/
import Derived.Test.YtdjjjnoecfbjeaaGreatDoorChecked
import GoSem.Claim
import GoSem.ClaimJoined
import GoSem.ClaimMapViews
import Derived.JoinedTies
import Derived.KernelRfl
namespace Go.Proofs.YtdjjjnoecfbjeaaGreatDoor
/- THE CELL 'sum', in the pinned program and in every row, IS THE sha256 OF THE DUMP (.gsa) THAT YtdjjjnoecfbjeaaGreatDoorProg.lean LOADS. Nothing in Lean hashes anything: it is a label: what it is worth is what the hold of that sum in a sandbox is worth. -/
noncomputable def Tryz.pinned : Pinned := { name := "ytdjjjnoecfbjeaagreatdoor", sum := "947e188c29a098ca8b461cd5d6297e06f5124f11e9a8d37f9743e9caf7d903f6", checked := Tryz.checked }
namespace Rows
def none {H : Type} : Left H := { results := [], args := [] }

/- WHAT THE LISTED PACKAGE-LEVEL VARIABLES READ AS WHEN THE CALL BEGINS. Each datum BY PROGRAM (the guide's laid-datum.mjs) off the statement by which the dump's own 'gosem.cut.vars' lays the variable. In a bare row this is a premise. The card (YtdjjjnoecfbjeaaGreatDoorCards.lean) ties it to the program's text. -/
def laid_umpire_op_kinds {H : Type} : DataW H := .agg [.agg [.lit (.int .u8 0), .lit (.string []), .lit (.int .u8 0)], .agg [.lit (.int .u8 0), .lit (.string [114, 101, 97, 100]), .lit (.int .u8 0)], .agg [.lit (.int .u8 0), .lit (.string [119, 114, 105, 116, 101]), .lit (.int .u8 2)], .agg [.lit (.int .u8 0), .lit (.string [99, 97, 115]), .lit (.int .u8 6)], .agg [.lit (.int .u8 1), .lit (.string [101, 110, 113]), .lit (.int .u8 2)], .agg [.lit (.int .u8 1), .lit (.string [100, 101, 113]), .lit (.int .u8 0)], .agg [.lit (.int .u8 2), .lit (.string [103, 101, 116]), .lit (.int .u8 1)], .agg [.lit (.int .u8 2), .lit (.string [112, 117, 116]), .lit (.int .u8 3)], .agg [.lit (.int .u8 2), .lit (.string [100, 101, 108]), .lit (.int .u8 1)], .agg [.lit (.int .u8 2), .lit (.string [115, 119, 97, 112]), .lit (.int .u8 7)], .agg [.lit (.int .u8 3), .lit (.string [97, 99, 113, 117, 105, 114, 101]), .lit (.int .u8 0)], .agg [.lit (.int .u8 3), .lit (.string [114, 101, 108, 101, 97, 115, 101]), .lit (.int .u8 0)]]

/-- 'umpirelaw07.HistoryAll': WHATEVER THE INPUT: true; the input reads as it did. -/
def historyAllSpec : ChangeSpec := { name := "historyAll", fn := fun _ => fun
  | [d] => { results := [.lit (.bool true)], args := [d] }
  | _ => none }
def historyAllRow : OpenClaim := { program := "ytdjjjnoecfbjeaagreatdoor", sum := "947e188c29a098ca8b461cd5d6297e06f5124f11e9a8d37f9743e9caf7d903f6", func := "umpire/umpirelaw07.HistoryAll", spec := "historyAll", unfollowed := true, recurses := true, named := ["umpire/op.kinds"], plainKeys := false, apart := false, laid := [("umpire/op.kinds", laid_umpire_op_kinds)] }
def HistoryAllSaid : Prop := historyAllRow.holds Tryz.pinned (OpenSpec.ofChange historyAllSpec)

/-- ITS FALSE NEIGHBOUR: 'it returns false'. Refute it at one input. -/
def historyAllWrong : ChangeSpec := { name := "historyAll", fn := fun _ => fun
  | [d] => { results := [.lit (.bool false)], args := [d] }
  | _ => none }
def HistoryAllWrongFalsely : Prop := historyAllRow.holds Tryz.pinned (OpenSpec.ofChange historyAllWrong)

/-- 'umpirelaw07.HistorySteps': WHATEVER THE INPUT: true; the input reads as it did. -/
def historyStepsSpec : ChangeSpec := { name := "historySteps", fn := fun _ => fun
  | [d] => { results := [.lit (.bool true)], args := [d] }
  | _ => none }
def historyStepsRow : OpenClaim := { program := "ytdjjjnoecfbjeaagreatdoor", sum := "947e188c29a098ca8b461cd5d6297e06f5124f11e9a8d37f9743e9caf7d903f6", func := "umpire/umpirelaw07.HistorySteps", spec := "historySteps", unfollowed := true, recurses := true, named := ["umpire/op.kinds"], plainKeys := false, apart := false, laid := [("umpire/op.kinds", laid_umpire_op_kinds)] }
def HistoryStepsSaid : Prop := historyStepsRow.holds Tryz.pinned (OpenSpec.ofChange historyStepsSpec)

/-- ITS FALSE NEIGHBOUR: 'it returns false'. Refute it at one input. -/
def historyStepsWrong : ChangeSpec := { name := "historySteps", fn := fun _ => fun
  | [d] => { results := [.lit (.bool false)], args := [d] }
  | _ => none }
def HistoryStepsWrongFalsely : Prop := historyStepsRow.holds Tryz.pinned (OpenSpec.ofChange historyStepsWrong)

/- THE SECOND FORM. 'bulk': how many values and letters a reading holds, each counted each time it is reached (what is shared counts as often as it is met; a slice's spare places count too). A statement '..UptoSaid' is the law's where the arguments, and the package variables that the reading takes, are together of bulk at most 1048576: NARROWER than '..Said'. Prove '..Said' where nothing that the law and all that it calls make is longer than what came in: it says more and counts as full. Else prove '..UptoSaid'. A law counts once. -/
mutual
def uptoBulk {H : Type} : DataW H → Nat
  | .lit (.string bytes) => bytes.length + 1
  | .lit _ => 1
  | .nil => 1
  | .ptr d => uptoBulk d + 1
  | .slice elems spare => uptoBulkAll elems + uptoBulkAll spare + 1
  | .agg parts => uptoBulkAll parts + 1
  | .iface _ d => uptoBulk d + 1
  | .map entries => uptoBulkEntries entries + 1
  | .held _ => 1
def uptoBulkAll {H : Type} : List (DataW H) → Nat
  | [] => 0
  | d :: r => uptoBulk d + uptoBulkAll r
def uptoBulkEntries {H : Type} : List (Lit × DataW H) → Nat
  | [] => 0
  | x :: r => uptoBulkEntry x + uptoBulkEntries r
def uptoBulkEntry {H : Type} : Lit × DataW H → Nat
  | (.string bytes, d) => bytes.length + uptoBulk d + 1
  | (_, d) => uptoBulk d + 1
 end
def uptoSmall : (H : Type) → List (DataW H) → Bool := fun _ ds => decide (uptoBulkAll ds ≤ 1048576)
def OpenSpec.upto (s : _root_.Go.ChangeSpec) : _root_.Go.OpenSpec := { _root_.Go.OpenSpec.ofChange s with cond := some uptoSmall }

/-- 'umpirelaw07.HistoryAll', WHERE WHAT IT READS IS OF BULK AT MOST 1048576: true; the input reads as it did. -/
def historyAllUptoRow : OpenClaim := { program := "ytdjjjnoecfbjeaagreatdoor", sum := "947e188c29a098ca8b461cd5d6297e06f5124f11e9a8d37f9743e9caf7d903f6", func := "umpire/umpirelaw07.HistoryAll", spec := "historyAll", unfollowed := true, recurses := true, named := ["umpire/op.kinds"], plainKeys := false, apart := false, laid := [("umpire/op.kinds", laid_umpire_op_kinds)], narrowed := true }
def HistoryAllUptoSaid : Prop := historyAllUptoRow.holds Tryz.pinned (OpenSpec.upto historyAllSpec)

/-- 'umpirelaw07.HistorySteps', WHERE WHAT IT READS IS OF BULK AT MOST 1048576: true; the input reads as it did. -/
def historyStepsUptoRow : OpenClaim := { program := "ytdjjjnoecfbjeaagreatdoor", sum := "947e188c29a098ca8b461cd5d6297e06f5124f11e9a8d37f9743e9caf7d903f6", func := "umpire/umpirelaw07.HistorySteps", spec := "historySteps", unfollowed := true, recurses := true, named := ["umpire/op.kinds"], plainKeys := false, apart := false, laid := [("umpire/op.kinds", laid_umpire_op_kinds)], narrowed := true }
def HistoryStepsUptoSaid : Prop := historyStepsUptoRow.holds Tryz.pinned (OpenSpec.upto historyStepsSpec)

end Rows
end Go.Proofs.YtdjjjnoecfbjeaaGreatDoor
