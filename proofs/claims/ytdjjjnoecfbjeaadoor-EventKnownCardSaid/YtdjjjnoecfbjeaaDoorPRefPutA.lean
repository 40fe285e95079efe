/- umpireref05.Put: events that may not be, and those of kind 1. No condition but that the event can be read, and its numbers' bounds. -/
import Derived.Test.YtdjjjnoecfbjeaaDoorPEvCheck
import Derived.Test.YtdjjjnoecfbjeaaDoorPRefN
set_option linter.all false
set_option linter.unusedVariables false
set_option linter.unusedSimpArgs false
set_option linter.unnecessarySimpa false
/- umpireref05.Put: events that may not be, and those of kind 1. No condition but that the event can be read, and its numbers' bounds. -/
namespace Go.Proofs.YtdjjjnoecfbjeaaDoor
open Go.RowKit

theorem kindOf {x : Ev} (h : x.may = true) : x.kindMay = true := by unfold Ev.may at h; simp only [Bool.and_eq_true] at h; exact h.1.1
theorem ret_str0 {a : ByteArray} {l : List UInt8} (h : a.data.toList = l) : Ending.returned (.tuple #[.string a, .int .i64 0]) = Ending.returned (.tuple #[.string ⟨l.toArray⟩, .int .i64 0]) := by subst h; simp
end Go.Proofs.YtdjjjnoecfbjeaaDoor
