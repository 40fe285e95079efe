/- What an operation, and words, among the arguments read as. No condition but that the reading succeeds. -/
import Derived.Test.YtfklgaeejmeipaaGreatDoorPArg
import Derived.Test.YtfklgaeejmeipaaGreatDoorPOpPlain
import Derived.Test.YtfklgaeejmeipaaGreatDoorPOpen
import Derived.ChangeMaps5
set_option linter.all false
set_option linter.unusedVariables false
set_option linter.unusedSimpArgs false
set_option linter.unnecessarySimpa false
/- What an operation, and words, among the arguments read as. No condition but that the reading succeeds. -/
namespace Go.Proofs.YtfklgaeejmeipaaGreatDoor
open Go.Joins Go.ChangeShapes Go.WideShapes Go.RowKit Go.Deep

section
variable {H : Type} {enc : TypeId × Value → H} {w : World} {base : Nat} {spare : Nat → Bool} {held : Bool}
set_option maxRecDepth 100000 in
theorem open_op {r : Reach} {b0 : Nat} {v : Value} {d : DataW H} {p : List MemPlace} (hv : Value.okWide Tryz.prog w r b0 24 v) (h : DataW.Trod enc Tryz.prog w base spare held 24 v d p) : ∃ x : OpD, v = x.val ∧ x.Ok := by
  obtain ⟨c0, c1, c2, c3, c4, y0, y1, y2, y3, y4, n1, rfl, _, _, g0, g1, g2, g3, g4⟩ := open_agg5 Tryz.underlying24 (by kernel_rfl) (by kernel_rfl) hv h
  obtain ⟨F, e0, _, wF⟩ := DataW.trod_int Tryz.underlying5 g0
  obtain ⟨O, e1, _, wO⟩ := DataW.trod_int Tryz.underlying5 g1
  obtain ⟨K, e2, _, wK⟩ := DataW.trod_int Tryz.underlying5 g2
  obtain ⟨A, e3, _, wA⟩ := DataW.trod_int Tryz.underlying22 g3
  obtain ⟨B, e4, _, wB⟩ := DataW.trod_int Tryz.underlying22 g4
  simp only [List.cons.injEq, and_true] at e0 e1 e2 e3 e4
  subst e0 e1 e2 e3 e4
  obtain ⟨F, rfl, bF⟩ := wf_u8 wF
  obtain ⟨O, rfl, bO⟩ := wf_u8 wO
  obtain ⟨K, rfl, bK⟩ := wf_u8 wK
  obtain ⟨A, rfl, bA⟩ := wf_u16 wA
  obtain ⟨B, rfl, bB⟩ := wf_u16 wB
  exact ⟨⟨F, O, K, A, B⟩, rfl, ⟨bF, bO, bK, bA, bB⟩⟩
set_option maxRecDepth 100000 in
theorem open_strs {r : Reach} {b0 : Nat} {v : Value} {d : DataW H} {p : List MemPlace} (hv : Value.okWide Tryz.prog w r b0 59 v) (h : DataW.Trod enc Tryz.prog w base spare held 59 v d p) : ∃ l, RdS w v l := by
  obtain ⟨a, n, c, rfl⟩ := okWide_slice Tryz.underlying59 hv
  obtain ⟨fuel, hf⟩ := h
  obtain ⟨u, l, hu, hr⟩ := rdS_of Tryz.underlying59 Tryz.underlying9 (by kernel_rfl) hf
  simp [Value.cells] at hu
  subst hu
  exact ⟨l, hr⟩
end
end Go.Proofs.YtfklgaeejmeipaaGreatDoor
