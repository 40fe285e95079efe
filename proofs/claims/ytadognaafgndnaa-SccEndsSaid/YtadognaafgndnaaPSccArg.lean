/- Layer 28: what a graph among the arguments reads as. No condition but that the reading succeeds. -/
import Derived.Test.YtadognaafgndnaaPSccRd
import Derived.Test.YtadognaafgndnaaPOpen
set_option linter.all false
set_option linter.unusedVariables false
set_option linter.unusedSimpArgs false
set_option linter.unnecessarySimpa false
/- Layer 28: what a graph among the arguments reads as. No condition but that the reading succeeds. -/
namespace Go.Proofs.Ytadognaafgndnaa
open Go.Joins Go.ChangeShapes Go.WideShapes Go.RowKit Go.Deep

theorem Try.cellsInt : Try.prog.cellsOf 3 = 1 := by kernel_rfl
theorem Try.cellsSlI : Try.prog.cellsOf 25 = 1 := by kernel_rfl
theorem spot_of {w : World} {a : Addr} {u : Value} (h : w.cell? a = some u) : a.spot = none := by
  unfold World.cell? at h
  split at h
  · split at h
    · cases h
    · rename_i hs
      simpa using hs
  · cases h
theorem spot_add0 {w : World} {a : Addr} {u : Value} (h : w.cell? (a.add 0) = some u) : a.spot = none := spot_of (a := a) (by simpa [Addr.add] using h)
section
variable {H : Type} {enc : TypeId × Value → H} {w : World} {base : Nat} {spare : Nat → Bool} {held : Bool}
set_option maxRecDepth 100000 in
theorem rdZ_of {fuel : Nat} {cs : List Value} {x : DataW H × List MemPlace} (h : DataW.trod enc Try.prog w base spare held fuel 25 cs = some x) : ∃ v l, cs = [v] ∧ RdZ w v l := by
  rcases open_slice Try.underlying25 h with ⟨rfl, _⟩ | ⟨a, len, cap, m, n, D, Pl, rfl, _, hl, hm, hmm, _, hx⟩
  · exact ⟨_, [], rfl, none, 0, rfl, Nat.le_refl _, by decide, fun i hi => by simp at hi⟩
  · have hlm : len ≤ m := by rw [hmm]; split <;> omega
    have hex : ∀ i, i < len → ∃ z : Int, w.cell? ((a.add (i * 1)).add 0) = some (.int .i64 z) := fun i hi => by
      obtain ⟨cs', h1, h2⟩ := hx i (by omega)
      rw [Try.cellsInt] at h1
      obtain ⟨v, e, _, _⟩ := DataW.trod_int Try.underlying3 h2
      subst e
      obtain ⟨_, _, hc⟩ := World.cells?_some h1
      exact ⟨v, by rw [hc 0 (by omega)]; rfl⟩
    obtain ⟨f, hf⟩ : ∃ f : Nat → Int, ∀ i, i < len → w.cell? ((a.add (i * 1)).add 0) = some (.int .i64 (f i)) := ⟨fun i => if h : i < len then (hex i h).choose else 0, fun i hi => by simp only [dif_pos hi]; exact (hex i hi).choose_spec⟩
    refine ⟨_, (List.range len).map f, rfl, some a, cap, by simp, by simpa using hl, (by have h9 := hm; unfold maxLen at h9; omega), fun i hi => ?_⟩
    have hil : i < len := by simpa using hi
    have hc0 := hf i hil
    rw [add_add] at hc0
    have hs := spot_add0 (a := a) (by have h9 := hf 0 (by omega); rw [add_add] at h9; exact h9)
    obtain ⟨b, off, sp⟩ := a
    simp only at hs
    subst hs
    refine ⟨b, off, rfl, ?_⟩
    rw [add_plain] at hc0
    rw [show ((List.range len).map f)[i] = f i by simp]
    simpa using hc0
set_option maxRecDepth 100000 in
theorem rdGZ_of {fuel : Nat} {cs : List Value} {x : DataW H × List MemPlace} (h : DataW.trod enc Try.prog w base spare held fuel 22 cs = some x) : ∃ v G, cs = [v] ∧ RdGZ w v G ∧ (G = [] ∨ ∃ es sp, x.1 = .slice es sp ∧ es.length = G.length) := by
  rcases open_slice Try.underlying22 h with ⟨rfl, _⟩ | ⟨a, len, cap, m, n, D, Pl, rfl, hxe, hl, hm, hmm, hxe2, hx⟩
  · exact ⟨_, [], rfl, ⟨none, 0, rfl, Nat.le_refl _, by decide, fun i hi => by simp at hi⟩, .inl rfl⟩
  · have hlm : len ≤ m := by rw [hmm]; split <;> omega
    have hex : ∀ i, i < len → ∃ p : Value × List Int, w.cell? ((a.add (i * 1)).add 0) = some p.1 ∧ RdZ w p.1 p.2 := fun i hi => by
      obtain ⟨cs', h1, h2⟩ := hx i (by omega)
      rw [Try.cellsSlI] at h1
      obtain ⟨v, l, e, hr⟩ := rdZ_of h2
      subst e
      obtain ⟨_, _, hc⟩ := World.cells?_some h1
      exact ⟨(v, l), by rw [hc 0 (by omega)]; rfl, hr⟩
    obtain ⟨f, hf⟩ : ∃ f : Nat → Value × List Int, ∀ i, i < len → w.cell? ((a.add (i * 1)).add 0) = some (f i).1 ∧ RdZ w (f i).1 (f i).2 := ⟨fun i => if h : i < len then (hex i h).choose else (.bool false, []), fun i hi => by simp only [dif_pos hi]; exact (hex i hi).choose_spec⟩
    refine ⟨_, (List.range len).map fun i => (f i).2, rfl, ⟨some a, cap, by simp, by simpa using hl, (by have h9 := hm; unfold maxLen at h9; omega), fun i hi => ?_⟩, .inr (by first | (subst hxe; exact ⟨_, _, rfl, by simp⟩) | (subst hxe2; exact ⟨_, _, rfl, by simp⟩))⟩
    have hil : i < len := by simpa using hi
    obtain ⟨hc0, hr⟩ := hf i hil
    rw [add_add] at hc0
    have hs := spot_add0 (a := a) (by have h9 := (hf 0 (by omega)).1; rw [add_add] at h9; exact h9)
    obtain ⟨b, off, sp⟩ := a
    simp only at hs
    subst hs
    refine ⟨b, off, (f i).1, rfl, ?_, ?_⟩
    · rw [add_plain] at hc0
      simpa using hc0
    · rw [show ((List.range len).map fun i => (f i).2)[i] = (f i).2 by simp]
      exact hr
set_option maxRecDepth 100000 in
theorem open_graph {r : Reach} {b0 : Nat} {v : Value} {d : DataW H} {p : List MemPlace} (hv : Value.okWide Try.prog w r b0 22 v) (h : DataW.Trod enc Try.prog w base spare held 22 v d p) : ∃ G, RdGZ w v G ∧ (G = [] ∨ ∃ es sp, d = .slice es sp ∧ es.length = G.length) := by
  obtain ⟨a, n, c, rfl⟩ := okWide_slice Try.underlying22 hv
  obtain ⟨fuel, hf⟩ := h
  obtain ⟨u, l, hu, hr, hb⟩ := rdGZ_of hf
  simp [Value.cells] at hu
  subst hu
  exact ⟨l, hr, hb⟩
end
end Go.Proofs.Ytadognaafgndnaa
