/- Layer 16: bytes among the arguments. No condition but that the reading succeeds. -/
import Derived.Test.YtjomjlodmelnbaaPEntArg
import Derived.Test.YtjomjlodmelnbaaPEntLaw
set_option linter.all false
set_option linter.unusedVariables false
set_option linter.unusedSimpArgs false
set_option linter.unnecessarySimpa false
/- Layer 16: bytes among the arguments. No condition but that the reading succeeds. -/
namespace Go.Proofs.Ytjomjlodmelnbaa
open Go.Joins Go.ChangeShapes Go.WideShapes Go.RowKit Go.Deep
section
variable {H : Type} {enc : TypeId × Value → H} {w : World} {base : Nat} {spare : Nat → Bool} {held : Bool}
theorem lt_u8 {v : Int} (h : (Lit.int .u8 v).wf = true) : v < 256 := by
  simp [Lit.wf, IntKind.min, IntKind.max, IntKind.signed, IntKind.bits] at h
  omega
set_option maxRecDepth 100000 in
theorem rdU_of {fuel : Nat} {cs : List Value} {x : DataW H × List MemPlace} (h : DataW.trod enc Try.prog w base spare held fuel 23 cs = some x) : ∃ v l, cs = [v] ∧ RdU w v l ∧ l.length ≤ maxLen := by
  rcases open_slice Try.underlying23 h with ⟨rfl, _⟩ | ⟨a, len, cap, m, n, D, Pl, rfl, _, hl, hm, hmm, _, hx⟩
  · exact ⟨_, [], rfl, ⟨none, 0, rfl, Nat.le_refl _, by simp, fun i hi => by simp at hi⟩, Nat.zero_le _⟩
  · have hlm : len ≤ m := by rw [hmm]; split <;> omega
    have hex : ∀ i, i < len → ∃ b : Nat, b < 256 ∧ w.cell? ((a.add (i * 1)).add 0) = some (.int .u8 b) := fun i hi => by
      obtain ⟨cs', h1, h2⟩ := hx i (by omega)
      rw [Try.cellsU8] at h1
      obtain ⟨v, e, _, hw⟩ := DataW.trod_int Try.underlying5 h2
      subst e
      obtain ⟨k, rfl⟩ := nat_u8 hw
      obtain ⟨_, _, hc⟩ := World.cells?_some h1
      exact ⟨k, by have := lt_u8 hw; omega, by rw [hc 0 (by omega)]; rfl⟩
    obtain ⟨f, hf⟩ : ∃ f : Nat → Nat, ∀ i, i < len → f i < 256 ∧ w.cell? ((a.add (i * 1)).add 0) = some (.int .u8 (f i : Nat)) := ⟨fun i => if h : i < len then (hex i h).choose else 0, fun i hi => by simp only [dif_pos hi]; exact (hex i hi).choose_spec⟩
    refine ⟨_, (List.range len).map f, rfl, ⟨some a, cap, by simp, by simpa using hl, fun b hb => ?_, fun i hi => ?_⟩, by simpa using Nat.le_trans hl hm⟩
    · obtain ⟨i, hi, rfl⟩ := List.mem_map.1 hb
      exact (hf i (List.mem_range.1 hi)).1
    · have hil : i < len := by simpa using hi
      have hc0 := (hf i hil).2
      rw [add_add] at hc0
      have hs := spot_add0 (a := a) (by have h9 := (hf 0 (by omega)).2; rw [add_add] at h9; exact h9)
      obtain ⟨b, off, sp⟩ := a
      simp only at hs
      subst hs
      refine ⟨b, off, rfl, ?_⟩
      rw [add_plain] at hc0
      rw [show ((List.range len).map f)[i] = f i by simp]
      simpa using hc0
set_option maxRecDepth 100000 in
theorem open_bytes16L {r : Reach} {b0 : Nat} {v : Value} {d : DataW H} {p : List MemPlace} (hv : Value.okWide Try.prog w r b0 23 v) (h : DataW.Trod enc Try.prog w base spare held 23 v d p) : ∃ l, RdU w v l ∧ l.length ≤ maxLen := by
  obtain ⟨a, n, c, rfl⟩ := okWide_slice Try.underlying23 hv
  obtain ⟨fuel, hf⟩ := h
  obtain ⟨u, l, hu, hr, hn⟩ := rdU_of hf
  simp [Value.cells] at hu
  subst hu
  exact ⟨l, hr, hn⟩
theorem open_bytes16 {r : Reach} {b0 : Nat} {v : Value} {d : DataW H} {p : List MemPlace} (hv : Value.okWide Try.prog w r b0 23 v) (h : DataW.Trod enc Try.prog w base spare held 23 v d p) : ∃ l, RdU w v l :=
  (open_bytes16L hv h).imp fun _ h => h.1
end
end Go.Proofs.Ytjomjlodmelnbaa
