/- What a list of events among the arguments reads as. No condition but that the reading succeeds. -/
import Derived.Test.YtdjjjnoecfbjeaaGreatDoorPEvArg
import Derived.Test.YtdjjjnoecfbjeaaGreatDoorPHisStepB
set_option linter.all false
set_option linter.unusedVariables false
set_option linter.unusedSimpArgs false
set_option linter.unnecessarySimpa false
/- What a list of events among the arguments reads as. No condition but that the reading succeeds. -/
namespace Go.Proofs.YtdjjjnoecfbjeaaGreatDoor
open Go.Joins Go.ChangeShapes Go.WideShapes Go.RowKit Go.Deep

instance : Inhabited Ev := ⟨Ev.zero⟩
section
variable {H : Type} {enc : TypeId × Value → H} {w : World} {base : Nat} {spare : Nat → Bool} {held : Bool}
set_option maxRecDepth 100000 in
theorem rdE_of {fuel : Nat} {cs : List Value} {x : DataW H × List MemPlace} (h : DataW.trod enc Tryz.prog w base spare held fuel 22 cs = some x) : ∃ v l, cs = [v] ∧ RdE w v l ∧ ∀ y ∈ l, y.Ok := by
  rcases open_slice Tryz.underlying22 h with ⟨rfl, _⟩ | ⟨a, len, cap, m, n, D, Pl, rfl, _, hl, hm, hmm, _, hx⟩
  · exact ⟨_, [], rfl, ⟨none, 0, rfl, Nat.le_refl _, by decide, .inl rfl⟩, by simp⟩
  · have hlm : len ≤ m := by rw [hmm]; split <;> omega
    obtain ⟨f, hf⟩ := choose_lt (α := Ev) (n := len) (p := fun i y => (∃ t r, (∀ j u, (y.cells t r).toList[j]? = some u → w.cell? ((a.add (i * 19)).add j) = some u) ∧ RdM w t y.txn ∧ RdR w r y.reads) ∧ y.Ok) (fun i hi => by
      obtain ⟨cs', h1, h2⟩ := hx i (by omega)
      rw [Tryz.cellsEv] at h1
      obtain ⟨y, t, r, rfl, g1, g2, ok⟩ := ev_of h2
      obtain ⟨_, _, hc⟩ := World.cells?_some h1
      refine ⟨y, ⟨t, r, fun j u hj => ?_, g1, g2⟩, ok⟩
      rw [hc j (by have h19 : (y.cells t r).toList.length = 19 := rfl; have := (List.getElem?_eq_some_iff.1 hj).1; omega)]
      exact hj)
    refine ⟨_, (List.range len).map f, rfl, ⟨some a, cap, by simp, by simpa using hl, hm, ?_⟩, ?_⟩
    · by_cases h0 : len = 0
      · left; subst h0; simp
      · right
        obtain ⟨t0, r0, hc0, _⟩ := (hf 0 (by omega)).1
        have hc0 := hc0 0 _ rfl
        rw [add_add] at hc0
        have hs := spot_add0 hc0
        obtain ⟨b, off, sp⟩ := a
        simp only at hs
        subst hs
        refine ⟨b, off, rfl, by have := lt_of_cell hc0; simpa [Addr.add] using this, fun i hi => ?_⟩
        have hil : i < len := by simpa using hi
        obtain ⟨t, r, hc, g1, g2⟩ := (hf i hil).1
        have he : ((List.range len).map f)[i] = f i := by simp
        rw [he]
        refine ⟨t, r, fun j u hj => ?_, g1, g2⟩
        have := hc j u hj
        rw [add_add, add_plain] at this
        rw [show off + i * 19 + j = off + (i * 19 + j) by omega]
        exact this
    · intro y hy
      simp only [List.mem_map, List.mem_range] at hy
      obtain ⟨i, hi, rfl⟩ := hy
      exact (hf i hi).2
set_option maxRecDepth 100000 in
theorem open_events {r : Reach} {b0 : Nat} {v : Value} {d : DataW H} {p : List MemPlace} (hv : Value.okWide Tryz.prog w r b0 22 v) (h : DataW.Trod enc Tryz.prog w base spare held 22 v d p) : ∃ l, RdE w v l ∧ ∀ y ∈ l, y.Ok := by
  obtain ⟨a, n, c, rfl⟩ := okWide_slice Tryz.underlying22 hv
  obtain ⟨fuel, hf⟩ := h
  obtain ⟨u, l, hu, hr, hok⟩ := rdE_of hf
  simp [Value.cells] at hu
  subst hu
  exact ⟨l, hr, hok⟩
end
end Go.Proofs.YtdjjjnoecfbjeaaGreatDoor
