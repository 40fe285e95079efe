/- Layer 16: acts and a number among the arguments. No condition but that the reading succeeds. -/
import Derived.Test.YtjomjlodmelnbaaPEntArg
import Derived.Test.YtjomjlodmelnbaaPEntPlayW
set_option linter.all false
set_option linter.unusedVariables false
set_option linter.unusedSimpArgs false
set_option linter.unnecessarySimpa false
/- Layer 16: acts and a number among the arguments. No condition but that the reading succeeds. -/
namespace Go.Proofs.Ytjomjlodmelnbaa
open Go.Joins Go.ChangeShapes Go.WideShapes Go.RowKit Go.Deep
theorem Try.cellsAct : Try.prog.cellsOf 52 = 2 := by kernel_rfl
section
variable {H : Type} {enc : TypeId × Value → H} {w : World} {base : Nat} {spare : Nat → Bool} {held : Bool}
theorem lt8 {v : Int} (h : (Lit.int .u8 v).wf = true) : v < 256 := by
  simp [Lit.wf, IntKind.min, IntKind.max, IntKind.signed, IntKind.bits] at h
  omega
set_option maxRecDepth 100000 in
theorem act_of {fuel : Nat} {cs : List Value} {x : DataW H × List MemPlace} (h : DataW.trod enc Try.prog w base spare held fuel 52 cs = some x) : ∃ (n : Nat) (I : Int), n < 256 ∧ cs = [.int .u8 n, .int .i64 I] := by
  obtain ⟨xs, n, _, _, hlen, hxs, hf⟩ := DataW.trod_struct Try.underlying52 h
  rw [Try.cellsAct] at hlen
  match cs, hlen with
  | [c0, c1], _ =>
    match xs, hxs with
    | [y0, y1], _ =>
      have g0 := hf 0 _ rfl
      have g1 := hf 1 _ rfl
      simp [Try.cellsU8, Try.cellsInt] at g0 g1
      obtain ⟨v0, e0, _, w0⟩ := DataW.trod_int Try.underlying5 g0
      obtain ⟨v1, e1, _, w1⟩ := DataW.trod_int Try.underlying3 g1
      simp at e0 e1
      have hl := lt8 w0
      obtain ⟨n0, rfl⟩ := nat_u8 w0
      subst e0 e1
      exact ⟨n0, v1, by omega, rfl⟩
set_option maxRecDepth 100000 in
theorem rdA_of {fuel : Nat} {cs : List Value} {x : DataW H × List MemPlace} (h : DataW.trod enc Try.prog w base spare held fuel 43 cs = some x) : ∃ v l, cs = [v] ∧ RdA w v l := by
  rcases open_slice Try.underlying43 h with ⟨rfl, _⟩ | ⟨a, len, cap, m, n, D, Pl, rfl, hxe, hl, hm, hmm, hxe2, hx⟩
  · exact ⟨_, [], rfl, ⟨none, 0, rfl, Nat.le_refl _, by decide, .inl rfl⟩, fun x hx => by cases hx⟩
  · have hlm : len ≤ m := by rw [hmm]; split <;> omega
    have hex : ∀ i, i < len → ∃ r : Nat × Int, r.1 < 256 ∧ ∀ j u, [Value.int .u8 r.1, .int .i64 r.2][j]? = some u → w.cell? ((a.add (i * 2)).add j) = some u := fun i hi => by
      obtain ⟨cs', h1, h2⟩ := hx i (by omega)
      rw [Try.cellsAct] at h1
      obtain ⟨k, I, hk, rfl⟩ := act_of h2
      obtain ⟨_, _, hc⟩ := World.cells?_some h1
      refine ⟨(k, I), hk, fun j u hj => ?_⟩
      rw [hc j (by have := (List.getElem?_eq_some_iff.1 hj).1; simpa using this)]
      exact hj
    obtain ⟨f, hf⟩ : ∃ f : Nat → Nat × Int, ∀ i, i < len → (f i).1 < 256 ∧ ∀ j u, [Value.int .u8 (f i).1, .int .i64 (f i).2][j]? = some u → w.cell? ((a.add (i * 2)).add j) = some u := ⟨fun i => if h : i < len then (hex i h).choose else (0, 0), fun i hi => by simp only [dif_pos hi]; exact (hex i hi).choose_spec⟩
    refine ⟨_, (List.range len).map f, rfl, ⟨some a, cap, by simp, by simpa using hl, hm, ?_⟩, fun x hx => ?_⟩
    · by_cases h0 : len = 0
      · left; subst h0; simp
      · right
        have hc0 := (hf 0 (by omega)).2 0 _ rfl
        rw [add_add] at hc0
        have hs := spot_add0 hc0
        obtain ⟨b, off, sp⟩ := a
        simp only at hs
        subst hs
        refine ⟨b, off, rfl, by have := lt_of_cell hc0; simpa [Addr.add] using this, fun i hi => ?_⟩
        have hil : i < len := by simpa using hi
        have he : ((List.range len).map f)[i] = f i := by simp
        rw [he]
        intro j u hj
        have := (hf i hil).2 j u hj
        rw [add_add, add_plain] at this
        rw [show off + i * 2 + j = off + (i * 2 + j) by omega]
        exact this
    · obtain ⟨i, hi, rfl⟩ := List.mem_map.1 hx
      exact (hf i (List.mem_range.1 hi)).1
set_option maxRecDepth 100000 in
theorem open_acts {r : Reach} {b0 : Nat} {v : Value} {d : DataW H} {p : List MemPlace} (hv : Value.okWide Try.prog w r b0 43 v) (h : DataW.Trod enc Try.prog w base spare held 43 v d p) : ∃ l, RdA w v l := by
  obtain ⟨a, n, c, rfl⟩ := okWide_slice Try.underlying43 hv
  obtain ⟨fuel, hf⟩ := h
  obtain ⟨u, l, hu, hr⟩ := rdA_of hf
  simp [Value.cells] at hu
  subst hu
  exact ⟨l, hr⟩
theorem open_int16 {r : Reach} {b0 : Nat} {v : Value} {d : DataW H} {p : List MemPlace} (hv : Value.okWide Try.prog w r b0 3 v) (h : DataW.Trod enc Try.prog w base spare held 3 v d p) : ∃ n : Int, v = .int .i64 n := by
  obtain ⟨k, rfl⟩ : ∃ k, v = .int .i64 k := okWide_int Try.underlying3 hv
  exact ⟨k, rfl⟩
end
end Go.Proofs.Ytjomjlodmelnbaa
