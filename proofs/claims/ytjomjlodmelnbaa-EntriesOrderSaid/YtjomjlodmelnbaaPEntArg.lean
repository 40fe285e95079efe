/- Layer 16: what rows among the arguments read as. No condition but that the reading succeeds. -/
import Derived.Test.YtjomjlodmelnbaaPEntStable
import Derived.Test.YtjomjlodmelnbaaPOpen
set_option linter.all false
set_option linter.unusedVariables false
set_option linter.unusedSimpArgs false
set_option linter.unnecessarySimpa false
/- Layer 16: what rows among the arguments read as. No condition but that the reading succeeds. -/
namespace Go.Proofs.Ytjomjlodmelnbaa
open Go.Joins Go.ChangeShapes Go.WideShapes Go.RowKit Go.Deep

theorem Try.cellsU8 : Try.prog.cellsOf 5 = 1 := by kernel_rfl
theorem Try.cellsU16 : Try.prog.cellsOf 29 = 1 := by kernel_rfl
theorem Try.cellsInt : Try.prog.cellsOf 3 = 1 := by kernel_rfl
theorem Try.cellsOp' : Try.prog.cellsOf 31 = 5 := by kernel_rfl
theorem Try.cellsRes : Try.prog.cellsOf 33 = 2 := by kernel_rfl
theorem Try.cellsRow : Try.prog.cellsOf 35 = 12 := by kernel_rfl
theorem spot_of {w : World} {a : Addr} {u : Value} (h : w.cell? a = some u) : a.spot = none := by
  unfold World.cell? at h
  split at h
  · split at h
    · cases h
    · rename_i hs
      simpa using hs
  · cases h
theorem spot_add0 {w : World} {a : Addr} {u : Value} (h : w.cell? (a.add 0) = some u) : a.spot = none := spot_of (a := a) (by simpa [Addr.add] using h)
section
variable {H : Type} {enc : TypeId × Value → H} {w : World} {base : Nat} {spare : Nat → Bool} {held : Bool}
theorem nat_u8 {v : Int} (h : (Lit.int .u8 v).wf = true) : ∃ n : Nat, v = n := ⟨v.toNat, by
  simp [Lit.wf, IntKind.min, IntKind.max, IntKind.signed, IntKind.bits] at h
  omega⟩
theorem nat_u16 {v : Int} (h : (Lit.int .u16 v).wf = true) : ∃ n : Nat, v = n := ⟨v.toNat, by
  simp [Lit.wf, IntKind.min, IntKind.max, IntKind.signed, IntKind.bits] at h
  omega⟩
set_option maxRecDepth 100000 in
theorem row_of {fuel : Nat} {cs : List Value} {x : DataW H × List MemPlace} (h : DataW.trod enc Try.prog w base spare held fuel 35 cs = some x) : ∃ r : TRow, cs = r.cells := by
  obtain ⟨xs, n, _, _, hlen, hxs, hf⟩ := DataW.trod_struct Try.underlying35 h
  rw [Try.cellsRow] at hlen
  match cs, hlen with
  | [c0, c1, c2, c3, c4, c5, c6, c7, c8, c9, c10, c11], _ =>
    match xs, hxs with
    | [y0, y1, y2, y3, y4, y5, y6], _ =>
      have g0 := hf 0 _ rfl
      have g1 := hf 1 _ rfl
      have g2 := hf 2 _ rfl
      have g3 := hf 3 _ rfl
      have g4 := hf 4 _ rfl
      have g5 := hf 5 _ rfl
      have g6 := hf 6 _ rfl
      simp [Try.cellsU8, Try.cellsU16, Try.cellsOp', Try.cellsRes, Try.cellsInt] at g0 g1 g2 g3 g4 g5 g6
      obtain ⟨v0, e0, _, w0⟩ := DataW.trod_int Try.underlying5 g0
      obtain ⟨v1, e1, _, w1⟩ := DataW.trod_int Try.underlying29 g1
      obtain ⟨xs3, n3, _, _, _, hxs3, h3⟩ := DataW.trod_struct Try.underlying31 g2
      obtain ⟨xs4, n4, _, _, _, hxs4, h4⟩ := DataW.trod_struct Try.underlying33 g3
      match xs3, hxs3, xs4, hxs4 with
      | [_, _, _, _, _], _, [_, _], _ =>
      have p0 := h3 0 _ rfl
      have p1 := h3 1 _ rfl
      have p2 := h3 2 _ rfl
      have p3 := h3 3 _ rfl
      have p4 := h3 4 _ rfl
      have q0 := h4 0 _ rfl
      have q1 := h4 1 _ rfl
      simp [Try.cellsU8, Try.cellsU16] at p0 p1 p2 p3 p4 q0 q1
      obtain ⟨v2, e2, _, w2⟩ := DataW.trod_int Try.underlying5 p0
      obtain ⟨v3, e3, _, w3⟩ := DataW.trod_int Try.underlying5 p1
      obtain ⟨v4, e4, _, w4⟩ := DataW.trod_int Try.underlying5 p2
      obtain ⟨v5, e5, _, w5⟩ := DataW.trod_int Try.underlying29 p3
      obtain ⟨v6, e6, _, w6⟩ := DataW.trod_int Try.underlying29 p4
      obtain ⟨v7, e7, _, w7⟩ := DataW.trod_int Try.underlying5 q0
      obtain ⟨v8, e8, _, w8⟩ := DataW.trod_int Try.underlying29 q1
      obtain ⟨v9, e9, _, w9⟩ := DataW.trod_int Try.underlying5 g4
      obtain ⟨v10, e10, _, _⟩ := DataW.trod_int Try.underlying3 g5
      obtain ⟨v11, e11, _, _⟩ := DataW.trod_int Try.underlying3 g6
      simp at e0 e1 e2 e3 e4 e5 e6 e7 e8 e9 e10 e11
      obtain ⟨n0, rfl⟩ := nat_u8 w0
      obtain ⟨n1, rfl⟩ := nat_u16 w1
      obtain ⟨n2, rfl⟩ := nat_u8 w2
      obtain ⟨m3, rfl⟩ := nat_u8 w3
      obtain ⟨m4, rfl⟩ := nat_u8 w4
      obtain ⟨m5, rfl⟩ := nat_u16 w5
      obtain ⟨m6, rfl⟩ := nat_u16 w6
      obtain ⟨m7, rfl⟩ := nat_u8 w7
      obtain ⟨m8, rfl⟩ := nat_u16 w8
      obtain ⟨m9, rfl⟩ := nat_u8 w9
      subst e0 e1 e2 e3 e4 e5 e6 e7 e8 e9 e10 e11
      exact ⟨⟨n0, n1, n2, m3, m4, m5, m6, m7, m8, m9, v10, v11⟩, rfl⟩
set_option maxRecDepth 100000 in
theorem rdT_of {fuel : Nat} {cs : List Value} {x : DataW H × List MemPlace} (h : DataW.trod enc Try.prog w base spare held fuel 22 cs = some x) : ∃ v l, cs = [v] ∧ RdT w v l ∧ (l = [] ∨ ∃ es sp, x.1 = .slice es sp ∧ es.length = l.length) := by
  rcases open_slice Try.underlying22 h with ⟨rfl, _⟩ | ⟨a, len, cap, m, n, D, Pl, rfl, hxe, hl, hm, hmm, hxe2, hx⟩
  · exact ⟨_, [], rfl, ⟨none, 0, rfl, Nat.le_refl _, by decide, .inl rfl⟩, .inl rfl⟩
  · have hlm : len ≤ m := by rw [hmm]; split <;> omega
    have hex : ∀ i, i < len → ∃ r : TRow, ∀ j u, r.cells[j]? = some u → w.cell? ((a.add (i * 12)).add j) = some u := fun i hi => by
      obtain ⟨cs', h1, h2⟩ := hx i (by omega)
      rw [Try.cellsRow] at h1
      obtain ⟨r, rfl⟩ := row_of h2
      obtain ⟨_, _, hc⟩ := World.cells?_some h1
      refine ⟨r, fun j u hj => ?_⟩
      rw [hc j (by have h19 : r.cells.length = 12 := rfl; have := (List.getElem?_eq_some_iff.1 hj).1; omega)]
      exact hj
    obtain ⟨f, hf⟩ : ∃ f : Nat → TRow, ∀ i, i < len → ∀ j u, (f i).cells[j]? = some u → w.cell? ((a.add (i * 12)).add j) = some u := ⟨fun i => if h : i < len then (hex i h).choose else ⟨0, 0, 0, 0, 0, 0, 0, 0, 0, 0, 0, 0⟩, fun i hi => by simp only [dif_pos hi]; exact (hex i hi).choose_spec⟩
    refine ⟨_, (List.range len).map f, rfl, ⟨some a, cap, by simp, by simpa using hl, hm, ?_⟩, .inr (by first | (subst hxe; exact ⟨_, _, rfl, by simp⟩) | (subst hxe2; exact ⟨_, _, rfl, by simp⟩))⟩
    by_cases h0 : len = 0
    · left; subst h0; simp
    · right
      have hc0 := hf 0 (by omega) 0 _ rfl
      rw [add_add] at hc0
      have hs := spot_add0 hc0
      obtain ⟨b, off, sp⟩ := a
      simp only at hs
      subst hs
      refine ⟨b, off, rfl, by have := lt_of_cell hc0; simpa [Addr.add] using this, fun i hi => ?_⟩
      have hil : i < len := by simpa using hi
      have he : ((List.range len).map f)[i] = f i := by simp
      rw [he]
      intro j u hj
      have := hf i hil j u hj
      rw [add_add, add_plain] at this
      rw [show off + i * 12 + j = off + (i * 12 + j) by omega]
      exact this
set_option maxRecDepth 100000 in
theorem open_rows {r : Reach} {b0 : Nat} {v : Value} {d : DataW H} {p : List MemPlace} (hv : Value.okWide Try.prog w r b0 22 v) (h : DataW.Trod enc Try.prog w base spare held 22 v d p) : ∃ l, RdT w v l ∧ (l = [] ∨ ∃ es sp, d = .slice es sp ∧ es.length = l.length) := by
  obtain ⟨a, n, c, rfl⟩ := okWide_slice Try.underlying22 hv
  obtain ⟨fuel, hf⟩ := h
  obtain ⟨u, l, hu, hr, hb⟩ := rdT_of hf
  simp [Value.cells] at hu
  subst hu
  exact ⟨l, hr, hb⟩
end
end Go.Proofs.Ytjomjlodmelnbaa
