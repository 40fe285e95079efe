/- What an event among the arguments reads as. No condition but that the reading succeeds. -/
import Derived.Test.YtfklgaeejmeipaaGreatDoorPArg
import Derived.Test.YtfklgaeejmeipaaGreatDoorPEvKinds
import Derived.Test.YtfklgaeejmeipaaGreatDoorPEvCheck
set_option linter.all false
set_option linter.unusedVariables false
set_option linter.unusedSimpArgs false
set_option linter.unnecessarySimpa false
/- What an event among the arguments reads as. No condition but that the reading succeeds. -/
namespace Go.Proofs.YtfklgaeejmeipaaGreatDoor
open Go.Joins Go.ChangeShapes Go.WideShapes Go.RowKit Go.Deep

instance : Inhabited Mic := ⟨⟨false, 0, 0⟩⟩
section
variable {H : Type} {enc : TypeId × Value → H} {w : World} {base : Nat} {spare : Nat → Bool} {held : Bool}

theorem Tryz.cellsMic : Tryz.prog.cellsOf 58 = 3 := by kernel_rfl
theorem Tryz.cellsU8 : Tryz.prog.cellsOf 5 = 1 := by kernel_rfl
theorem Tryz.cellsU16 : Tryz.prog.cellsOf 22 = 1 := by kernel_rfl
theorem Tryz.cellsInt : Tryz.prog.cellsOf 3 = 1 := by kernel_rfl
theorem Tryz.cellsBool : Tryz.prog.cellsOf 4 = 1 := by kernel_rfl
theorem Tryz.cellsOp' : Tryz.prog.cellsOf 24 = 5 := by kernel_rfl
theorem Tryz.cellsRes : Tryz.prog.cellsOf 26 = 2 := by kernel_rfl
theorem Tryz.cellsCfg : Tryz.prog.cellsOf 30 = 7 := by kernel_rfl
theorem Tryz.cellsTxn : Tryz.prog.cellsOf 27 = 1 := by kernel_rfl
theorem Tryz.cellsL16 : Tryz.prog.cellsOf 64 = 1 := by kernel_rfl
theorem Tryz.cellsReads : Tryz.prog.cellsOf 28 = 1 := by kernel_rfl
theorem Tryz.cellsEv : Tryz.prog.cellsOf 32 = 19 := by kernel_rfl

set_option maxRecDepth 100000 in
theorem mic_of {fuel : Nat} {cs : List Value} {x : DataW H × List MemPlace} (h : DataW.trod enc Tryz.prog w base spare held fuel 58 cs = some x) : ∃ m : Mic, cs = m.cells ∧ m.key < 256 ∧ m.v < 65536 := by
  obtain ⟨xs, n, _, _, hlen, hxs, hf⟩ := DataW.trod_struct Tryz.underlying58 h
  rw [Tryz.cellsMic] at hlen
  match cs, hlen with
  | [c0, c1, c2], _ =>
    match xs, hxs with
    | [y0, y1, y2], _ =>
      have g0 := hf 0 _ rfl
      have g1 := hf 1 _ rfl
      have g2 := hf 2 _ rfl
      simp [Tryz.cellsBool, Tryz.cellsU8, Tryz.cellsU16] at g0 g1 g2
      obtain ⟨b, e0, _⟩ := DataW.trod_bool Tryz.underlying4 g0
      obtain ⟨k, e1, _, w1⟩ := DataW.trod_int Tryz.underlying5 g1
      obtain ⟨v, e2, _, w2⟩ := DataW.trod_int Tryz.underlying22 g2
      obtain ⟨k, rfl, hk⟩ := wf_u8 w1
      obtain ⟨v, rfl, hv⟩ := wf_u16 w2
      simp at e0 e1 e2
      subst e0 e1 e2
      exact ⟨⟨b, k, v⟩, rfl, hk, hv⟩

set_option maxRecDepth 100000 in
theorem rdM_of {fuel : Nat} {cs : List Value} {x : DataW H × List MemPlace} (h : DataW.trod enc Tryz.prog w base spare held fuel 27 cs = some x) : ∃ v l, cs = [v] ∧ RdM w v l ∧ ∀ m ∈ l, m.key < 256 ∧ m.v < 65536 := by
  rcases open_slice Tryz.underlying27 h with ⟨rfl, _⟩ | ⟨a, len, cap, m, n, D, Pl, rfl, _, hl, hm, hmm, _, hx⟩
  · exact ⟨_, [], rfl, ⟨none, 0, rfl, Nat.le_refl _, by decide, .inl rfl⟩, by simp⟩
  · have hlm : len ≤ m := by rw [hmm]; split <;> omega
    obtain ⟨f, hf⟩ := choose_lt (α := Mic) (n := len) (p := fun i mc => (∀ j u, mc.cells[j]? = some u → w.cell? ((a.add (i * 3)).add j) = some u) ∧ mc.key < 256 ∧ mc.v < 65536) (fun i hi => by
      obtain ⟨cs', h1, h2⟩ := hx i (by omega)
      rw [Tryz.cellsMic] at h1
      obtain ⟨mc, rfl, hk, hv⟩ := mic_of h2
      obtain ⟨_, _, hc⟩ := World.cells?_some h1
      refine ⟨mc, fun j u hj => ?_, hk, hv⟩
      rw [hc j (by have := (List.getElem?_eq_some_iff.1 hj).1; simpa [Mic.cells] using this)]
      exact hj)
    refine ⟨_, (List.range len).map f, rfl, ?_, ?_⟩
    · unfold RdM
      rw [show ((List.range len).map f).length = len by simp]
      refine ⟨some a, cap, rfl, hl, hm, ?_⟩
      by_cases h0 : len = 0
      · left; subst h0; simp [micCells]
      · right
        have hc0 := (hf 0 (by omega)).1 0 _ rfl
        rw [add_add] at hc0
        have hs := spot_add0 hc0
        obtain ⟨b, off, sp⟩ := a
        simp only at hs
        subst hs
        refine ⟨b, off, rfl, trivial, by have := lt_of_cell hc0; simpa [Addr.add] using this, fun j u hj => ?_⟩
        unfold micCells at hj
        rw [flat_get Mic.cells 3 (by omega) (fun _ => rfl)] at hj
        obtain ⟨mc, h1, h2⟩ := Option.bind_eq_some_iff.1 hj
        have hjl : j / 3 < len := by
          have := (List.getElem?_eq_some_iff.1 h1).1
          simpa using this
        have h3 : mc = f (j / 3) := by simpa [hjl] using h1.symm
        subst h3
        have hc := (hf (j / 3) hjl).1 _ _ h2
        rw [add_add, add_plain] at hc
        rw [show off + (j / 3 * 3 + j % 3) = off + j by omega] at hc
        exact hc
    · intro mc hmc
      simp only [List.mem_map, List.mem_range] at hmc
      obtain ⟨i, hi, rfl⟩ := hmc
      exact (hf i hi).2

set_option maxRecDepth 100000 in
theorem rdR_of {fuel : Nat} {cs : List Value} {x : DataW H × List MemPlace} (h : DataW.trod enc Tryz.prog w base spare held fuel 28 cs = some x) : ∃ v l, cs = [v] ∧ RdR w v l ∧ ∀ m ∈ l, ∀ n ∈ m, n < 65536 := by
  rcases open_slice1 Tryz.underlying28 Tryz.cellsL16 h with ⟨rfl, _⟩ | ⟨a, len, cap, m, n, V, D, Pl, rfl, _, hl, hm, hmm, _, hx⟩
  · exact ⟨_, [], rfl, ⟨[], rfl, ⟨none, 0, rfl, Nat.le_refl _, by decide, .inl rfl⟩, fun i l u hl => by simp at hl⟩, by simp⟩
  · have hlm : len ≤ m := by rw [hmm]; split <;> omega
    obtain ⟨f, hf⟩ := choose_lt (α := List Nat) (n := len) (p := fun i l => Rd16 w (V i) l ∧ ∀ n ∈ l, n < 65536) (fun i hi => by
      obtain ⟨v, l, hv, h1, h2⟩ := rd16_of Tryz.underlying64 Tryz.underlying22 Tryz.cellsU16 (hx i (by omega)).2
      simp only [List.cons.injEq, and_true] at hv
      subst hv
      exact ⟨l, h1, h2⟩)
    refine ⟨_, (List.range len).map f, rfl, ⟨(List.range len).map V, by simp, ?_, ?_⟩, ?_⟩
    · rw [show ((List.range len).map f).length = len by simp]
      refine ⟨some a, cap, rfl, hl, hm, ?_⟩
      by_cases h0 : len = 0
      · left; subst h0; simp
      · right
        have hc0 := (hx 0 (by omega)).1
        have hs := spot_add0 hc0
        obtain ⟨b, off, sp⟩ := a
        simp only at hs
        subst hs
        refine ⟨b, off, rfl, trivial, by have := lt_of_cell hc0; simpa [Addr.add] using this, fun j u hj => ?_⟩
        have hjl : j < len := by
          have := (List.getElem?_eq_some_iff.1 hj).1
          simpa using this
        have hu : V j = u := by simpa [hjl] using hj
        rw [← add_plain, ← hu]
        exact (hx j (by omega)).1
    · intro i l u hl hu
      have hil : i < len := by
        have := (List.getElem?_eq_some_iff.1 hl).1
        simpa using this
      have h1 : f i = l := by simpa [hil] using hl
      have h2 : V i = u := by simpa [hil] using hu
      rw [← h1, ← h2]
      exact (hf i hil).1
    · intro l hl
      simp only [List.mem_map, List.mem_range] at hl
      obtain ⟨i, hi, rfl⟩ := hl
      exact (hf i hi).2

set_option maxRecDepth 100000 in
theorem ev_of {fuel : Nat} {cs : List Value} {x : DataW H × List MemPlace} (h : DataW.trod enc Tryz.prog w base spare held fuel 32 cs = some x) : ∃ (y : Ev) (t r : Value), cs = (y.cells t r).toList ∧ RdM w t y.txn ∧ RdR w r y.reads ∧ y.Ok := by
  obtain ⟨xs, n, _, _, hlen, hxs, hf⟩ := DataW.trod_struct Tryz.underlying32 h
  rw [Tryz.cellsEv] at hlen
  match cs, hlen with
  | [c0, c1, c2, c3, c4, c5, c6, c7, c8, c9, c10, c11, c12, c13, c14, c15, c16, c17, c18], _ =>
    match xs, hxs with
    | [y0, y1, y2, y3, y4, y5, y6, y7], _ =>
      have g0 := hf 0 _ rfl
      have g1 := hf 1 _ rfl
      have g2 := hf 2 _ rfl
      have g3 := hf 3 _ rfl
      have g4 := hf 4 _ rfl
      have g5 := hf 5 _ rfl
      have g6 := hf 6 _ rfl
      have g7 := hf 7 _ rfl
      simp [Tryz.cellsU8, Tryz.cellsU16, Tryz.cellsOp', Tryz.cellsRes, Tryz.cellsTxn, Tryz.cellsReads, Tryz.cellsCfg] at g0 g1 g2 g3 g4 g5 g6 g7
      obtain ⟨v0, e0, _, w0⟩ := DataW.trod_int Tryz.underlying5 g0
      obtain ⟨v1, e1, _, w1⟩ := DataW.trod_int Tryz.underlying5 g1
      obtain ⟨v2, e2, _, w2⟩ := DataW.trod_int Tryz.underlying22 g2
      obtain ⟨xs3, n3, _, _, _, hxs3, h3⟩ := DataW.trod_struct Tryz.underlying24 g3
      obtain ⟨xs4, n4, _, _, _, hxs4, h4⟩ := DataW.trod_struct Tryz.underlying26 g4
      obtain ⟨v10, l10, e10, r10, b10⟩ := rdM_of g5
      obtain ⟨v11, l11, e11, r11, b11⟩ := rdR_of g6
      obtain ⟨xs7, n7, _, _, _, hxs7, h7⟩ := DataW.trod_struct Tryz.underlying30 g7
      match xs3, hxs3, xs4, hxs4, xs7, hxs7 with
      | [_, _, _, _, _], _, [_, _], _, [_, _, _, _, _, _, _], _ =>
      have p0 := h3 0 _ rfl
      have p1 := h3 1 _ rfl
      have p2 := h3 2 _ rfl
      have p3 := h3 3 _ rfl
      have p4 := h3 4 _ rfl
      have q0 := h4 0 _ rfl
      have q1 := h4 1 _ rfl
      have s0 := h7 0 _ rfl
      have s1 := h7 1 _ rfl
      have s2 := h7 2 _ rfl
      have s3 := h7 3 _ rfl
      have s4 := h7 4 _ rfl
      have s5 := h7 5 _ rfl
      have s6 := h7 6 _ rfl
      simp [Tryz.cellsU8, Tryz.cellsU16, Tryz.cellsInt, Tryz.cellsBool] at p0 p1 p2 p3 p4 q0 q1 s0 s1 s2 s3 s4 s5 s6
      obtain ⟨v3, e3, _, w3⟩ := DataW.trod_int Tryz.underlying5 p0
      obtain ⟨v4, e4, _, w4⟩ := DataW.trod_int Tryz.underlying5 p1
      obtain ⟨v5, e5, _, w5⟩ := DataW.trod_int Tryz.underlying5 p2
      obtain ⟨v6, e6, _, w6⟩ := DataW.trod_int Tryz.underlying22 p3
      obtain ⟨v7, e7, _, w7⟩ := DataW.trod_int Tryz.underlying22 p4
      obtain ⟨v8, e8, _, w8⟩ := DataW.trod_int Tryz.underlying5 q0
      obtain ⟨v9, e9, _, w9⟩ := DataW.trod_int Tryz.underlying22 q1
      obtain ⟨v12, e12, _, w12⟩ := DataW.trod_int Tryz.underlying5 s0
      obtain ⟨v13, e13, _, _⟩ := DataW.trod_int Tryz.underlying3 s1
      obtain ⟨v14, e14, _, _⟩ := DataW.trod_int Tryz.underlying3 s2
      obtain ⟨v15, e15, _, _⟩ := DataW.trod_int Tryz.underlying3 s3
      obtain ⟨v16, e16, _⟩ := DataW.trod_bool Tryz.underlying4 s4
      obtain ⟨v17, e17, _⟩ := DataW.trod_bool Tryz.underlying4 s5
      obtain ⟨v18, e18, _⟩ := DataW.trod_bool Tryz.underlying4 s6
      simp at e0 e1 e2 e3 e4 e5 e6 e7 e8 e9 e10 e11 e12 e13 e14 e15 e16 e17 e18
      subst e0 e1 e2 e3 e4 e5 e6 e7 e8 e9 e10 e11 e12 e13 e14 e15 e16 e17 e18
      obtain ⟨v0, rfl, b0⟩ := wf_u8 w0
      obtain ⟨v1, rfl, b1⟩ := wf_u8 w1
      obtain ⟨v2, rfl, b2⟩ := wf_u16 w2
      obtain ⟨v3, rfl, b3⟩ := wf_u8 w3
      obtain ⟨v4, rfl, b4⟩ := wf_u8 w4
      obtain ⟨v5, rfl, b5⟩ := wf_u8 w5
      obtain ⟨v6, rfl, b6⟩ := wf_u16 w6
      obtain ⟨v7, rfl, b7⟩ := wf_u16 w7
      obtain ⟨v8, rfl, b8⟩ := wf_u8 w8
      obtain ⟨v9, rfl, b9⟩ := wf_u16 w9
      obtain ⟨v12, rfl, b12⟩ := wf_u8 w12
      exact ⟨⟨v0, v1, v2, ⟨v3, v4, v5, v6, v7⟩, v8, v9, l10, l11, ⟨v12, v13, v14, v15, v16, v17, v18⟩⟩, _, _, rfl, r10, r11, ⟨b0, b1, b2, b3, b4, b5, b6, b7, b8, b9, b10, b11, b12⟩⟩
set_option maxRecDepth 100000 in
/-- An event by value among the arguments. -/
theorem open_event {r : Reach} {b0 : Nat} {v : Value} {d : DataW H} {p : List MemPlace} (hv : Value.okWide Tryz.prog w r b0 32 v) (h : DataW.Trod enc Tryz.prog w base spare held 32 v d p) : ∃ y : Ev, EvAt w v y ∧ y.Ok := by
  obtain ⟨cs, rfl, _⟩ := okWide_struct Tryz.underlying32 hv
  obtain ⟨fuel, hf⟩ := h
  obtain ⟨y, t, r, hcs, h1, h2, ok⟩ := ev_of hf
  obtain rfl : cs = y.cells t r := by
    apply Array.ext'
    simpa [Value.cells] using hcs
  exact ⟨y, ⟨t, r, rfl, h1, h2⟩, ok⟩
end
end Go.Proofs.YtfklgaeejmeipaaGreatDoor

/- Layer 6: what a list of events among the arguments reads as. No condition but that the reading succeeds. -/
namespace Go.Proofs.YtfklgaeejmeipaaGreatDoor
open Go.Joins Go.ChangeShapes Go.WideShapes Go.RowKit Go.Deep

instance : Inhabited Ev := ⟨Ev.zero⟩
section
variable {H : Type} {enc : TypeId × Value → H} {w : World} {base : Nat} {spare : Nat → Bool} {held : Bool}
set_option maxRecDepth 100000 in
theorem rdE_of {fuel : Nat} {cs : List Value} {x : DataW H × List MemPlace} (h : DataW.trod enc Tryz.prog w base spare held fuel 49 cs = some x) : ∃ v l, cs = [v] ∧ RdE w v l ∧ ∀ y ∈ l, y.Ok := by
  rcases open_slice Tryz.underlying49 h with ⟨rfl, _⟩ | ⟨a, len, cap, m, n, D, Pl, rfl, _, hl, hm, hmm, _, hx⟩
  · exact ⟨_, [], rfl, ⟨none, 0, rfl, Nat.le_refl _, by decide, .inl rfl⟩, by simp⟩
  · have hlm : len ≤ m := by rw [hmm]; split <;> omega
    obtain ⟨f, hf⟩ := choose_lt (α := Ev) (n := len) (p := fun i y => (∃ t r, (∀ j u, (y.cells t r).toList[j]? = some u → w.cell? ((a.add (i * 19)).add j) = some u) ∧ RdM w t y.txn ∧ RdR w r y.reads) ∧ y.Ok) (fun i hi => by
      obtain ⟨cs', h1, h2⟩ := hx i (by omega)
      rw [Tryz.cellsEv] at h1
      obtain ⟨y, t, r, rfl, g1, g2, ok⟩ := ev_of h2
      obtain ⟨_, _, hc⟩ := World.cells?_some h1
      refine ⟨y, ⟨t, r, fun j u hj => ?_, g1, g2⟩, ok⟩
      rw [hc j (by have h19 : (y.cells t r).toList.length = 19 := rfl; have := (List.getElem?_eq_some_iff.1 hj).1; omega)]
      exact hj)
    refine ⟨_, (List.range len).map f, rfl, ⟨some a, cap, by simp, by simpa using hl, hm, ?_⟩, ?_⟩
    · by_cases h0 : len = 0
      · left; subst h0; simp
      · right
        obtain ⟨t0, r0, hc0, _⟩ := (hf 0 (by omega)).1
        have hc0 := hc0 0 _ rfl
        rw [add_add] at hc0
        have hs := spot_add0 hc0
        obtain ⟨b, off, sp⟩ := a
        simp only at hs
        subst hs
        refine ⟨b, off, rfl, by have := lt_of_cell hc0; simpa [Addr.add] using this, fun i hi => ?_⟩
        have hil : i < len := by simpa using hi
        obtain ⟨t, r, hc, g1, g2⟩ := (hf i hil).1
        have he : ((List.range len).map f)[i] = f i := by simp
        rw [he]
        refine ⟨t, r, fun j u hj => ?_, g1, g2⟩
        have := hc j u hj
        rw [add_add, add_plain] at this
        rw [show off + i * 19 + j = off + (i * 19 + j) by omega]
        exact this
    · intro y hy
      simp only [List.mem_map, List.mem_range] at hy
      obtain ⟨i, hi, rfl⟩ := hy
      exact (hf i hi).2
set_option maxRecDepth 100000 in
theorem open_events {r : Reach} {b0 : Nat} {v : Value} {d : DataW H} {p : List MemPlace} (hv : Value.okWide Tryz.prog w r b0 49 v) (h : DataW.Trod enc Tryz.prog w base spare held 49 v d p) : ∃ l, RdE w v l ∧ ∀ y ∈ l, y.Ok := by
  obtain ⟨a, n, c, rfl⟩ := okWide_slice Tryz.underlying49 hv
  obtain ⟨fuel, hf⟩ := h
  obtain ⟨u, l, hu, hr, hok⟩ := rdE_of hf
  simp [Value.cells] at hu
  subst hu
  exact ⟨l, hr, hok⟩
end
end Go.Proofs.YtfklgaeejmeipaaGreatDoor
