/- op.word: a number out of the next word, if it is needed. No condition but that the two cells are there, in two blocks. -/
import Derived.Test.YtfklgaeejmeipaaGreatDoorPPu
import Derived.Test.YtfklgaeejmeipaaGreatDoorPOpWords
import Derived.Test.YtfklgaeejmeipaaGreatDoorPOpTake
set_option linter.all false
set_option linter.unusedVariables false
set_option linter.unusedSimpArgs false
set_option linter.unnecessarySimpa false
/- op.word: a number out of the next word, if it is needed. No condition but that the two cells are there, in two blocks. -/
namespace Go.Proofs.YtfklgaeejmeipaaGreatDoor
open Go.RowKit

/-- A number was laid into one cell; the words in another are those behind. -/
def Worded (w0 w : World) (q x o : Nat) (u : Value) (ls : List (List UInt8)) (w' : World) : Prop := ∃ W v', Fr w W ∧ RdS w0 v' ls ∧ w' = ((W.setCell ⟨x, o, none⟩ u).setCell ⟨q, 0, none⟩ v').drew
theorem RdS.tail {w : World} {b off n c : Nat} {s : List UInt8} {ls : List (List UInt8)} (h : RdS w (.slice (some ⟨b, off, none⟩) n c) (s :: ls)) : RdS w (.slice (some ⟨b, off + 1, none⟩) ls.length (c - 1)) ls := by
  obtain ⟨b1, off1, c1, hv, hl, hm, hb, hc⟩ := h.at (k := 0) (by simp)
  simp only [Value.slice.injEq, Option.some.injEq, Addr.mk.injEq, and_true] at hv
  obtain ⟨⟨rfl, rfl⟩, _, rfl⟩ := hv
  simp at hl
  refine ⟨_, _, rfl, by omega, by omega, .inr ⟨b, off + 1, rfl, trivial, hb, fun j u hj => ?_⟩⟩
  obtain ⟨y, hy, rfl⟩ := Option.map_eq_some_iff.1 (by simpa [strCells] using hj)
  have := hc (j + 1) y (by simpa using hy)
  rw [show off + 1 + j = off + (j + 1) by omega]
  exact this
theorem RdS.nil0 (w : World) (a : Option Addr) : RdS w (.slice a 0 0) [] := ⟨a, 0, rfl, Nat.le_refl _, by decide, .inl rfl⟩
theorem RdS.empty {w : World} (ls : List (List UInt8)) (a : Option Addr) (h : ls.length = 0) : RdS w (.slice a ls.length 0) ls := by
  have := List.eq_nil_of_length_eq_zero h
  subst this
  exact ⟨a, 0, rfl, Nat.le_refl _, by decide, .inl rfl⟩

theorem word8_no (q x o : Nat) (v : Value) (ls : List (List UInt8)) (need : Bool) (w : World) (hq : w.cell? ⟨q, 0, none⟩ = some v) (hv : RdS w v ls) (hn : need = false ∨ ls = []) :
    Calls Tryz.prog 131 #[.pointer (some ⟨q, 0, none⟩), .pointer (some ⟨x, o, none⟩), .bool need] w fun e w' => e = .returned (.tuple #[]) ∧ w = w' := by
  obtain ⟨a, c, rfl, _, _⟩ := hv.form
  rcases hn with rfl | rfl
  · go_enter Tryz.func131, Tryz.ntmps131
    go_wp2
    refine bodyPost_ret (results_none rfl _ _ _) rfl ?_
    exact ⟨rfl, rfl⟩
  · simp only [List.length_nil] at hq hv ⊢
    cases need
    all_goals
      go_enter Tryz.func131, Tryz.ntmps131
      go_wp2
      refine bodyPost_ret (results_none rfl _ _ _) rfl ?_
      exact ⟨rfl, rfl⟩
set_option maxRecDepth 100000 in
theorem word8_yes (q x o b off c : Nat) (s : List UInt8) (ls : List (List UInt8)) (u : Value) (w0 w : World) (hE : Env w) (hs : s.length < 1000000) (hv : RdS w0 (.slice (some ⟨b, off, none⟩) (ls.length + 1) c) (s :: ls)) (hq : w.cell? ⟨q, 0, none⟩ = some (.slice (some ⟨b, off, none⟩) (ls.length + 1) c)) (hqf : w.frozen? ⟨q, 0, none⟩ = false)
    (hx : w.cell? ⟨x, o, none⟩ = some u) (hxf : w.frozen? ⟨x, o, none⟩ = false) (hne : q ≠ x) (hc : w.cell? ⟨b, off, none⟩ = some (.string ⟨s.toArray⟩)) (hl : ls.length + 1 ≤ c) (hm : c ≤ maxLen) :
    Calls Tryz.prog 131 #[.pointer (some ⟨q, 0, none⟩), .pointer (some ⟨x, o, none⟩), .bool true] w fun e w' => e = .returned (.tuple #[]) ∧
      Worded w0 w q x o (.int .u8 ((num16 s % 256 : Nat) : Int)) ls w' := by
  have hpu := fun W (f : Fr w W) => PU_c s W (hE.keep f) hs
  have HP := Lib.hid hpu
  have HV := Lib.hid hv
  clear hv
  have hlt := num16_lt s
  generalize num16 s = n at hlt HP ⊢
  clear hpu hE hs
  unfold maxLen at hm
  have hl1 : ¬ ((ls.length : Int) + 1 = 0) := by omega
  (try rw [Nat.mod_eq_of_lt (show n < 256 by omega)])
  by_cases hc1 : c = 1
  · subst hc1
    obtain rfl : ls = [] := List.eq_nil_of_length_eq_zero (by omega)
    simp only [List.length_nil] at *
    go_enter Tryz.func131, Tryz.ntmps131
    go_wp2_with fail
    refine (HP.out _ (Fr.refl w)).mono ?_
    rintro e W ⟨er, rfl, hb⟩
    have q1 := hb.keep hq
    have x1 := hb.keep hx
    have q2 := (hb.frozen q 0 (lt_of_cell hq)).trans hqf
    have x2 := (hb.frozen x o (lt_of_cell hx)).trans hxf
    have zq := lt_of_cell q1
    have zx := lt_of_cell x1
    simp only at zq zx
    clear hq hqf hx hxf hc
    go_wp2_with fail
    go_region
    all_goals
      go_wp2
      go_end0
      exact ⟨rfl, W, _, hb, RdS.nil0 _ _, rfl⟩
  · have hc2 : ¬ (c : Int) = 1 := by omega
    go_enter Tryz.func131, Tryz.ntmps131
    go_wp2_with fail
    refine (HP.out _ (Fr.refl w)).mono ?_
    rintro e W ⟨er, rfl, hb⟩
    have q1 := hb.keep hq
    have x1 := hb.keep hx
    have q2 := (hb.frozen q 0 (lt_of_cell hq)).trans hqf
    have x2 := (hb.frozen x o (lt_of_cell hx)).trans hxf
    have zq := lt_of_cell q1
    have zx := lt_of_cell x1
    simp only at zq zx
    clear hq hqf hx hxf hc
    go_wp2_with fail
    go_region
    all_goals
      go_wp2
      go_end0
      exact ⟨rfl, W, _, hb, RdS.tail HV.out, rfl⟩

theorem word16_no (q x o : Nat) (v : Value) (ls : List (List UInt8)) (need : Bool) (w : World) (hq : w.cell? ⟨q, 0, none⟩ = some v) (hv : RdS w v ls) (hn : need = false ∨ ls = []) :
    Calls Tryz.prog 132 #[.pointer (some ⟨q, 0, none⟩), .pointer (some ⟨x, o, none⟩), .bool need] w fun e w' => e = .returned (.tuple #[]) ∧ w = w' := by
  obtain ⟨a, c, rfl, _, _⟩ := hv.form
  rcases hn with rfl | rfl
  · go_enter Tryz.func132, Tryz.ntmps132
    go_wp2
    refine bodyPost_ret (results_none rfl _ _ _) rfl ?_
    exact ⟨rfl, rfl⟩
  · simp only [List.length_nil] at hq hv ⊢
    cases need
    all_goals
      go_enter Tryz.func132, Tryz.ntmps132
      go_wp2
      refine bodyPost_ret (results_none rfl _ _ _) rfl ?_
      exact ⟨rfl, rfl⟩
set_option maxRecDepth 100000 in
theorem word16_yes (q x o b off c : Nat) (s : List UInt8) (ls : List (List UInt8)) (u : Value) (w0 w : World) (hE : Env w) (hs : s.length < 1000000) (hv : RdS w0 (.slice (some ⟨b, off, none⟩) (ls.length + 1) c) (s :: ls)) (hq : w.cell? ⟨q, 0, none⟩ = some (.slice (some ⟨b, off, none⟩) (ls.length + 1) c)) (hqf : w.frozen? ⟨q, 0, none⟩ = false)
    (hx : w.cell? ⟨x, o, none⟩ = some u) (hxf : w.frozen? ⟨x, o, none⟩ = false) (hne : q ≠ x) (hc : w.cell? ⟨b, off, none⟩ = some (.string ⟨s.toArray⟩)) (hl : ls.length + 1 ≤ c) (hm : c ≤ maxLen) :
    Calls Tryz.prog 132 #[.pointer (some ⟨q, 0, none⟩), .pointer (some ⟨x, o, none⟩), .bool true] w fun e w' => e = .returned (.tuple #[]) ∧
      Worded w0 w q x o (.int .u16 ((num16 s % 65536 : Nat) : Int)) ls w' := by
  have hpu := fun W (f : Fr w W) => PU_c s W (hE.keep f) hs
  have HP := Lib.hid hpu
  have HV := Lib.hid hv
  clear hv
  have hlt := num16_lt s
  generalize num16 s = n at hlt HP ⊢
  clear hpu hE hs
  unfold maxLen at hm
  have hl1 : ¬ ((ls.length : Int) + 1 = 0) := by omega
  (try rw [Nat.mod_eq_of_lt (show n < 65536 by omega)])
  by_cases hc1 : c = 1
  · subst hc1
    obtain rfl : ls = [] := List.eq_nil_of_length_eq_zero (by omega)
    simp only [List.length_nil] at *
    go_enter Tryz.func132, Tryz.ntmps132
    go_wp2_with fail
    refine (HP.out _ (Fr.refl w)).mono ?_
    rintro e W ⟨er, rfl, hb⟩
    have q1 := hb.keep hq
    have x1 := hb.keep hx
    have q2 := (hb.frozen q 0 (lt_of_cell hq)).trans hqf
    have x2 := (hb.frozen x o (lt_of_cell hx)).trans hxf
    have zq := lt_of_cell q1
    have zx := lt_of_cell x1
    simp only at zq zx
    clear hq hqf hx hxf hc
    go_wp2_with fail
    go_region
    all_goals
      go_wp2
      go_end0
      exact ⟨rfl, W, _, hb, RdS.nil0 _ _, rfl⟩
  · have hc2 : ¬ (c : Int) = 1 := by omega
    go_enter Tryz.func132, Tryz.ntmps132
    go_wp2_with fail
    refine (HP.out _ (Fr.refl w)).mono ?_
    rintro e W ⟨er, rfl, hb⟩
    have q1 := hb.keep hq
    have x1 := hb.keep hx
    have q2 := (hb.frozen q 0 (lt_of_cell hq)).trans hqf
    have x2 := (hb.frozen x o (lt_of_cell hx)).trans hxf
    have zq := lt_of_cell q1
    have zx := lt_of_cell x1
    simp only at zq zx
    clear hq hqf hx hxf hc
    go_wp2_with fail
    go_region
    all_goals
      go_wp2
      go_end0
      exact ⟨rfl, W, _, hb, RdS.tail HV.out, rfl⟩
end Go.Proofs.YtfklgaeejmeipaaGreatDoor
