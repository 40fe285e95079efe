/- result.Kinds and what it hands back; umpireref03.Kinds, May. No condition but the numbers' bounds. -/
import Derived.Test.YtdjjjnoecfbjeaaGreatDoorPReader
import Derived.Test.YtdjjjnoecfbjeaaGreatDoorPArms
import Derived.Test.YtdjjjnoecfbjeaaGreatDoorPArg
import Derived.RangeFuncNested
import Derived.RangeFuncBound
import Derived.RangeFuncCalls
import Derived.RangeFuncLeaves
import Derived.RangeFuncFrom
import Derived.Shelf.Abstract
import Derived.Shelf.RegionOpen
import Derived.OwnWalkIn
import Derived.TacticsInMore
import Derived.LoopNIn
import Derived.LoopIn
import Derived.Deep.QuietTactic
import Derived.BigQuiet
set_option linter.all false
set_option linter.unusedVariables false
set_option linter.unusedSimpArgs false
set_option linter.unnecessarySimpa false
/- result.Kinds and what it hands back; umpireref03.Kinds, May. No condition but the numbers' bounds. -/
namespace Go.Proofs.YtdjjjnoecfbjeaaGreatDoor
open Go.RowKit Go.Shelf

attribute [local go_sem] Oper.semAt_some
/-- The kinds of answers of an operation. -/
def kindsOf (f : Nat) : List Nat := if f = 1 then [1] else if f = 2 ∨ f = 4 ∨ f = 7 then [0] else if f = 5 ∨ f = 6 then [1, 2] else if f = 3 ∨ f = 8 ∨ f = 9 ∨ f = 10 ∨ f = 11 then [3, 4] else []
theorem f_cases (f : Nat) : f = 1 ∨ f = 2 ∨ f = 3 ∨ f = 4 ∨ f = 5 ∨ f = 6 ∨ f = 7 ∨ f = 8 ∨ f = 9 ∨ f = 10 ∨ f = 11 ∨ (kindsOf f = [] ∧ ((f : Int) == 1) = false ∧ ((f : Int) == 2) = false ∧ ((f : Int) == 3) = false ∧ ((f : Int) == 4) = false ∧ ((f : Int) == 5) = false ∧ ((f : Int) == 6) = false ∧ ((f : Int) == 7) = false ∧ ((f : Int) == 8) = false ∧ ((f : Int) == 9) = false ∧ ((f : Int) == 10) = false ∧ ((f : Int) == 11) = false) := by
  by_cases h : 1 ≤ f ∧ f ≤ 11
  · omega
  · repeat right
    refine ⟨?_, ?_⟩
    · unfold kindsOf
      rw [if_neg (by omega), if_neg (by omega), if_neg (by omega), if_neg (by omega)]
    · simp; omega
def u8Cells (l : List Nat) : List Value := l.map fun (n : Nat) => Value.int .u8 (n : Int)
/-- A list of small numbers that can be read. -/
def RdK (w : World) (v : Value) (l : List Nat) : Prop := SlAt w Any v l.length (u8Cells l)
theorem RdK.keep {w w' : World} {v : Value} {l : List Nat} (h : RdK w v l) (f : Fr w w') : RdK w' v l := SlAt.fr h f
theorem RdK.nil (w : World) : RdK w (.slice none 0 0) [] := ⟨none, 0, rfl, Nat.le_refl _, by decide, .inl rfl⟩
theorem RdK.one (w : World) (a : Nat) (t : TypeId) : RdK (w.alloc (.cells #[.int .u8 a] t)) (.slice (some ⟨w.heap.size, 0, none⟩) 1 1) [a] := by
  refine ⟨_, _, rfl, Nat.le_refl _, by decide, .inr ⟨w.heap.size, 0, rfl, trivial, by simp, fun j u hj => ?_⟩⟩
  match j, hj with
  | 0, hj => simp [u8Cells] at hj; subst hj; simp
  | k + 1, hj => simp [u8Cells] at hj
theorem RdK.two (w : World) (a b : Nat) (t : TypeId) : RdK (w.alloc (.cells #[.int .u8 a, .int .u8 b] t)) (.slice (some ⟨w.heap.size, 0, none⟩) 2 2) [a, b] := by
  refine ⟨_, _, rfl, Nat.le_refl _, by decide, .inr ⟨w.heap.size, 0, rfl, trivial, by simp, fun j u hj => ?_⟩⟩
  match j, hj with
  | 0, hj => simp [u8Cells] at hj; subst hj; simp
  | 1, hj => simp [u8Cells] at hj; subst hj; simp
  | k + 2, hj => simp [u8Cells] at hj
theorem rKinds_c (f : Nat) (w : World) : Calls Tryz.prog 48 #[.int .u8 f] w fun e w' => ∃ v, e = .returned v ∧ RdK w' v (kindsOf f) ∧ Fr w w' := by
  rcases f_cases f with rfl | rfl | rfl | rfl | rfl | rfl | rfl | rfl | rfl | rfl | rfl | ⟨hk, h1, h2, h3, h4, h5, h6, h7, h8, h9, h10, h11⟩
  all_goals
    go_enter Tryz.func48, Tryz.ntmps48
    go_wp2
    go_ret
    first
      | exact ⟨_, rfl, RdK.one _ _ _, (Fr.refl _).alloc _⟩
      | exact ⟨_, rfl, RdK.two _ _ _ _, (Fr.refl _).alloc _⟩
      | exact ⟨_, rfl, by rw [hk]; exact RdK.nil _, Fr.refl _⟩
theorem resKinds_c (f : Nat) (w : World) : Calls Tryz.prog 56 #[.int .u8 f] w fun e w' => e = .returned (.func (.func 82) #[] #[.pointer (some ⟨w.heap.size, 0, none⟩)]) ∧ w' = w.alloc (.cells #[.int .u8 f] 5) := by
  go_enter Tryz.func56, Tryz.ntmps56
  go_wp2
  go_ret
  exact ⟨rfl, rfl⟩
set_option maxRecDepth 100000 in
set_option maxHeartbeats 1000000 in
theorem kinds_stops (f n Bn n₀ : Nat) (w : World) (hn : 1 ≤ n) (hBn : Bn < w.heap.size) (hn₀ : n₀ ≤ w.heap.size) (hc : w.cell? ⟨Bn, 0, none⟩ = some (.int .u8 f)) :
    SeqStopsK Fence.wide n Tryz.prog 82 #[.pointer (some ⟨Bn, 0, none⟩)] (fun x : Nat => #[Value.int .u8 x]) (Below n₀) (fun ys => ys = kindsOf f) (fun pre => pre <+: kindsOf f) (kindsOf f).length w := by
  intro l J Jx W hW _ _ hY h0
  have hcW := (hW.cell (p := ⟨Bn, 0, none⟩) hBn).trans hc
  clear hc hBn hW hn₀
  refine callsIn_of_wp Tryz.func82 rfl trivial ?_ rfl
  simp only [Tryz.ntmps82, List.size_toArray, List.length_cons, List.length_nil, Nat.reduceAdd, Nat.reduceSub, Array.replicate_succ, Array.replicate_zero, List.push_toArray, List.append_toArray, List.nil_append, List.cons_append]
  rcases f_cases f with rfl | rfl | rfl | rfl | rfl | rfl | rfl | rfl | rfl | rfl | rfl | ⟨hk, h1, h2, h3, h4, h5, h6, h7, h8, h9, h10, h11⟩
  · obtain ⟨fn, tmps, assign, body, hy, hR⟩ := hY [] 1 W h0 (by decide)
    have hy1 : (Instr.yield l #[Value.int .u8 1]).run Tryz.prog W = .ok (.round l fn tmps assign body) W := hy
    clear hy
    gi_wp2
    refine hR.mono ?_
    rintro e W1 (⟨rfl, hJ1, hk1⟩ | ⟨rfl, hJx1⟩)
    · gi_wp2
      go_end0
      exact ⟨⟨_, rfl⟩, .inl ⟨_, rfl, hJ1⟩⟩
    · gi_wp2
      go_end0
      exact ⟨⟨_, rfl⟩, .inr ⟨_, ⟨[], rfl⟩, hJx1⟩⟩
  · obtain ⟨fn, tmps, assign, body, hy, hR⟩ := hY [] 0 W h0 (by decide)
    have hy1 : (Instr.yield l #[Value.int .u8 0]).run Tryz.prog W = .ok (.round l fn tmps assign body) W := hy
    clear hy
    gi_wp2
    refine hR.mono ?_
    rintro e W1 (⟨rfl, hJ1, hk1⟩ | ⟨rfl, hJx1⟩)
    · gi_wp2
      go_end0
      exact ⟨⟨_, rfl⟩, .inl ⟨_, rfl, hJ1⟩⟩
    · gi_wp2
      go_end0
      exact ⟨⟨_, rfl⟩, .inr ⟨_, ⟨[], rfl⟩, hJx1⟩⟩
  · obtain ⟨fn, tmps, assign, body, hy, hR⟩ := hY [] 3 W h0 (by decide)
    have hy1 : (Instr.yield l #[Value.int .u8 3]).run Tryz.prog W = .ok (.round l fn tmps assign body) W := hy
    clear hy
    gi_wp2
    refine hR.mono ?_
    rintro e W1 (⟨rfl, hJ1, hk1⟩ | ⟨rfl, hJx1⟩)
    · obtain ⟨fn2, tmps2, assign2, body2, hy2, hR2⟩ := hY ([] ++ [3]) 4 W1 hJ1 (by decide)
      have hy3 : (Instr.yield l #[Value.int .u8 4]).run Tryz.prog W1 = .ok (.round l fn2 tmps2 assign2 body2) W1 := hy2
      clear hy2 hy1
      gi_wp2
      refine hR2.mono ?_
      rintro e W2 (⟨rfl, hJ2, hk2⟩ | ⟨rfl, hJx2⟩)
      · gi_wp2
        go_end0
        exact ⟨⟨_, rfl⟩, .inl ⟨_, rfl, hJ2⟩⟩
      · gi_wp2
        go_end0
        exact ⟨⟨_, rfl⟩, .inr ⟨_, ⟨[], rfl⟩, hJx2⟩⟩
    · gi_wp2
      refine ⟨fun _ h => (by cases h), ?_⟩
      gi_wp2
      go_end0
      exact ⟨⟨_, rfl⟩, .inr ⟨_, ⟨[4], rfl⟩, hJx1⟩⟩
  · obtain ⟨fn, tmps, assign, body, hy, hR⟩ := hY [] 0 W h0 (by decide)
    have hy1 : (Instr.yield l #[Value.int .u8 0]).run Tryz.prog W = .ok (.round l fn tmps assign body) W := hy
    clear hy
    gi_wp2
    refine hR.mono ?_
    rintro e W1 (⟨rfl, hJ1, hk1⟩ | ⟨rfl, hJx1⟩)
    · gi_wp2
      go_end0
      exact ⟨⟨_, rfl⟩, .inl ⟨_, rfl, hJ1⟩⟩
    · gi_wp2
      go_end0
      exact ⟨⟨_, rfl⟩, .inr ⟨_, ⟨[], rfl⟩, hJx1⟩⟩
  · obtain ⟨fn, tmps, assign, body, hy, hR⟩ := hY [] 1 W h0 (by decide)
    have hy1 : (Instr.yield l #[Value.int .u8 1]).run Tryz.prog W = .ok (.round l fn tmps assign body) W := hy
    clear hy
    gi_wp2
    refine hR.mono ?_
    rintro e W1 (⟨rfl, hJ1, hk1⟩ | ⟨rfl, hJx1⟩)
    · obtain ⟨fn2, tmps2, assign2, body2, hy2, hR2⟩ := hY ([] ++ [1]) 2 W1 hJ1 (by decide)
      have hy3 : (Instr.yield l #[Value.int .u8 2]).run Tryz.prog W1 = .ok (.round l fn2 tmps2 assign2 body2) W1 := hy2
      clear hy2 hy1
      gi_wp2
      refine hR2.mono ?_
      rintro e W2 (⟨rfl, hJ2, hk2⟩ | ⟨rfl, hJx2⟩)
      · gi_wp2
        go_end0
        exact ⟨⟨_, rfl⟩, .inl ⟨_, rfl, hJ2⟩⟩
      · gi_wp2
        go_end0
        exact ⟨⟨_, rfl⟩, .inr ⟨_, ⟨[], rfl⟩, hJx2⟩⟩
    · gi_wp2
      refine ⟨fun _ h => (by cases h), ?_⟩
      gi_wp2
      go_end0
      exact ⟨⟨_, rfl⟩, .inr ⟨_, ⟨[2], rfl⟩, hJx1⟩⟩
  · obtain ⟨fn, tmps, assign, body, hy, hR⟩ := hY [] 1 W h0 (by decide)
    have hy1 : (Instr.yield l #[Value.int .u8 1]).run Tryz.prog W = .ok (.round l fn tmps assign body) W := hy
    clear hy
    gi_wp2
    refine hR.mono ?_
    rintro e W1 (⟨rfl, hJ1, hk1⟩ | ⟨rfl, hJx1⟩)
    · obtain ⟨fn2, tmps2, assign2, body2, hy2, hR2⟩ := hY ([] ++ [1]) 2 W1 hJ1 (by decide)
      have hy3 : (Instr.yield l #[Value.int .u8 2]).run Tryz.prog W1 = .ok (.round l fn2 tmps2 assign2 body2) W1 := hy2
      clear hy2 hy1
      gi_wp2
      refine hR2.mono ?_
      rintro e W2 (⟨rfl, hJ2, hk2⟩ | ⟨rfl, hJx2⟩)
      · gi_wp2
        go_end0
        exact ⟨⟨_, rfl⟩, .inl ⟨_, rfl, hJ2⟩⟩
      · gi_wp2
        go_end0
        exact ⟨⟨_, rfl⟩, .inr ⟨_, ⟨[], rfl⟩, hJx2⟩⟩
    · gi_wp2
      refine ⟨fun _ h => (by cases h), ?_⟩
      gi_wp2
      go_end0
      exact ⟨⟨_, rfl⟩, .inr ⟨_, ⟨[2], rfl⟩, hJx1⟩⟩
  · obtain ⟨fn, tmps, assign, body, hy, hR⟩ := hY [] 0 W h0 (by decide)
    have hy1 : (Instr.yield l #[Value.int .u8 0]).run Tryz.prog W = .ok (.round l fn tmps assign body) W := hy
    clear hy
    gi_wp2
    refine hR.mono ?_
    rintro e W1 (⟨rfl, hJ1, hk1⟩ | ⟨rfl, hJx1⟩)
    · gi_wp2
      go_end0
      exact ⟨⟨_, rfl⟩, .inl ⟨_, rfl, hJ1⟩⟩
    · gi_wp2
      go_end0
      exact ⟨⟨_, rfl⟩, .inr ⟨_, ⟨[], rfl⟩, hJx1⟩⟩
  · obtain ⟨fn, tmps, assign, body, hy, hR⟩ := hY [] 3 W h0 (by decide)
    have hy1 : (Instr.yield l #[Value.int .u8 3]).run Tryz.prog W = .ok (.round l fn tmps assign body) W := hy
    clear hy
    gi_wp2
    refine hR.mono ?_
    rintro e W1 (⟨rfl, hJ1, hk1⟩ | ⟨rfl, hJx1⟩)
    · obtain ⟨fn2, tmps2, assign2, body2, hy2, hR2⟩ := hY ([] ++ [3]) 4 W1 hJ1 (by decide)
      have hy3 : (Instr.yield l #[Value.int .u8 4]).run Tryz.prog W1 = .ok (.round l fn2 tmps2 assign2 body2) W1 := hy2
      clear hy2 hy1
      gi_wp2
      refine hR2.mono ?_
      rintro e W2 (⟨rfl, hJ2, hk2⟩ | ⟨rfl, hJx2⟩)
      · gi_wp2
        go_end0
        exact ⟨⟨_, rfl⟩, .inl ⟨_, rfl, hJ2⟩⟩
      · gi_wp2
        go_end0
        exact ⟨⟨_, rfl⟩, .inr ⟨_, ⟨[], rfl⟩, hJx2⟩⟩
    · gi_wp2
      refine ⟨fun _ h => (by cases h), ?_⟩
      gi_wp2
      go_end0
      exact ⟨⟨_, rfl⟩, .inr ⟨_, ⟨[4], rfl⟩, hJx1⟩⟩
  · obtain ⟨fn, tmps, assign, body, hy, hR⟩ := hY [] 3 W h0 (by decide)
    have hy1 : (Instr.yield l #[Value.int .u8 3]).run Tryz.prog W = .ok (.round l fn tmps assign body) W := hy
    clear hy
    gi_wp2
    refine hR.mono ?_
    rintro e W1 (⟨rfl, hJ1, hk1⟩ | ⟨rfl, hJx1⟩)
    · obtain ⟨fn2, tmps2, assign2, body2, hy2, hR2⟩ := hY ([] ++ [3]) 4 W1 hJ1 (by decide)
      have hy3 : (Instr.yield l #[Value.int .u8 4]).run Tryz.prog W1 = .ok (.round l fn2 tmps2 assign2 body2) W1 := hy2
      clear hy2 hy1
      gi_wp2
      refine hR2.mono ?_
      rintro e W2 (⟨rfl, hJ2, hk2⟩ | ⟨rfl, hJx2⟩)
      · gi_wp2
        go_end0
        exact ⟨⟨_, rfl⟩, .inl ⟨_, rfl, hJ2⟩⟩
      · gi_wp2
        go_end0
        exact ⟨⟨_, rfl⟩, .inr ⟨_, ⟨[], rfl⟩, hJx2⟩⟩
    · gi_wp2
      refine ⟨fun _ h => (by cases h), ?_⟩
      gi_wp2
      go_end0
      exact ⟨⟨_, rfl⟩, .inr ⟨_, ⟨[4], rfl⟩, hJx1⟩⟩
  · obtain ⟨fn, tmps, assign, body, hy, hR⟩ := hY [] 3 W h0 (by decide)
    have hy1 : (Instr.yield l #[Value.int .u8 3]).run Tryz.prog W = .ok (.round l fn tmps assign body) W := hy
    clear hy
    gi_wp2
    refine hR.mono ?_
    rintro e W1 (⟨rfl, hJ1, hk1⟩ | ⟨rfl, hJx1⟩)
    · obtain ⟨fn2, tmps2, assign2, body2, hy2, hR2⟩ := hY ([] ++ [3]) 4 W1 hJ1 (by decide)
      have hy3 : (Instr.yield l #[Value.int .u8 4]).run Tryz.prog W1 = .ok (.round l fn2 tmps2 assign2 body2) W1 := hy2
      clear hy2 hy1
      gi_wp2
      refine hR2.mono ?_
      rintro e W2 (⟨rfl, hJ2, hk2⟩ | ⟨rfl, hJx2⟩)
      · gi_wp2
        go_end0
        exact ⟨⟨_, rfl⟩, .inl ⟨_, rfl, hJ2⟩⟩
      · gi_wp2
        go_end0
        exact ⟨⟨_, rfl⟩, .inr ⟨_, ⟨[], rfl⟩, hJx2⟩⟩
    · gi_wp2
      refine ⟨fun _ h => (by cases h), ?_⟩
      gi_wp2
      go_end0
      exact ⟨⟨_, rfl⟩, .inr ⟨_, ⟨[4], rfl⟩, hJx1⟩⟩
  · obtain ⟨fn, tmps, assign, body, hy, hR⟩ := hY [] 3 W h0 (by decide)
    have hy1 : (Instr.yield l #[Value.int .u8 3]).run Tryz.prog W = .ok (.round l fn tmps assign body) W := hy
    clear hy
    gi_wp2
    refine hR.mono ?_
    rintro e W1 (⟨rfl, hJ1, hk1⟩ | ⟨rfl, hJx1⟩)
    · obtain ⟨fn2, tmps2, assign2, body2, hy2, hR2⟩ := hY ([] ++ [3]) 4 W1 hJ1 (by decide)
      have hy3 : (Instr.yield l #[Value.int .u8 4]).run Tryz.prog W1 = .ok (.round l fn2 tmps2 assign2 body2) W1 := hy2
      clear hy2 hy1
      gi_wp2
      refine hR2.mono ?_
      rintro e W2 (⟨rfl, hJ2, hk2⟩ | ⟨rfl, hJx2⟩)
      · gi_wp2
        go_end0
        exact ⟨⟨_, rfl⟩, .inl ⟨_, rfl, hJ2⟩⟩
      · gi_wp2
        go_end0
        exact ⟨⟨_, rfl⟩, .inr ⟨_, ⟨[], rfl⟩, hJx2⟩⟩
    · gi_wp2
      refine ⟨fun _ h => (by cases h), ?_⟩
      gi_wp2
      go_end0
      exact ⟨⟨_, rfl⟩, .inr ⟨_, ⟨[4], rfl⟩, hJx1⟩⟩
  · gi_wp2
    go_end0
    first | exact ⟨⟨_, rfl⟩, .inl ⟨[], hk.symm, h0⟩⟩ | exact ⟨⟨_, rfl⟩, .inl h0⟩ | simpa using Or.inl h0
end Go.Proofs.YtdjjjnoecfbjeaaGreatDoor
