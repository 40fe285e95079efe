/- event.kinds, of; what each kind needs; the small ones. No condition. -/
import Derived.Test.YtgbaanioppblhaaDoorPRefTake
import Derived.Laws.EntriesVeiled
import Derived.Deep.WholeRow
import Derived.Test.YtgbaanioppblhaaDoorPArms
set_option linter.unusedVariables false
set_option linter.unusedSimpArgs false
/- event.kinds, of; what each kind needs; the small ones. No condition. -/
namespace Go.Proofs.YtgbaanioppblhaaDoor
open Go.RowKit

/-- The four functions of a kind. -/
def evKind (k : Nat) : Array Value :=
  if k = 1 then #[.func (.func 56) #[] #[], .func (.func 57) #[] #[], .func (.func 58) #[] #[], .func (.func 59) #[] #[]]
  else if k = 2 then #[.func (.func 60) #[] #[], .func (.func 61) #[] #[], .func (.func 62) #[] #[], .func (.func 63) #[] #[]]
  else if k = 3 then #[.func (.func 64) #[] #[], .func (.func 65) #[] #[], .func (.func 66) #[] #[], .func (.func 67) #[] #[]]
  else if k = 5 then #[.func (.func 72) #[] #[], .func (.func 73) #[] #[], .func (.func 74) #[] #[], .func (.func 75) #[] #[]]
  else if k = 6 then #[.func (.func 76) #[] #[], .func (.func 77) #[] #[], .func (.func 78) #[] #[], .func (.func 79) #[] #[]]
  else #[.func (.func 68) #[] #[], .func (.func 69) #[] #[], .func (.func 70) #[] #[], .func (.func 71) #[] #[]]
def kindRows : Array Value := #[.nilFunc, .nilFunc, .nilFunc, .nilFunc,
  .func (.func 56) #[] #[], .func (.func 57) #[] #[], .func (.func 58) #[] #[], .func (.func 59) #[] #[],
  .func (.func 60) #[] #[], .func (.func 61) #[] #[], .func (.func 62) #[] #[], .func (.func 63) #[] #[],
  .func (.func 64) #[] #[], .func (.func 65) #[] #[], .func (.func 66) #[] #[], .func (.func 67) #[] #[],
  .func (.func 68) #[] #[], .func (.func 69) #[] #[], .func (.func 70) #[] #[], .func (.func 71) #[] #[],
  .func (.func 72) #[] #[], .func (.func 73) #[] #[], .func (.func 74) #[] #[], .func (.func 75) #[] #[],
  .func (.func 76) #[] #[], .func (.func 77) #[] #[], .func (.func 78) #[] #[], .func (.func 79) #[] #[],
  .func (.func 68) #[] #[], .func (.func 69) #[] #[], .func (.func 70) #[] #[], .func (.func 71) #[] #[]]
set_option maxRecDepth 100000 in
set_option maxHeartbeats 2000000 in
theorem kinds_c (w : World) :
    Calls Tryd.prog 45 #[] w fun e w' => e = .returned (.agg kindRows) ∧ Fr w w' := by
  have hi : (Tryd.prog.info? 95).map (·.size) = some kindRows.size := by kernel_rfl
  have hone : kindRows.all (·.oneCell') = true := by simp [kindRows, Value.oneCell']
  have HI := Lib.hid hi
  have HO := Lib.hid hone
  clear hi hone
  go_enter Tryd.func45, Tryd.ntmps45
  go_wp2_with ((with_reducible refine wpList_here (.store 95 (.tmp 0) (.tmp 8)) rfl ?_); refine wpList_store_new 95 (.tmp 0) (.tmp 8) rfl _ kindRows _ rfl rfl rfl HI.out rfl HO.out rfl rfl ?_)
  (try simp only [Exit.inBlock, Exit.then])
  refine bodyPost_ret (v := .agg kindRows) ?_ rfl ⟨rfl, (Fr.refl _).alloc _⟩
  exact results_cell_row rfl _ _ w.heap.size 95 kindRows (0, 0) (.array 8 67) rfl (heap_alloc_last w _) (by kernel_rfl) rfl (by kernel_rfl)
theorem kindRows_at (k : Nat) (h1 : 1 ≤ k) (h2 : k ≤ 7) : kindRows.extract (k * 4) (k * 4 + 4) = evKind k := by
  rcases (show k = 1 ∨ k = 2 ∨ k = 3 ∨ k = 4 ∨ k = 5 ∨ k = 6 ∨ k = 7 by omega) with rfl | rfl | rfl | rfl | rfl | rfl | rfl <;> rfl
theorem kinds_index (k : Nat) (W : World) (h1 : 1 ≤ k) (h2 : k ≤ 7) : (Instr.index 95 (.agg kindRows) (.int .u8 k)).run Tryd.prog W = .ok (.agg (evKind k)) W := by
  rcases (show k = 1 ∨ k = 2 ∨ k = 3 ∨ k = 4 ∨ k = 5 ∨ k = 6 ∨ k = 7 by omega) with rfl | rfl | rfl | rfl | rfl | rfl | rfl <;>
  simp [Instr.index, go_sem, kindRows, evKind, Tryd.underlying95]
set_option maxRecDepth 100000 in
theorem of_yes (k : Nat) (w : World) (h1 : 1 ≤ k) (h2 : k ≤ 7) :
    Calls Tryd.prog 24 #[.int .u8 k] w fun e w' => e = .returned (.tuple #[.agg (evKind k), .bool true]) ∧ Fr w w' := by
  have g1 : ¬ (k : Int) < 1 := by omega
  have g2 : ¬ (7 : Int) < k := by omega
  have hx := fun W => kinds_index k W h1 h2
  obtain ⟨q0, q1, q2, q3, hq⟩ : ∃ q0 q1 q2 q3 : Nat, evKind k = #[.func (.func q0) #[] #[], .func (.func q1) #[] #[], .func (.func q2) #[] #[], .func (.func q3) #[] #[]] := by
    unfold evKind; repeat (first | exact ⟨_, _, _, _, rfl⟩ | split)
  rw [hq] at hx ⊢
  clear hq
  go_enter Tryd.func24, Tryd.ntmps24
  go_wp2_with fail
  refine (kinds_c _).mono ?_
  rintro e w1 ⟨rfl, hb⟩
  have hz := hb.size1
  have a0 := hb.cell w.heap.size 0 (by simp)
  have a1 := hb.cell w.heap.size 1 (by simp)
  have a2 := hb.cell w.heap.size 2 (by simp)
  have a3 := hb.cell w.heap.size 3 (by simp)
  have f0 := hb.frozen w.heap.size 0 (by simp)
  have f1 := hb.frozen w.heap.size 1 (by simp)
  have f2 := hb.frozen w.heap.size 2 (by simp)
  have f3 := hb.frozen w.heap.size 3 (by simp)
  simp at a0 a1 a2 a3 f0 f1 f2 f3
  have hfr : Fr w w1 := Fr.trans ((Fr.refl _).alloc _) hb
  clear hb
  generalize kindRows = R at hx ⊢
  go_wp2
  refine bodyPost_ret (v := .tuple #[.agg #[.func (.func q0) #[] #[], .func (.func q1) #[] #[], .func (.func q2) #[] #[], .func (.func q3) #[] #[]], .bool true]) (by simp [results, Tryd.results24, go_sem, a0, a1, a2, a3, hz]) rfl ⟨rfl, ?_⟩
  repeat (with_reducible first | assumption | exact Fr.refl _ | apply Fr.alloc | refine Fr.setCell ?_ (by simp) _)
theorem of_no (k : Int) (w : World) (h : k < 1 ∨ 7 < k) :
    Calls Tryd.prog 24 #[.int .u8 k] w fun e w' => e = .returned (.tuple #[.agg #[.nilFunc, .nilFunc, .nilFunc, .nilFunc], .bool false]) ∧ Fr w w' := by
  by_cases h1 : k < 1
  · go_enter Tryd.func24, Tryd.ntmps24
    go_wp2
    refine bodyPost_ret (v := .tuple #[.agg #[.nilFunc, .nilFunc, .nilFunc, .nilFunc], .bool false]) (by simp [results, Tryd.results24, go_sem]) rfl ⟨rfl, ?_⟩
    repeat (with_reducible first | assumption | exact Fr.refl _ | apply Fr.alloc | refine Fr.setCell ?_ (by simp) _)
  · have h2 : 7 < k := by omega
    go_enter Tryd.func24, Tryd.ntmps24
    go_wp2
    refine bodyPost_ret (v := .tuple #[.agg #[.nilFunc, .nilFunc, .nilFunc, .nilFunc], .bool false]) (by simp [results, Tryd.results24, go_sem]) rfl ⟨rfl, ?_⟩
    repeat (with_reducible first | assumption | exact Fr.refl _ | apply Fr.alloc | refine Fr.setCell ?_ (by simp) _)
end Go.Proofs.YtgbaanioppblhaaDoor
