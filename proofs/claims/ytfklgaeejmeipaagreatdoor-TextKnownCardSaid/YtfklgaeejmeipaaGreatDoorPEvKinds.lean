/- event.kinds, of; what each kind needs; the small ones. No condition. -/
import Derived.Test.YtfklgaeejmeipaaGreatDoorPOpTake
import Derived.Laws.EntriesVeiled
import Derived.Deep.WholeRow
import Derived.Test.YtfklgaeejmeipaaGreatDoorPArms
import Derived.Deep.MidRow
import Derived.Test.YtfklgaeejmeipaaGreatDoorPOp
set_option linter.all false
set_option linter.unusedVariables false
set_option linter.unusedSimpArgs false
set_option linter.unnecessarySimpa false
/- event.kinds, of; what each kind needs; the small ones. No condition. -/
namespace Go.Proofs.YtfklgaeejmeipaaGreatDoor
open Go.RowKit

/-- The four functions of a kind. -/
def evKind (k : Nat) : Array Value :=
  if k = 1 then #[.func (.func 101) #[] #[], .func (.func 102) #[] #[], .func (.func 103) #[] #[], .func (.func 104) #[] #[]]
  else if k = 2 then #[.func (.func 105) #[] #[], .func (.func 106) #[] #[], .func (.func 107) #[] #[], .func (.func 108) #[] #[]]
  else if k = 3 then #[.func (.func 109) #[] #[], .func (.func 110) #[] #[], .func (.func 111) #[] #[], .func (.func 112) #[] #[]]
  else if k = 5 then #[.func (.func 117) #[] #[], .func (.func 118) #[] #[], .func (.func 119) #[] #[], .func (.func 120) #[] #[]]
  else if k = 6 then #[.func (.func 121) #[] #[], .func (.func 122) #[] #[], .func (.func 123) #[] #[], .func (.func 124) #[] #[]]
  else #[.func (.func 113) #[] #[], .func (.func 114) #[] #[], .func (.func 115) #[] #[], .func (.func 116) #[] #[]]
def kindRows : Array Value := #[.nilFunc, .nilFunc, .nilFunc, .nilFunc,
  .func (.func 101) #[] #[], .func (.func 102) #[] #[], .func (.func 103) #[] #[], .func (.func 104) #[] #[],
  .func (.func 105) #[] #[], .func (.func 106) #[] #[], .func (.func 107) #[] #[], .func (.func 108) #[] #[],
  .func (.func 109) #[] #[], .func (.func 110) #[] #[], .func (.func 111) #[] #[], .func (.func 112) #[] #[],
  .func (.func 113) #[] #[], .func (.func 114) #[] #[], .func (.func 115) #[] #[], .func (.func 116) #[] #[],
  .func (.func 117) #[] #[], .func (.func 118) #[] #[], .func (.func 119) #[] #[], .func (.func 120) #[] #[],
  .func (.func 121) #[] #[], .func (.func 122) #[] #[], .func (.func 123) #[] #[], .func (.func 124) #[] #[],
  .func (.func 113) #[] #[], .func (.func 114) #[] #[], .func (.func 115) #[] #[], .func (.func 116) #[] #[]]
set_option maxRecDepth 100000 in
set_option maxHeartbeats 2000000 in
theorem kinds_c (w : World) :
    Calls Tryz.prog 85 #[] w fun e w' => e = .returned (.agg kindRows) ∧ Fr w w' := by
  have hi : (Tryz.prog.info? 134).map (·.size) = some kindRows.size := by kernel_rfl
  have hone : kindRows.all (·.oneCell') = true := by simp [kindRows, Value.oneCell']
  have HI := Lib.hid hi
  have HO := Lib.hid hone
  clear hi hone
  go_enter Tryz.func85, Tryz.ntmps85
  go_wp2_with ((with_reducible refine wpList_here (.store 134 (.tmp 0) (.tmp 8)) rfl ?_); refine wpList_store_new 134 (.tmp 0) (.tmp 8) rfl _ kindRows _ rfl rfl rfl HI.out rfl HO.out rfl rfl ?_)
  (try simp only [Exit.inBlock, Exit.then])
  refine bodyPost_ret (v := .agg kindRows) ?_ rfl ⟨rfl, (Fr.refl _).alloc _⟩
  exact results_cell_row rfl _ _ w.heap.size 134 kindRows (0, 0) (.array 8 103) rfl (heap_alloc_last w _) (by kernel_rfl) rfl (by kernel_rfl)
theorem kindRows_at (k : Nat) (h1 : 1 ≤ k) (h2 : k ≤ 7) : kindRows.extract (k * 4) (k * 4 + 4) = evKind k := by
  rcases (show k = 1 ∨ k = 2 ∨ k = 3 ∨ k = 4 ∨ k = 5 ∨ k = 6 ∨ k = 7 by omega) with rfl | rfl | rfl | rfl | rfl | rfl | rfl <;> rfl
theorem kinds_index (k : Nat) (W : World) (h1 : 1 ≤ k) (h2 : k ≤ 7) : (Instr.index 134 (.agg kindRows) (.int .u8 k)).run Tryz.prog W = .ok (.agg (evKind k)) W := by
  rcases (show k = 1 ∨ k = 2 ∨ k = 3 ∨ k = 4 ∨ k = 5 ∨ k = 6 ∨ k = 7 by omega) with rfl | rfl | rfl | rfl | rfl | rfl | rfl <;>
  simp [Instr.index, go_sem, kindRows, evKind, Tryz.underlying134]
set_option maxRecDepth 100000 in
theorem of_yes (k : Nat) (w : World) (h1 : 1 ≤ k) (h2 : k ≤ 7) :
    Calls Tryz.prog 59 #[.int .u8 k] w fun e w' => e = .returned (.tuple #[.agg (evKind k), .bool true]) ∧ Fr w w' := by
  have g1 : ¬ (k : Int) < 1 := by omega
  have g2 : ¬ (7 : Int) < k := by omega
  have hx := fun W => kinds_index k W h1 h2
  obtain ⟨q0, q1, q2, q3, hq⟩ : ∃ q0 q1 q2 q3 : Nat, evKind k = #[.func (.func q0) #[] #[], .func (.func q1) #[] #[], .func (.func q2) #[] #[], .func (.func q3) #[] #[]] := by
    unfold evKind; repeat (first | exact ⟨_, _, _, _, rfl⟩ | split)
  rw [hq] at hx ⊢
  clear hq
  go_enter Tryz.func59, Tryz.ntmps59
  go_wp2_with fail
  refine (kinds_c _).mono ?_
  rintro e w1 ⟨rfl, hb⟩
  have hz := hb.size1
  have a0 := hb.cell w.heap.size 0 (by simp)
  have a1 := hb.cell w.heap.size 1 (by simp)
  have a2 := hb.cell w.heap.size 2 (by simp)
  have a3 := hb.cell w.heap.size 3 (by simp)
  have f0 := hb.frozen w.heap.size 0 (by simp)
  have f1 := hb.frozen w.heap.size 1 (by simp)
  have f2 := hb.frozen w.heap.size 2 (by simp)
  have f3 := hb.frozen w.heap.size 3 (by simp)
  simp at a0 a1 a2 a3 f0 f1 f2 f3
  have hfr : Fr w w1 := Fr.trans ((Fr.refl _).alloc _) hb
  clear hb
  generalize kindRows = R at hx ⊢
  go_wp2
  refine bodyPost_ret (v := .tuple #[.agg #[.func (.func q0) #[] #[], .func (.func q1) #[] #[], .func (.func q2) #[] #[], .func (.func q3) #[] #[]], .bool true]) (by simp [results, Tryz.results59, go_sem, a0, a1, a2, a3, hz]) rfl ⟨rfl, ?_⟩
  repeat (with_reducible first | assumption | exact Fr.refl _ | apply Fr.alloc | refine Fr.setCell ?_ (by simp) _)
theorem of_no (k : Int) (w : World) (h : k < 1 ∨ 7 < k) :
    Calls Tryz.prog 59 #[.int .u8 k] w fun e w' => e = .returned (.tuple #[.agg #[.nilFunc, .nilFunc, .nilFunc, .nilFunc], .bool false]) ∧ Fr w w' := by
  by_cases h1 : k < 1
  · go_enter Tryz.func59, Tryz.ntmps59
    go_wp2
    refine bodyPost_ret (v := .tuple #[.agg #[.nilFunc, .nilFunc, .nilFunc, .nilFunc], .bool false]) (by simp [results, Tryz.results59, go_sem]) rfl ⟨rfl, ?_⟩
    repeat (with_reducible first | assumption | exact Fr.refl _ | apply Fr.alloc | refine Fr.setCell ?_ (by simp) _)
  · have h2 : 7 < k := by omega
    go_enter Tryz.func59, Tryz.ntmps59
    go_wp2
    refine bodyPost_ret (v := .tuple #[.agg #[.nilFunc, .nilFunc, .nilFunc, .nilFunc], .bool false]) (by simp [results, Tryz.results59, go_sem]) rfl ⟨rfl, ?_⟩
    repeat (with_reducible first | assumption | exact Fr.refl _ | apply Fr.alloc | refine Fr.setCell ?_ (by simp) _)
end Go.Proofs.YtfklgaeejmeipaaGreatDoor

/- event's needs of each kind. No condition. -/
namespace Go.Proofs.YtfklgaeejmeipaaGreatDoor
open Go.RowKit

abbrev nil0 : Value := .slice none 0 0
/-- The cells of an event's value. -/
def Ev.cells (x : Ev) (t r : Value) : Array Value := #[.int .u8 x.kind, .int .u8 x.client, .int .u16 x.id, .int .u8 x.op.F, .int .u8 x.op.O, .int .u8 x.op.K, .int .u16 x.op.A, .int .u16 x.op.B, .int .u8 x.rk, .int .u16 x.rv, t, r, .int .u8 x.cfg.model, .int .i64 x.cfg.opens, .int .i64 x.cfg.states, .int .i64 x.cfg.steps, .bool x.cfg.part, .bool x.cfg.cut, .bool x.cfg.memo]
theorem Ev.val_cells (x : Ev) (t r : Value) : x.val t r = .agg (x.cells t r) := rfl
def zeroCells : Array Value := #[.int .u8 0, .int .u8 0, .int .u16 0, .int .u8 0, .int .u8 0, .int .u8 0, .int .u16 0, .int .u16 0, .int .u8 0, .int .u16 0, nil0, nil0, .int .u8 0, .int .i64 0, .int .i64 0, .int .i64 0, .bool false, .bool false, .bool false]
theorem Ev.oneCell (o : Ev) (ta ra : Option Addr) (tn tc rn rc : Nat) : (o.cells (.slice ta tn tc) (.slice ra rn rc)).all (·.oneCell') = true := by simp [Value.oneCell', Ev.cells]
theorem Tryz.infoEv : (Tryz.prog.info? 32).map (·.size) = some 19 := by kernel_rfl
theorem results_ev {fn : Func} {p : Tmp} (h : fn.results = #[.cell p 32]) (tmps : Array Value) (w : World) (X : Obj) (c : Array Value) (hp : tmps.getD p undef = .pointer (some ⟨w.heap.size + 1, 0, none⟩)) (hc : c.size = 19) :
    (results fn tmps).run Tryz.prog ((w.alloc X).alloc (.cells c 32)) = .ok (.agg c) ((w.alloc X).alloc (.cells c 32)) := by
  refine results_cell_row h tmps _ (w.heap.size + 1) 32 c (0, 0) _ hp ?_ Tryz.underlying32 rfl (by rw [hc]; exact Tryz.infoEv)
  have := heap_alloc_last (w.alloc X) (.cells c 32)
  simpa using this
set_option maxRecDepth 100000 in
theorem invoked_c (x : Ev) (t r : Value) (w : World) :
    Calls Tryz.prog 105 #[x.val t r] w fun e w' => e = .returned (({ Ev.zero with op := x.op } : Ev).val nil0 nil0) ∧ Fr w w' := by
  unfold Ev.val
  go_enter Tryz.func105, Tryz.ntmps105
  go_wp2_with ((with_reducible refine wpList_here (.store 32 (.tmp 2) (.tmp 5)) rfl ?_); refine wpList_store_new 32 (.tmp 2) (.tmp 5) rfl _ (({ Ev.zero with op := x.op } : Ev).cells nil0 nil0) _ (by simp) rfl rfl Tryz.infoEv rfl (Ev.oneCell _ _ _ _ _ _ _) rfl rfl ?_)
  refine bodyPost_ret (v := .agg #[.int .u8 0, .int .u8 0, .int .u16 0, .int .u8 x.op.F, .int .u8 x.op.O, .int .u8 x.op.K, .int .u16 x.op.A, .int .u16 x.op.B, .int .u8 0, .int .u16 0, nil0, nil0, .int .u8 0, .int .i64 0, .int .i64 0, .int .i64 0, .bool false, .bool false, .bool false]) (results_ev rfl _ _ _ _ rfl rfl) rfl ⟨rfl, ((Fr.refl _).alloc _).alloc _⟩
set_option maxRecDepth 100000 in
theorem returned_c (x : Ev) (t r : Value) (w : World) :
    Calls Tryz.prog 109 #[x.val t r] w fun e w' => e = .returned (({ Ev.zero with rk := x.rk, rv := x.rv } : Ev).val nil0 nil0) ∧ Fr w w' := by
  unfold Ev.val
  go_enter Tryz.func109, Tryz.ntmps109
  go_wp2_with ((with_reducible refine wpList_here (.store 32 (.tmp 2) (.tmp 5)) rfl ?_); refine wpList_store_new 32 (.tmp 2) (.tmp 5) rfl _ (({ Ev.zero with rk := x.rk, rv := x.rv } : Ev).cells nil0 nil0) _ (by simp) rfl rfl Tryz.infoEv rfl (Ev.oneCell _ _ _ _ _ _ _) rfl rfl ?_)
  refine bodyPost_ret (v := .agg #[.int .u8 0, .int .u8 0, .int .u16 0, .int .u8 0, .int .u8 0, .int .u8 0, .int .u16 0, .int .u16 0, .int .u8 x.rk, .int .u16 x.rv, nil0, nil0, .int .u8 0, .int .i64 0, .int .i64 0, .int .i64 0, .bool false, .bool false, .bool false]) (results_ev rfl _ _ _ _ rfl rfl) rfl ⟨rfl, ((Fr.refl _).alloc _).alloc _⟩
set_option maxRecDepth 100000 in
theorem begun_c (x : Ev) (t r : Value) (w : World) (hs : ∃ a n c, t = .slice a n c) :
    Calls Tryz.prog 117 #[x.val t r] w fun e w' => e = .returned (({ Ev.zero with txn := x.txn } : Ev).val t nil0) ∧ Fr w w' := by
  obtain ⟨sa, sn, sc, rfl⟩ := hs
  unfold Ev.val
  go_enter Tryz.func117, Tryz.ntmps117
  go_wp2_with ((with_reducible refine wpList_here (.store 32 (.tmp 2) (.tmp 5)) rfl ?_); refine wpList_store_new 32 (.tmp 2) (.tmp 5) rfl _ (({ Ev.zero with txn := x.txn } : Ev).cells (.slice sa sn sc) nil0) _ (by simp) rfl rfl Tryz.infoEv rfl (Ev.oneCell _ _ _ _ _ _ _) rfl rfl ?_)
  refine bodyPost_ret (v := .agg #[.int .u8 0, .int .u8 0, .int .u16 0, .int .u8 0, .int .u8 0, .int .u8 0, .int .u16 0, .int .u16 0, .int .u8 0, .int .u16 0, .slice sa sn sc, nil0, .int .u8 0, .int .i64 0, .int .i64 0, .int .i64 0, .bool false, .bool false, .bool false]) (results_ev rfl _ _ _ _ rfl rfl) rfl ⟨rfl, ((Fr.refl _).alloc _).alloc _⟩
set_option maxRecDepth 100000 in
theorem committed_c (x : Ev) (t r : Value) (w : World) (hs : ∃ a n c, r = .slice a n c) :
    Calls Tryz.prog 121 #[x.val t r] w fun e w' => e = .returned (({ Ev.zero with reads := x.reads } : Ev).val nil0 r) ∧ Fr w w' := by
  obtain ⟨sa, sn, sc, rfl⟩ := hs
  unfold Ev.val
  go_enter Tryz.func121, Tryz.ntmps121
  go_wp2_with ((with_reducible refine wpList_here (.store 32 (.tmp 2) (.tmp 5)) rfl ?_); refine wpList_store_new 32 (.tmp 2) (.tmp 5) rfl _ (({ Ev.zero with reads := x.reads } : Ev).cells nil0 (.slice sa sn sc)) _ (by simp) rfl rfl Tryz.infoEv rfl (Ev.oneCell _ _ _ _ _ _ _) rfl rfl ?_)
  refine bodyPost_ret (v := .agg #[.int .u8 0, .int .u8 0, .int .u16 0, .int .u8 0, .int .u8 0, .int .u8 0, .int .u16 0, .int .u16 0, .int .u8 0, .int .u16 0, nil0, .slice sa sn sc, .int .u8 0, .int .i64 0, .int .i64 0, .int .i64 0, .bool false, .bool false, .bool false]) (results_ev rfl _ _ _ _ rfl rfl) rfl ⟨rfl, ((Fr.refl _).alloc _).alloc _⟩
set_option maxRecDepth 100000 in
theorem configured_c (x : Ev) (t r : Value) (w : World) :
    Calls Tryz.prog 101 #[x.val t r] w fun e w' => e = .returned (({ Ev.zero with cfg := x.cfg } : Ev).val nil0 nil0) ∧ Fr w w' := by
  unfold Ev.val
  go_enter Tryz.func101, Tryz.ntmps101
  go_wp2_with ((with_reducible refine wpList_here (.store 32 (.tmp 2) (.tmp 5)) rfl ?_); refine wpList_store_new 32 (.tmp 2) (.tmp 5) rfl _ (({ Ev.zero with cfg := x.cfg } : Ev).cells nil0 nil0) _ (by simp) rfl rfl Tryz.infoEv rfl (Ev.oneCell _ _ _ _ _ _ _) rfl rfl ?_)
  refine bodyPost_ret (v := .agg #[.int .u8 0, .int .u8 0, .int .u16 0, .int .u8 0, .int .u8 0, .int .u8 0, .int .u16 0, .int .u16 0, .int .u8 0, .int .u16 0, nil0, nil0, .int .u8 x.cfg.model, .int .i64 x.cfg.opens, .int .i64 x.cfg.states, .int .i64 x.cfg.steps, .bool x.cfg.part, .bool x.cfg.cut, .bool x.cfg.memo]) (results_ev rfl _ _ _ _ rfl rfl) rfl ⟨rfl, ((Fr.refl _).alloc _).alloc _⟩
set_option maxRecDepth 100000 in
theorem nothing_c (x : Ev) (t r : Value) (w : World) :
    Calls Tryz.prog 113 #[x.val t r] w fun e w' => e = .returned (Ev.zero.val nil0 nil0) ∧ Fr w w' := by
  unfold Ev.val
  go_enter Tryz.func113, Tryz.ntmps113
  go_wp2_with ((with_reducible refine wpList_here (.store 32 (.tmp 2) (.tmp 3)) rfl ?_); refine wpList_store_new 32 (.tmp 2) (.tmp 3) rfl _ (Ev.zero.cells nil0 nil0) _ (by simp) rfl rfl Tryz.infoEv rfl (Ev.oneCell _ _ _ _ _ _ _) rfl rfl ?_)
  refine bodyPost_ret (v := .agg #[.int .u8 0, .int .u8 0, .int .u16 0, .int .u8 0, .int .u8 0, .int .u8 0, .int .u16 0, .int .u16 0, .int .u8 0, .int .u16 0, nil0, nil0, .int .u8 0, .int .i64 0, .int .i64 0, .int .i64 0, .bool false, .bool false, .bool false]) (results_ev rfl _ _ _ _ rfl rfl) rfl ⟨rfl, ((Fr.refl _).alloc _).alloc _⟩
end Go.Proofs.YtfklgaeejmeipaaGreatDoor

/- event's may of each kind. No condition but that the event can be read, and its numbers' bounds. -/
namespace Go.Proofs.YtfklgaeejmeipaaGreatDoor
open Go.RowKit

theorem within_c (n a b : Int) (w : World) :
    Calls Tryz.prog 139 #[.int .i64 n, .int .i64 a, .int .i64 b] w fun e w' => e = .returned (.bool (decide (a ≤ n) && decide (n ≤ b))) ∧ w = w' := by
  by_cases h : a ≤ n
  · rw [decide_eq_true h, Bool.true_and]
    go_enter Tryz.func139, Tryz.ntmps139
    go_wp2
    go_ret
    exact ⟨rfl, rfl⟩
  · rw [decide_eq_false h, Bool.false_and]
    have h' : n < a := by omega
    go_enter Tryz.func139, Tryz.ntmps139
    go_wp2
    go_ret
    exact ⟨rfl, rfl⟩
theorem always_c (v : Value) (w : World) (h : ∃ x : Ev, ∃ t r, v = x.val t r) :
    Calls Tryz.prog 114 #[v] w fun e w' => e = .returned (.bool true) ∧ Fr w w' := by
  obtain ⟨x, t, r, rfl⟩ := h
  unfold Ev.val
  go_enter Tryz.func114, Tryz.ntmps114
  go_wp2
  go_ret
  exact ⟨rfl, (Fr.refl _).alloc _⟩
set_option maxRecDepth 100000 in
theorem mayConfig_c (x : Ev) (t r : Value) (w : World) :
    Calls Tryz.prog 102 #[x.val t r] w fun e w' => e = .returned (.bool (cfgMay x.cfg)) ∧ Fr w w' := by
  have h1 := fun W => within_c x.cfg.opens 1 32 W
  have h2 := fun W => within_c x.cfg.states 1 4096 W
  have h3 := fun W => within_c x.cfg.steps 1 1048576 W
  unfold cfgMay Ev.val
  generalize (decide (1 ≤ x.cfg.opens) && decide (x.cfg.opens ≤ 32)) = b1 at h1 ⊢
  generalize (decide (1 ≤ x.cfg.states) && decide (x.cfg.states ≤ 4096)) = b2 at h2 ⊢
  generalize (decide (1 ≤ x.cfg.steps) && decide (x.cfg.steps ≤ 1048576)) = b3 at h3 ⊢
  have H1 := Lib.hid h1
  have H2 := Lib.hid h2
  have H3 := Lib.hid h3
  clear h1 h2 h3
  by_cases hm : x.cfg.model ≤ 4
  · have hi : (x.cfg.model : Int) ≤ 4 := by omega
    rw [decide_eq_true hm]
    clear hm
    cases b1
    · go_enter Tryz.func102, Tryz.ntmps102
      go_wp2_with (go_at_call 139; first | (refine (H1.out _).mono ?_; rintro e w1 ⟨rfl, rfl⟩))
      go_ret
      exact ⟨rfl, ((Fr.refl _).alloc _).alloc _⟩
    · skip
      cases b2
      · go_enter Tryz.func102, Tryz.ntmps102
        go_wp2_with fail
        refine (H1.out _).mono ?_
        rintro e w1 ⟨rfl, rfl⟩
        go_wp2_with fail
        refine (H2.out _).mono ?_
        rintro e w1 ⟨rfl, rfl⟩
        go_wp2_with fail
        go_ret
        exact ⟨rfl, ((Fr.refl _).alloc _).alloc _⟩
      · go_enter Tryz.func102, Tryz.ntmps102
        go_wp2_with fail
        refine (H1.out _).mono ?_
        rintro e w1 ⟨rfl, rfl⟩
        go_wp2_with fail
        refine (H2.out _).mono ?_
        rintro e w1 ⟨rfl, rfl⟩
        go_wp2_with fail
        refine (H3.out _).mono ?_
        rintro e w1 ⟨rfl, rfl⟩
        go_wp2_with fail
        go_ret
        exact ⟨by simp, ((Fr.refl _).alloc _).alloc _⟩
  · have hi : ¬ (x.cfg.model : Int) ≤ 4 := by omega
    rw [decide_eq_false hm]
    clear hm
    go_enter Tryz.func102, Tryz.ntmps102
    go_wp2_with fail
    go_ret
    exact ⟨rfl, ((Fr.refl _).alloc _).alloc _⟩
set_option maxRecDepth 100000 in
theorem mayResult_c (x : Ev) (t r : Value) (w : World) :
    Calls Tryz.prog 110 #[x.val t r] w fun e w' => e = .returned (.bool (goodB x.rk x.rv)) ∧ Fr w w' := by
  have h1 := fun W => resCheck_c x.rk x.rv W
  unfold checkRes at h1
  generalize goodB x.rk x.rv = b at h1 ⊢
  unfold Ev.val
  have H1 := Lib.hid h1
  clear h1
  go_enter Tryz.func110, Tryz.ntmps110
  go_wp2_with fail
  refine (H1.out _).mono ?_
  rintro e w1 ⟨rfl, hb⟩
  cases b
  · go_wp2_with fail
    go_ret
    exact ⟨rfl, ((Fr.refl _).alloc _).trans hb⟩
  · go_wp2_with fail
    go_ret
    exact ⟨rfl, ((Fr.refl _).alloc _).trans hb⟩
set_option maxRecDepth 100000 in
theorem mayOp_c (x : Ev) (t r : Value) (w : World) (hE : Env w) (hF : x.op.F < 256) (hO : x.op.O < 256) (hK : x.op.K < 256) :
    Calls Tryz.prog 106 #[x.val t r] w fun e w' => e = .returned (.bool x.op.may) ∧ Fr w w' := by
  have h1 := fun W hE => opPut_c x.op.F x.op.O x.op.K x.op.A x.op.B W hE hF hO hK
  have h2 : (putOp x.op.F x.op.O x.op.K x.op.A x.op.B).2 = if x.op.may then 0 else 4 := by unfold putOp OpD.may; split <;> rfl
  rw [h2] at h1
  generalize x.op.may = b at h1 ⊢
  unfold Ev.val
  have H1 := Lib.hid h1
  clear h1 h2
  go_enter Tryz.func106, Tryz.ntmps106
  go_wp2_with fail
  refine (H1.out _ (hE.alloc _)).mono ?_
  rintro e w1 ⟨rfl, hb⟩
  cases b
  · go_wp2_with fail
    go_ret
    exact ⟨rfl, ((Fr.refl _).alloc _).trans hb⟩
  · go_wp2_with fail
    go_ret
    exact ⟨rfl, ((Fr.refl _).alloc _).trans hb⟩
set_option maxRecDepth 100000 in
theorem mayTxn_c (x : Ev) (t r : Value) (w : World) (ht : RdM w t x.txn) :
    Calls Tryz.prog 118 #[x.val t r] w fun e w' => e = .returned (.bool (txnMay x.txn)) ∧ Fr w w' := by
  have h1 := fun W => within_c (x.txn.length : Int) 1 8 W
  have h2 := fun W hW => containsMic_c t x.txn W hW
  have he : (decide ((1 : Int) ≤ x.txn.length) && decide ((x.txn.length : Int) ≤ 8)) = (decide (1 ≤ x.txn.length) && decide (x.txn.length ≤ 8)) := by
    congr 1 <;> (apply decide_eq_decide.2; omega)
  rw [he] at h1
  clear he
  unfold txnMay Ev.val
  generalize (decide (1 ≤ x.txn.length) && decide (x.txn.length ≤ 8)) = b1 at h1 ⊢
  generalize x.txn.any micBad = b2 at h2 ⊢
  have ht2 := ht.keep ((Fr.refl w).alloc (.cells (x.cells t r) 32))
  have hl : ∃ a c, t = .slice a x.txn.length c := by obtain ⟨a, c, h, _⟩ := ht; exact ⟨a, c, h⟩
  obtain ⟨ta, tc, rfl⟩ := hl
  have H1 := Lib.hid h1
  have H2 := Lib.hid h2
  clear h1 h2 ht
  cases b1
  · go_enter Tryz.func118, Tryz.ntmps118
    go_wp2_with fail
    refine (H1.out _).mono ?_
    rintro e w1 ⟨rfl, rfl⟩
    go_wp2_with fail
    go_ret
    exact ⟨rfl, (Fr.refl _).alloc _⟩
  · go_enter Tryz.func118, Tryz.ntmps118
    go_wp2_with fail
    refine (H1.out _).mono ?_
    rintro e w1 ⟨rfl, rfl⟩
    go_wp2_with fail
    refine (H2.out _ ht2).mono ?_
    rintro e w1 ⟨rfl, hb⟩
    go_wp2_with fail
    go_ret
    exact ⟨by simp, ((Fr.refl _).alloc _).trans hb⟩
set_option maxRecDepth 100000 in
theorem mayReads_c (x : Ev) (t r : Value) (w : World) (hr : RdR w r x.reads) :
    Calls Tryz.prog 122 #[x.val t r] w fun e w' => e = .returned (.bool (readsMay x.reads)) ∧ Fr w w' := by
  have h2 := fun W hW => containsR_c r x.reads W hW
  unfold readsMay Ev.val
  generalize x.reads.any listBad = b2 at h2 ⊢
  have hr2 := hr.keep ((Fr.refl w).alloc (.cells (x.cells t r) 32))
  have hl : ∃ a c, r = .slice a x.reads.length c := by obtain ⟨vs, _, ⟨a, c, h, _⟩, _⟩ := hr; exact ⟨a, c, h⟩
  obtain ⟨ra, rc, rfl⟩ := hl
  have H2 := Lib.hid h2
  clear h2 hr
  by_cases h8 : x.reads.length ≤ 8
  · have hi : (x.reads.length : Int) ≤ 8 := by omega
    rw [decide_eq_true h8]
    clear h8
    go_enter Tryz.func122, Tryz.ntmps122
    go_wp2_with fail
    refine (H2.out _ hr2).mono ?_
    rintro e w1 ⟨rfl, hb⟩
    go_wp2_with fail
    go_ret
    exact ⟨by simp, ((Fr.refl _).alloc _).trans hb⟩
  · have hi : ¬ (x.reads.length : Int) ≤ 8 := by omega
    rw [decide_eq_false h8]
    clear h8
    go_enter Tryz.func122, Tryz.ntmps122
    go_wp2_with fail
    go_ret
    exact ⟨rfl, (Fr.refl _).alloc _⟩
end Go.Proofs.YtfklgaeejmeipaaGreatDoor
