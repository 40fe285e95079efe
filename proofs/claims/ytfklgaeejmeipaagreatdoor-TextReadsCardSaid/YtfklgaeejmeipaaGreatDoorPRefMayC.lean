/- umpireref05.May of kind 1. No condition but that the event can be read, and its numbers' bounds. -/
import Derived.Test.YtfklgaeejmeipaaGreatDoorPEvCheck
import Derived.Test.YtfklgaeejmeipaaGreatDoorPOp
set_option linter.all false
set_option linter.unusedVariables false
set_option linter.unusedSimpArgs false
set_option linter.unnecessarySimpa false
/- umpireref05.May of kind 1. No condition but that the event can be read, and its numbers' bounds. -/
namespace Go.Proofs.YtfklgaeejmeipaaGreatDoor
open Go.RowKit

theorem Tryz.infoCfg : (Tryz.prog.info? 30).map (·.size) = some 7 := by kernel_rfl
theorem Cfg.oneCell (m : Nat) (o1 o2 o3 : Int) (pa cu me : Bool) : (#[.int .u8 m, .int .i64 o1, .int .i64 o2, .int .i64 o3, .bool pa, .bool cu, .bool me] : Array Value).all (·.oneCell') = true := by simp [Value.oneCell']
set_option maxRecDepth 100000 in
set_option maxHeartbeats 4000000 in
theorem rMay1_c (x : Ev) (t r : Value) (w : World) (hk : x.kind = 1) (hx : EvAt w (x.val t r) x) (ht : RdM w t x.txn) (hr : RdR w r x.reads) :
    Calls Tryz.prog 35 #[x.val t r] w fun e w' => e = .returned (.bool x.may) ∧ Fr w w' := by
  have hn : x.needed = { Ev.zero with kind := x.kind, cfg := x.cfg } := by simp [Ev.needed, hk]
  have hm : x.may = (cfgMay x.cfg && decide (x.client < 16) && decide (x = x.needed)) := by simp [Ev.may, Ev.kindMay, hk]
  have hs : ∀ W, Fr w W → Calls Tryz.prog 15 #[x.val t r, x.needed.val nil0 nil0] W fun e w' => e = .returned (.bool (decide (x = x.needed))) ∧ Fr W w' := fun W hW => refSame_c _ _ x x.needed W (hx.keep hW) ⟨nil0, nil0, rfl, by rw [hn]; exact RdM.nil _, by rw [hn]; exact RdR.nil _⟩
  rw [hm]
  generalize decide (x = x.needed) = s at hs ⊢
  rw [hn] at hs
  clear hm hn hx
  have htm : cfgMay x.cfg = (decide (x.cfg.model ≤ 4) && (decide (1 ≤ x.cfg.opens) && decide (x.cfg.opens ≤ 32)) && (decide (1 ≤ x.cfg.states) && decide (x.cfg.states ≤ 4096)) && (decide (1 ≤ x.cfg.steps) && decide (x.cfg.steps ≤ 1048576))) := rfl
  rw [htm]
  clear htm
  obtain ⟨xk, xc, xi, xo, xrk, xrv, xtx, xrs, xcf⟩ := x
  simp only at hk
  subst hk
  unfold Ev.val Ev.zero at *
  simp only at *
  obtain ⟨m, o1, o2, o3, pa, cu, me⟩ := xcf
  simp only at *
  have HS := Lib.hid hs
  clear hs ht hr
  by_cases hcc : xc < 16
  · have hci : (xc : Int) < 16 := by omega
    go_enter Tryz.func35, Tryz.ntmps35
    go_wp2_with (first | ((with_reducible refine wpList_here (.load 32 (.tmp 1)) rfl ?_); refine wpList_load_box 32 (.tmp 1) rfl _ rfl _ (hBx) _ Tryz.underlying32 rfl Tryz.infoEv rfl ?_) | ((with_reducible refine wpList_here (.load 32 (.tmp 3)) rfl ?_); refine wpList_load_box 32 (.tmp 3) rfl _ rfl _ (hBy) _ Tryz.underlying32 rfl Tryz.infoEv rfl ?_) | ((with_reducible refine wpList_here (.store 32 (.tmp 3) (.tmp 13)) rfl ?_); refine wpList_store_new 32 (.tmp 3) (.tmp 13) rfl _ _ _ (by simp) rfl rfl Tryz.infoEv rfl (Ev.oneCell ⟨1, xc, xi, .zero, 0, 0, [], [], .zero⟩ none none 0 0 0 0) rfl rfl ?_) | ((with_reducible refine wpList_here (.store 30 (.tmp 4) (.tmp 19)) rfl ?_); refine wpList_store_new 30 (.tmp 4) (.tmp 19) rfl _ _ _ (by simp) rfl rfl Tryz.infoCfg rfl (Cfg.oneCell m o1 o2 o3 pa cu me) rfl rfl ?_) | ((with_reducible refine wpList_here (.store 32 (.tmp 3) (.tmp 21)) rfl ?_); refine wpList_store_old 32 (.tmp 3) (.tmp 21) rfl (w.heap.size + 1) _ _ rfl rfl (BoxAt.alloc (BoxAt.new' _ _ _ _ (by simp)) _) Tryz.infoEv rfl (Ev.oneCell ⟨1, 0, 0, .zero, 0, 0, [], [], ⟨m, o1, o2, o3, pa, cu, me⟩⟩ none none 0 0 0 0) rfl rfl ?_; rintro w1 hR; have hBy := hR.box; have hBx := hR.boxOther ((((BoxAt.new w _ _).alloc _).alloc _)) (by omega); have hBc := hR.boxOther (BoxAt.new' _ _ _ (w.heap.size + 2) (by simp)) (by omega); have hfr := hR.fr ((((Fr.refl w).alloc _).alloc _).alloc _) (by omega); have c0 := hBc.at 0 rfl; have c1 := hBc.at 1 rfl; have c2 := hBc.at 2 rfl; have c3 := hBc.at 3 rfl; have e1 := hBx.at 1 rfl; have hz1 := hBx.lt; have hz2 := hBc.lt; clear hR))
    all_goals first
      | (refine (HS.out _ hfr).mono ?_
         rintro e w2 ⟨rfl, hb2⟩
         go_wp2_with fail
         go_ret
         exact ⟨retB (by rw [decide_eq_true (show m ≤ 4 by omega), decide_eq_true (show 1 ≤ o1 by omega), decide_eq_true (show o1 ≤ 32 by omega), decide_eq_true (show 1 ≤ o2 by omega), decide_eq_true (show o2 ≤ 4096 by omega), decide_eq_true (show 1 ≤ o3 by omega), decide_eq_true (show o3 ≤ 1048576 by omega), decide_eq_true (show xc < 16 by omega)]; simp), hfr.trans hb2⟩)
      | (go_ret
         refine ⟨retB ?_, hfr⟩
         first
           | rfl
           | (rw [decide_eq_false (show ¬ m ≤ 4 by omega)]; simp)
           | (rw [decide_eq_false (show ¬ 1 ≤ o1 by omega)]; simp)
           | (rw [decide_eq_false (show ¬ o1 ≤ 32 by omega)]; simp)
           | (rw [decide_eq_false (show ¬ 1 ≤ o2 by omega)]; simp)
           | (rw [decide_eq_false (show ¬ o2 ≤ 4096 by omega)]; simp)
           | (rw [decide_eq_false (show ¬ 1 ≤ o3 by omega)]; simp)
           | (rw [decide_eq_false (show ¬ o3 ≤ 1048576 by omega)]; simp)
           | (rw [decide_eq_false (show ¬ xc < 16 by omega)]; simp))
  · have hci : ¬ (xc : Int) < 16 := by omega
    go_enter Tryz.func35, Tryz.ntmps35
    go_wp2_with (first | ((with_reducible refine wpList_here (.load 32 (.tmp 1)) rfl ?_); refine wpList_load_box 32 (.tmp 1) rfl _ rfl _ (hBx) _ Tryz.underlying32 rfl Tryz.infoEv rfl ?_) | ((with_reducible refine wpList_here (.load 32 (.tmp 3)) rfl ?_); refine wpList_load_box 32 (.tmp 3) rfl _ rfl _ (hBy) _ Tryz.underlying32 rfl Tryz.infoEv rfl ?_) | ((with_reducible refine wpList_here (.store 32 (.tmp 3) (.tmp 13)) rfl ?_); refine wpList_store_new 32 (.tmp 3) (.tmp 13) rfl _ _ _ (by simp) rfl rfl Tryz.infoEv rfl (Ev.oneCell ⟨1, xc, xi, .zero, 0, 0, [], [], .zero⟩ none none 0 0 0 0) rfl rfl ?_) | ((with_reducible refine wpList_here (.store 30 (.tmp 4) (.tmp 19)) rfl ?_); refine wpList_store_new 30 (.tmp 4) (.tmp 19) rfl _ _ _ (by simp) rfl rfl Tryz.infoCfg rfl (Cfg.oneCell m o1 o2 o3 pa cu me) rfl rfl ?_) | ((with_reducible refine wpList_here (.store 32 (.tmp 3) (.tmp 21)) rfl ?_); refine wpList_store_old 32 (.tmp 3) (.tmp 21) rfl (w.heap.size + 1) _ _ rfl rfl (BoxAt.alloc (BoxAt.new' _ _ _ _ (by simp)) _) Tryz.infoEv rfl (Ev.oneCell ⟨1, 0, 0, .zero, 0, 0, [], [], ⟨m, o1, o2, o3, pa, cu, me⟩⟩ none none 0 0 0 0) rfl rfl ?_; rintro w1 hR; have hBy := hR.box; have hBx := hR.boxOther ((((BoxAt.new w _ _).alloc _).alloc _)) (by omega); have hBc := hR.boxOther (BoxAt.new' _ _ _ (w.heap.size + 2) (by simp)) (by omega); have hfr := hR.fr ((((Fr.refl w).alloc _).alloc _).alloc _) (by omega); have c0 := hBc.at 0 rfl; have c1 := hBc.at 1 rfl; have c2 := hBc.at 2 rfl; have c3 := hBc.at 3 rfl; have e1 := hBx.at 1 rfl; have hz1 := hBx.lt; have hz2 := hBc.lt; clear hR))
    all_goals first
      | (refine (HS.out _ hfr).mono ?_
         rintro e w2 ⟨rfl, hb2⟩
         go_wp2_with fail
         go_ret
         exact ⟨retB (by rw [decide_eq_true (show m ≤ 4 by omega), decide_eq_true (show 1 ≤ o1 by omega), decide_eq_true (show o1 ≤ 32 by omega), decide_eq_true (show 1 ≤ o2 by omega), decide_eq_true (show o2 ≤ 4096 by omega), decide_eq_true (show 1 ≤ o3 by omega), decide_eq_true (show o3 ≤ 1048576 by omega), decide_eq_true (show xc < 16 by omega)]; simp), hfr.trans hb2⟩)
      | (go_ret
         refine ⟨retB ?_, hfr⟩
         first
           | rfl
           | (rw [decide_eq_false (show ¬ m ≤ 4 by omega)]; simp)
           | (rw [decide_eq_false (show ¬ 1 ≤ o1 by omega)]; simp)
           | (rw [decide_eq_false (show ¬ o1 ≤ 32 by omega)]; simp)
           | (rw [decide_eq_false (show ¬ 1 ≤ o2 by omega)]; simp)
           | (rw [decide_eq_false (show ¬ o2 ≤ 4096 by omega)]; simp)
           | (rw [decide_eq_false (show ¬ 1 ≤ o3 by omega)]; simp)
           | (rw [decide_eq_false (show ¬ o3 ≤ 1048576 by omega)]; simp)
           | (rw [decide_eq_false (show ¬ xc < 16 by omega)]; simp))
end Go.Proofs.YtfklgaeejmeipaaGreatDoor
