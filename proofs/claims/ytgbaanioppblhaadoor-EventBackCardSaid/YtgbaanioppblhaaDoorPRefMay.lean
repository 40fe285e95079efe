/- umpireref05.May. No condition but that the event can be read, and its numbers' bounds. -/
import Derived.Test.YtgbaanioppblhaaDoorPEvCheck
import Derived.Test.YtgbaanioppblhaaDoorPEvSame
import Derived.Test.YtgbaanioppblhaaDoorPOp
import Derived.Test.YtgbaanioppblhaaDoorPResult
set_option linter.all false
set_option linter.unusedVariables false
set_option linter.unusedSimpArgs false
set_option linter.unnecessarySimpa false
/- umpireref05.May. No condition but that the event can be read, and its numbers' bounds. -/
namespace Go.Proofs.YtgbaanioppblhaaDoor
open Go.RowKit

theorem retB {a b : Bool} (h : a = b) : Ending.returned (.bool a) = Ending.returned (.bool b) := by rw [h]
set_option maxRecDepth 100000 in
set_option maxHeartbeats 2000000 in
theorem rMay4_c (x : Ev) (t r : Value) (w : World) (hk : x.kind = 4) (hx : EvAt w (x.val t r) x) (ht : RdM w t x.txn) (hr : RdR w r x.reads) :
    Calls Tryd.prog 13 #[x.val t r] w fun e w' => e = .returned (.bool x.may) ∧ Fr w w' := by
  have hn : x.needed = { Ev.zero with kind := x.kind, client := x.client, id := x.id } := by simp [Ev.needed, hk]
  have hm : x.may = (true && decide (x.client < 16) && decide (x = x.needed)) := by simp [Ev.may, Ev.kindMay, hk]
  have hs : ∀ W, Fr w W → Calls Tryd.prog 15 #[x.val t r, x.needed.val nil0 nil0] W fun e w' => e = .returned (.bool (decide (x = x.needed))) ∧ Fr W w' := fun W hW => refSame_c _ _ x x.needed W (hx.keep hW) ⟨nil0, nil0, rfl, by rw [hn]; exact RdM.nil _, by rw [hn]; exact RdR.nil _⟩
  rw [hm]
  generalize decide (x = x.needed) = s at hs ⊢
  rw [hn] at hs
  clear hm hn hx
  obtain ⟨xk, xc, xi, xo, xrk, xrv, xtx, xrs, xcf⟩ := x
  simp only at hk
  subst hk
  unfold Ev.val Ev.zero at *
  simp only at *
  have HS := Lib.hid hs
  clear hs ht hr
  by_cases hc : xc < 16
  · have hci : (xc : Int) < 16 := by omega
    have hd := decide_eq_true hc
    rw [hd]
    clear hc hd
    go_enter Tryd.func13, Tryd.ntmps13
    go_wp2_with (first | ((with_reducible refine wpList_here (.store 32 (.tmp 3) (.tmp 13)) rfl ?_); refine wpList_store_new 32 (.tmp 3) (.tmp 13) rfl _ _ _ (by simp) rfl rfl Tryd.infoEv rfl (Ev.oneCell ⟨4, xc, xi, .zero, 0, 0, [], [], .zero⟩ none none 0 0 0 0) rfl rfl ?_) | ((with_reducible refine wpList_here (.load 32 (.tmp 1)) rfl ?_); refine wpList_load_box 32 (.tmp 1) rfl _ rfl _ ((BoxAt.new w _ _).alloc _) _ Tryd.underlying32 rfl Tryd.infoEv rfl ?_) | ((with_reducible refine wpList_here (.load 32 (.tmp 3)) rfl ?_); refine wpList_load_box 32 (.tmp 3) rfl _ rfl _ (BoxAt.new' _ _ _ _ (by simp)) _ Tryd.underlying32 rfl Tryd.infoEv rfl ?_))
    refine (HS.out _ (((Fr.refl w).alloc _).alloc _)).mono ?_
    rintro e w1 ⟨rfl, hb⟩
    go_wp2_with fail
    go_ret
    exact ⟨retB (by simp), (((Fr.refl w).alloc _).alloc _).trans hb⟩
  · have hci : ¬ (xc : Int) < 16 := by omega
    have hd := decide_eq_false hc
    rw [hd]
    clear hc hd HS
    go_enter Tryd.func13, Tryd.ntmps13
    go_wp2_with ((with_reducible refine wpList_here (.store 32 (.tmp 3) (.tmp 13)) rfl ?_); refine wpList_store_new 32 (.tmp 3) (.tmp 13) rfl _ _ _ (by simp) rfl rfl Tryd.infoEv rfl (Ev.oneCell ⟨4, xc, xi, .zero, 0, 0, [], [], .zero⟩ none none 0 0 0 0) rfl rfl ?_)
    go_ret
    exact ⟨retB (by simp), (((Fr.refl w).alloc _).alloc _)⟩
set_option maxRecDepth 100000 in
set_option maxHeartbeats 2000000 in
theorem rMay7_c (x : Ev) (t r : Value) (w : World) (hk : x.kind = 7) (hx : EvAt w (x.val t r) x) (ht : RdM w t x.txn) (hr : RdR w r x.reads) :
    Calls Tryd.prog 13 #[x.val t r] w fun e w' => e = .returned (.bool x.may) ∧ Fr w w' := by
  have hn : x.needed = { Ev.zero with kind := x.kind, client := x.client, id := x.id } := by simp [Ev.needed, hk]
  have hm : x.may = (true && decide (x.client < 16) && decide (x = x.needed)) := by simp [Ev.may, Ev.kindMay, hk]
  have hs : ∀ W, Fr w W → Calls Tryd.prog 15 #[x.val t r, x.needed.val nil0 nil0] W fun e w' => e = .returned (.bool (decide (x = x.needed))) ∧ Fr W w' := fun W hW => refSame_c _ _ x x.needed W (hx.keep hW) ⟨nil0, nil0, rfl, by rw [hn]; exact RdM.nil _, by rw [hn]; exact RdR.nil _⟩
  rw [hm]
  generalize decide (x = x.needed) = s at hs ⊢
  rw [hn] at hs
  clear hm hn hx
  obtain ⟨xk, xc, xi, xo, xrk, xrv, xtx, xrs, xcf⟩ := x
  simp only at hk
  subst hk
  unfold Ev.val Ev.zero at *
  simp only at *
  have HS := Lib.hid hs
  clear hs ht hr
  by_cases hc : xc < 16
  · have hci : (xc : Int) < 16 := by omega
    have hd := decide_eq_true hc
    rw [hd]
    clear hc hd
    go_enter Tryd.func13, Tryd.ntmps13
    go_wp2_with (first | ((with_reducible refine wpList_here (.store 32 (.tmp 3) (.tmp 13)) rfl ?_); refine wpList_store_new 32 (.tmp 3) (.tmp 13) rfl _ _ _ (by simp) rfl rfl Tryd.infoEv rfl (Ev.oneCell ⟨7, xc, xi, .zero, 0, 0, [], [], .zero⟩ none none 0 0 0 0) rfl rfl ?_) | ((with_reducible refine wpList_here (.load 32 (.tmp 1)) rfl ?_); refine wpList_load_box 32 (.tmp 1) rfl _ rfl _ ((BoxAt.new w _ _).alloc _) _ Tryd.underlying32 rfl Tryd.infoEv rfl ?_) | ((with_reducible refine wpList_here (.load 32 (.tmp 3)) rfl ?_); refine wpList_load_box 32 (.tmp 3) rfl _ rfl _ (BoxAt.new' _ _ _ _ (by simp)) _ Tryd.underlying32 rfl Tryd.infoEv rfl ?_))
    refine (HS.out _ (((Fr.refl w).alloc _).alloc _)).mono ?_
    rintro e w1 ⟨rfl, hb⟩
    go_wp2_with fail
    go_ret
    exact ⟨retB (by simp), (((Fr.refl w).alloc _).alloc _).trans hb⟩
  · have hci : ¬ (xc : Int) < 16 := by omega
    have hd := decide_eq_false hc
    rw [hd]
    clear hc hd HS
    go_enter Tryd.func13, Tryd.ntmps13
    go_wp2_with ((with_reducible refine wpList_here (.store 32 (.tmp 3) (.tmp 13)) rfl ?_); refine wpList_store_new 32 (.tmp 3) (.tmp 13) rfl _ _ _ (by simp) rfl rfl Tryd.infoEv rfl (Ev.oneCell ⟨7, xc, xi, .zero, 0, 0, [], [], .zero⟩ none none 0 0 0 0) rfl rfl ?_)
    go_ret
    exact ⟨retB (by simp), (((Fr.refl w).alloc _).alloc _)⟩
set_option maxRecDepth 100000 in
set_option maxHeartbeats 2000000 in
theorem rMay2_c (x : Ev) (t r : Value) (w : World) (hk : x.kind = 2) (hx : EvAt w (x.val t r) x) (ht : RdM w t x.txn) (hr : RdR w r x.reads) (hF : x.op.F < 256) :
    Calls Tryd.prog 13 #[x.val t r] w fun e w' => e = .returned (.bool x.may) ∧ Fr w w' := by
  have hn : x.needed = { Ev.zero with kind := x.kind, client := x.client, id := x.id, op := x.op } := by simp [Ev.needed, hk]
  have hm : x.may = (x.op.may && decide (x.client < 16) && decide (x = x.needed)) := by simp [Ev.may, Ev.kindMay, hk]
  have hs : ∀ W, Fr w W → Calls Tryd.prog 15 #[x.val t r, x.needed.val nil0 nil0] W fun e w' => e = .returned (.bool (decide (x = x.needed))) ∧ Fr W w' := fun W hW => refSame_c _ _ x x.needed W (hx.keep hW) ⟨nil0, nil0, rfl, by rw [hn]; exact RdM.nil _, by rw [hn]; exact RdR.nil _⟩
  rw [hm]
  generalize decide (x = x.needed) = s at hs ⊢
  rw [hn] at hs
  clear hm hn hx
  have h1 : ∀ W, Calls Tryd.prog 31 #[.agg #[.int .u8 x.op.F, .int .u8 x.op.O, .int .u8 x.op.K, .int .u16 x.op.A, .int .u16 x.op.B]] W fun e w' => e = .returned (.bool x.op.may) ∧ Fr W w' := fun W => rMay_c x.op.F x.op.O x.op.K x.op.A x.op.B W (by omega)
  generalize x.op.may = b at h1 ⊢
  have H1 := Lib.hid h1
  clear h1 hF
  obtain ⟨xk, xc, xi, xo, xrk, xrv, xtx, xrs, xcf⟩ := x
  simp only at hk
  subst hk
  unfold Ev.val Ev.zero at *
  simp only at *
  have HS := Lib.hid hs
  clear hs ht hr
  go_enter Tryd.func13, Tryd.ntmps13
  go_wp2_with ((with_reducible refine wpList_here (.store 32 (.tmp 3) (.tmp 13)) rfl ?_); refine wpList_store_new 32 (.tmp 3) (.tmp 13) rfl _ _ _ (by simp) rfl rfl Tryd.infoEv rfl (Ev.oneCell ⟨2, xc, xi, .zero, 0, 0, [], [], .zero⟩ none none 0 0 0 0) rfl rfl ?_)
  refine (H1.out _).mono ?_
  rintro e w1 ⟨rfl, hb⟩
  have hBx := ((BoxAt.new w _ _).alloc _).fr hb
  have hBy := (BoxAt.new' _ _ _ (w.heap.size + 1) (by simp)).fr hb
  have hfr : Fr w w1 := (((Fr.refl w).alloc _).alloc _).trans hb
  have c1 := hBx.at 1 rfl
  have hz := hBx.lt
  clear hb
  cases b
  · go_wp2_with fail
    go_ret
    exact ⟨retB (by simp), hfr⟩
  by_cases hc : xc < 16
  · have hci : (xc : Int) < 16 := by omega
    have hd := decide_eq_true hc
    have HD := Lib.hid hd
    clear hc hd
    go_wp2_with (first | ((with_reducible refine wpList_here (.load 32 (.tmp 1)) rfl ?_); refine wpList_load_box 32 (.tmp 1) rfl _ rfl _ (hBx) _ Tryd.underlying32 rfl Tryd.infoEv rfl ?_) | ((with_reducible refine wpList_here (.load 32 (.tmp 3)) rfl ?_); refine wpList_load_box 32 (.tmp 3) rfl _ rfl _ (hBy) _ Tryd.underlying32 rfl Tryd.infoEv rfl ?_))
    refine (HS.out _ hfr).mono ?_
    rintro e w2 ⟨rfl, hb2⟩
    go_wp2_with fail
    go_ret
    exact ⟨retB (by rw [HD.out]; simp), hfr.trans hb2⟩
  · have hci : ¬ (xc : Int) < 16 := by omega
    have hd := decide_eq_false hc
    have HD := Lib.hid hd
    clear hc hd HS
    go_wp2_with fail
    go_ret
    exact ⟨retB (by rw [HD.out]; simp), hfr⟩
set_option maxRecDepth 100000 in
set_option maxHeartbeats 2000000 in
theorem rMay3_c (x : Ev) (t r : Value) (w : World) (hk : x.kind = 3) (hx : EvAt w (x.val t r) x) (ht : RdM w t x.txn) (hr : RdR w r x.reads) :
    Calls Tryd.prog 13 #[x.val t r] w fun e w' => e = .returned (.bool x.may) ∧ Fr w w' := by
  have hn : x.needed = { Ev.zero with kind := x.kind, client := x.client, id := x.id, rk := x.rk, rv := x.rv } := by simp [Ev.needed, hk]
  have hm : x.may = (goodB x.rk x.rv && decide (x.client < 16) && decide (x = x.needed)) := by simp [Ev.may, Ev.kindMay, hk]
  have hs : ∀ W, Fr w W → Calls Tryd.prog 15 #[x.val t r, x.needed.val nil0 nil0] W fun e w' => e = .returned (.bool (decide (x = x.needed))) ∧ Fr W w' := fun W hW => refSame_c _ _ x x.needed W (hx.keep hW) ⟨nil0, nil0, rfl, by rw [hn]; exact RdM.nil _, by rw [hn]; exact RdR.nil _⟩
  rw [hm]
  generalize decide (x = x.needed) = s at hs ⊢
  rw [hn] at hs
  clear hm hn hx
  have h1 := fun W => rGood_c x.rk x.rv W
  generalize goodB x.rk x.rv = b at h1 ⊢
  have H1 := Lib.hid h1
  clear h1
  obtain ⟨xk, xc, xi, xo, xrk, xrv, xtx, xrs, xcf⟩ := x
  simp only at hk
  subst hk
  unfold Ev.val Ev.zero at *
  simp only at *
  have HS := Lib.hid hs
  clear hs ht hr
  go_enter Tryd.func13, Tryd.ntmps13
  go_wp2_with ((with_reducible refine wpList_here (.store 32 (.tmp 3) (.tmp 13)) rfl ?_); refine wpList_store_new 32 (.tmp 3) (.tmp 13) rfl _ _ _ (by simp) rfl rfl Tryd.infoEv rfl (Ev.oneCell ⟨3, xc, xi, .zero, 0, 0, [], [], .zero⟩ none none 0 0 0 0) rfl rfl ?_)
  refine (H1.out _).mono ?_
  rintro e w1 ⟨rfl, hb⟩
  have hBx := ((BoxAt.new w _ _).alloc _).fr hb
  have hBy := (BoxAt.new' _ _ _ (w.heap.size + 1) (by simp)).fr hb
  have hfr : Fr w w1 := (((Fr.refl w).alloc _).alloc _).trans hb
  have c1 := hBx.at 1 rfl
  have hz := hBx.lt
  clear hb
  cases b
  · go_wp2_with fail
    go_ret
    exact ⟨retB (by simp), hfr⟩
  by_cases hc : xc < 16
  · have hci : (xc : Int) < 16 := by omega
    have hd := decide_eq_true hc
    have HD := Lib.hid hd
    clear hc hd
    go_wp2_with (first | ((with_reducible refine wpList_here (.load 32 (.tmp 1)) rfl ?_); refine wpList_load_box 32 (.tmp 1) rfl _ rfl _ (hBx) _ Tryd.underlying32 rfl Tryd.infoEv rfl ?_) | ((with_reducible refine wpList_here (.load 32 (.tmp 3)) rfl ?_); refine wpList_load_box 32 (.tmp 3) rfl _ rfl _ (hBy) _ Tryd.underlying32 rfl Tryd.infoEv rfl ?_))
    refine (HS.out _ hfr).mono ?_
    rintro e w2 ⟨rfl, hb2⟩
    go_wp2_with fail
    go_ret
    exact ⟨retB (by rw [HD.out]; simp), hfr.trans hb2⟩
  · have hci : ¬ (xc : Int) < 16 := by omega
    have hd := decide_eq_false hc
    have HD := Lib.hid hd
    clear hc hd HS
    go_wp2_with fail
    go_ret
    exact ⟨retB (by rw [HD.out]; simp), hfr⟩
end Go.Proofs.YtgbaanioppblhaaDoor

/- umpireref05.May of kind 1. No condition but that the event can be read, and its numbers' bounds. -/
namespace Go.Proofs.YtgbaanioppblhaaDoor
open Go.RowKit

theorem Tryd.infoCfg : (Tryd.prog.info? 30).map (·.size) = some 7 := by kernel_rfl
theorem Cfg.oneCell (m : Nat) (o1 o2 o3 : Int) (pa cu me : Bool) : (#[.int .u8 m, .int .i64 o1, .int .i64 o2, .int .i64 o3, .bool pa, .bool cu, .bool me] : Array Value).all (·.oneCell') = true := by simp [Value.oneCell']
set_option maxRecDepth 100000 in
set_option maxHeartbeats 4000000 in
theorem rMay1_c (x : Ev) (t r : Value) (w : World) (hk : x.kind = 1) (hx : EvAt w (x.val t r) x) (ht : RdM w t x.txn) (hr : RdR w r x.reads) :
    Calls Tryd.prog 13 #[x.val t r] w fun e w' => e = .returned (.bool x.may) ∧ Fr w w' := by
  have hn : x.needed = { Ev.zero with kind := x.kind, cfg := x.cfg } := by simp [Ev.needed, hk]
  have hm : x.may = (cfgMay x.cfg && decide (x.client < 16) && decide (x = x.needed)) := by simp [Ev.may, Ev.kindMay, hk]
  have hs : ∀ W, Fr w W → Calls Tryd.prog 15 #[x.val t r, x.needed.val nil0 nil0] W fun e w' => e = .returned (.bool (decide (x = x.needed))) ∧ Fr W w' := fun W hW => refSame_c _ _ x x.needed W (hx.keep hW) ⟨nil0, nil0, rfl, by rw [hn]; exact RdM.nil _, by rw [hn]; exact RdR.nil _⟩
  rw [hm]
  generalize decide (x = x.needed) = s at hs ⊢
  rw [hn] at hs
  clear hm hn hx
  have htm : cfgMay x.cfg = (decide (x.cfg.model ≤ 4) && (decide (1 ≤ x.cfg.opens) && decide (x.cfg.opens ≤ 32)) && (decide (1 ≤ x.cfg.states) && decide (x.cfg.states ≤ 4096)) && (decide (1 ≤ x.cfg.steps) && decide (x.cfg.steps ≤ 1048576))) := rfl
  rw [htm]
  clear htm
  obtain ⟨xk, xc, xi, xo, xrk, xrv, xtx, xrs, xcf⟩ := x
  simp only at hk
  subst hk
  unfold Ev.val Ev.zero at *
  simp only at *
  obtain ⟨m, o1, o2, o3, pa, cu, me⟩ := xcf
  simp only at *
  have HS := Lib.hid hs
  clear hs ht hr
  by_cases hcc : xc < 16
  · have hci : (xc : Int) < 16 := by omega
    go_enter Tryd.func13, Tryd.ntmps13
    go_wp2_with (first | ((with_reducible refine wpList_here (.load 32 (.tmp 1)) rfl ?_); refine wpList_load_box 32 (.tmp 1) rfl _ rfl _ (hBx) _ Tryd.underlying32 rfl Tryd.infoEv rfl ?_) | ((with_reducible refine wpList_here (.load 32 (.tmp 3)) rfl ?_); refine wpList_load_box 32 (.tmp 3) rfl _ rfl _ (hBy) _ Tryd.underlying32 rfl Tryd.infoEv rfl ?_) | ((with_reducible refine wpList_here (.store 32 (.tmp 3) (.tmp 13)) rfl ?_); refine wpList_store_new 32 (.tmp 3) (.tmp 13) rfl _ _ _ (by simp) rfl rfl Tryd.infoEv rfl (Ev.oneCell ⟨1, xc, xi, .zero, 0, 0, [], [], .zero⟩ none none 0 0 0 0) rfl rfl ?_) | ((with_reducible refine wpList_here (.store 30 (.tmp 4) (.tmp 19)) rfl ?_); refine wpList_store_new 30 (.tmp 4) (.tmp 19) rfl _ _ _ (by simp) rfl rfl Tryd.infoCfg rfl (Cfg.oneCell m o1 o2 o3 pa cu me) rfl rfl ?_) | ((with_reducible refine wpList_here (.store 32 (.tmp 3) (.tmp 21)) rfl ?_); refine wpList_store_old 32 (.tmp 3) (.tmp 21) rfl (w.heap.size + 1) _ _ rfl rfl (BoxAt.alloc (BoxAt.new' _ _ _ _ (by simp)) _) Tryd.infoEv rfl (Ev.oneCell ⟨1, 0, 0, .zero, 0, 0, [], [], ⟨m, o1, o2, o3, pa, cu, me⟩⟩ none none 0 0 0 0) rfl rfl ?_; rintro w1 hR; have hBy := hR.box; have hBx := hR.boxOther ((((BoxAt.new w _ _).alloc _).alloc _)) (by omega); have hBc := hR.boxOther (BoxAt.new' _ _ _ (w.heap.size + 2) (by simp)) (by omega); have hfr := hR.fr ((((Fr.refl w).alloc _).alloc _).alloc _) (by omega); have c0 := hBc.at 0 rfl; have c1 := hBc.at 1 rfl; have c2 := hBc.at 2 rfl; have c3 := hBc.at 3 rfl; have e1 := hBx.at 1 rfl; have hz1 := hBx.lt; have hz2 := hBc.lt; clear hR))
    all_goals first
      | (refine (HS.out _ hfr).mono ?_
         rintro e w2 ⟨rfl, hb2⟩
         go_wp2_with fail
         go_ret
         exact ⟨retB (by rw [decide_eq_true (show m ≤ 4 by omega), decide_eq_true (show 1 ≤ o1 by omega), decide_eq_true (show o1 ≤ 32 by omega), decide_eq_true (show 1 ≤ o2 by omega), decide_eq_true (show o2 ≤ 4096 by omega), decide_eq_true (show 1 ≤ o3 by omega), decide_eq_true (show o3 ≤ 1048576 by omega), decide_eq_true (show xc < 16 by omega)]; simp), hfr.trans hb2⟩)
      | (go_ret
         refine ⟨retB ?_, hfr⟩
         first
           | rfl
           | (rw [decide_eq_false (show ¬ m ≤ 4 by omega)]; simp)
           | (rw [decide_eq_false (show ¬ 1 ≤ o1 by omega)]; simp)
           | (rw [decide_eq_false (show ¬ o1 ≤ 32 by omega)]; simp)
           | (rw [decide_eq_false (show ¬ 1 ≤ o2 by omega)]; simp)
           | (rw [decide_eq_false (show ¬ o2 ≤ 4096 by omega)]; simp)
           | (rw [decide_eq_false (show ¬ 1 ≤ o3 by omega)]; simp)
           | (rw [decide_eq_false (show ¬ o3 ≤ 1048576 by omega)]; simp)
           | (rw [decide_eq_false (show ¬ xc < 16 by omega)]; simp))
  · have hci : ¬ (xc : Int) < 16 := by omega
    go_enter Tryd.func13, Tryd.ntmps13
    go_wp2_with (first | ((with_reducible refine wpList_here (.load 32 (.tmp 1)) rfl ?_); refine wpList_load_box 32 (.tmp 1) rfl _ rfl _ (hBx) _ Tryd.underlying32 rfl Tryd.infoEv rfl ?_) | ((with_reducible refine wpList_here (.load 32 (.tmp 3)) rfl ?_); refine wpList_load_box 32 (.tmp 3) rfl _ rfl _ (hBy) _ Tryd.underlying32 rfl Tryd.infoEv rfl ?_) | ((with_reducible refine wpList_here (.store 32 (.tmp 3) (.tmp 13)) rfl ?_); refine wpList_store_new 32 (.tmp 3) (.tmp 13) rfl _ _ _ (by simp) rfl rfl Tryd.infoEv rfl (Ev.oneCell ⟨1, xc, xi, .zero, 0, 0, [], [], .zero⟩ none none 0 0 0 0) rfl rfl ?_) | ((with_reducible refine wpList_here (.store 30 (.tmp 4) (.tmp 19)) rfl ?_); refine wpList_store_new 30 (.tmp 4) (.tmp 19) rfl _ _ _ (by simp) rfl rfl Tryd.infoCfg rfl (Cfg.oneCell m o1 o2 o3 pa cu me) rfl rfl ?_) | ((with_reducible refine wpList_here (.store 32 (.tmp 3) (.tmp 21)) rfl ?_); refine wpList_store_old 32 (.tmp 3) (.tmp 21) rfl (w.heap.size + 1) _ _ rfl rfl (BoxAt.alloc (BoxAt.new' _ _ _ _ (by simp)) _) Tryd.infoEv rfl (Ev.oneCell ⟨1, 0, 0, .zero, 0, 0, [], [], ⟨m, o1, o2, o3, pa, cu, me⟩⟩ none none 0 0 0 0) rfl rfl ?_; rintro w1 hR; have hBy := hR.box; have hBx := hR.boxOther ((((BoxAt.new w _ _).alloc _).alloc _)) (by omega); have hBc := hR.boxOther (BoxAt.new' _ _ _ (w.heap.size + 2) (by simp)) (by omega); have hfr := hR.fr ((((Fr.refl w).alloc _).alloc _).alloc _) (by omega); have c0 := hBc.at 0 rfl; have c1 := hBc.at 1 rfl; have c2 := hBc.at 2 rfl; have c3 := hBc.at 3 rfl; have e1 := hBx.at 1 rfl; have hz1 := hBx.lt; have hz2 := hBc.lt; clear hR))
    all_goals first
      | (refine (HS.out _ hfr).mono ?_
         rintro e w2 ⟨rfl, hb2⟩
         go_wp2_with fail
         go_ret
         exact ⟨retB (by rw [decide_eq_true (show m ≤ 4 by omega), decide_eq_true (show 1 ≤ o1 by omega), decide_eq_true (show o1 ≤ 32 by omega), decide_eq_true (show 1 ≤ o2 by omega), decide_eq_true (show o2 ≤ 4096 by omega), decide_eq_true (show 1 ≤ o3 by omega), decide_eq_true (show o3 ≤ 1048576 by omega), decide_eq_true (show xc < 16 by omega)]; simp), hfr.trans hb2⟩)
      | (go_ret
         refine ⟨retB ?_, hfr⟩
         first
           | rfl
           | (rw [decide_eq_false (show ¬ m ≤ 4 by omega)]; simp)
           | (rw [decide_eq_false (show ¬ 1 ≤ o1 by omega)]; simp)
           | (rw [decide_eq_false (show ¬ o1 ≤ 32 by omega)]; simp)
           | (rw [decide_eq_false (show ¬ 1 ≤ o2 by omega)]; simp)
           | (rw [decide_eq_false (show ¬ o2 ≤ 4096 by omega)]; simp)
           | (rw [decide_eq_false (show ¬ 1 ≤ o3 by omega)]; simp)
           | (rw [decide_eq_false (show ¬ o3 ≤ 1048576 by omega)]; simp)
           | (rw [decide_eq_false (show ¬ xc < 16 by omega)]; simp))
end Go.Proofs.YtgbaanioppblhaaDoor

/- umpireref05.config. No condition. -/
namespace Go.Proofs.YtgbaanioppblhaaDoor
open Go.RowKit

def Cfg.row (g : Cfg) : Array Value := #[.int .u8 g.model, .int .i64 g.opens, .int .i64 g.states, .int .i64 g.steps, .bool g.part, .bool g.cut, .bool g.memo]
theorem RfAt.setBox {w : World} {p e at_ q : Nat} {s : List UInt8} (h : RfAt w p e s at_) (hq : q ≠ p) (o : Nat) (u : Value) : RfAt (w.setCell ⟨q, o, none⟩ u) p e s at_ := h.setOther hq o u
theorem mod2 (n : Nat) : ((n : Int) % 2 == 1) = (n % 2 == 1) := by
  by_cases h : n % 2 = 1
  · have h1 : (n : Int) % 2 = 1 := by omega
    rw [h, h1]; rfl
  · have h1 : (n : Int) % 2 = 0 := by omega
    have h2 : n % 2 = 0 := by omega
    rw [h2, h1]; rfl
theorem bad7 (g : Cfg) : (g.row).all (·.oneCell') = true := by simp [Cfg.row, Value.oneCell']
set_option maxRecDepth 100000 in
set_option maxHeartbeats 1000000 in
theorem rConfig_c (p e at_ : Nat) (s : List UInt8) (w : World) (h : RfAt w p e s at_) :
    Calls Tryd.prog 41 #[.pointer (some ⟨p, 0, none⟩)] w fun e' w' => e' = .returned (.agg (rdCfg e s at_).1.row) ∧ RRead p s (rdCfg e s at_).2 w w' := by
  unfold rdCfg
  simp only
  have la := ofBe1_lt e s at_
  have H1 := Lib.hid (fun W h => fNum_c p e at_ 1 s W h (by omega) (by omega))
  generalize rdRaw e s at_ 1 = a at la H1 ⊢
  obtain ⟨a0, ae, aa⟩ := a
  simp only at la H1 ⊢
  have lb := ofBe1_lt ae s aa
  have H2 := Lib.hid (fun W h => fNum_c p ae aa 1 s W h (by omega) (by omega))
  generalize rdRaw ae s aa 1 = b at lb H2 ⊢
  obtain ⟨b0, be', ba⟩ := b
  simp only at lb H2 ⊢
  have lc := ofBe1_lt be' s ba
  have H3 := Lib.hid (fun W h => fNum_c p be' ba 1 s W h (by omega) (by omega))
  generalize rdRaw be' s ba 1 = c at lc H3 ⊢
  obtain ⟨c0, ce, ca⟩ := c
  simp only at lc H3 ⊢
  have ld := ofBe2_lt ce s ca
  have H4 := Lib.hid (fun W h => fNum_c p ce ca 2 s W h (by omega) (by omega))
  generalize rdRaw ce s ca 2 = d at ld H4 ⊢
  obtain ⟨d0, de, da⟩ := d
  simp only at ld H4 ⊢
  have lf := ofBe4_lt de s da
  have H5 := Lib.hid (fun W h => fNum_c p de da 4 s W h (by omega) (by omega))
  generalize rdRaw de s da 4 = f at lf H5 ⊢
  obtain ⟨f0, fe, fa⟩ := f
  simp only at lf H5 ⊢
  generalize ofBe a0 = A at la H1 ⊢
  generalize ofBe b0 = B at lb H2 ⊢
  have hb1 := mod2 B
  have hb2 : ((B : Int) / 2 % 2 == 1) = (B / 2 % 2 == 1) := mod2 (B / 2)
  have hb4 : ((B : Int) / 4 % 2 == 1) = (B / 4 % 2 == 1) := mod2 (B / 4)
  generalize ofBe c0 = C at lc H3 ⊢
  generalize ofBe d0 = D at ld H4 ⊢
  generalize ofBe f0 = F at lf H5 ⊢
  generalize (B % 2 == 1) = t1 at hb1 ⊢
  generalize (B / 2 % 2 == 1) = t2 at hb2 ⊢
  generalize (B / 4 % 2 == 1) = t4 at hb4 ⊢
  have hp := h.lt
  have hZ0 := (BoxAt.new w Cfg.zero.row 30).alloc (.cells Cfg.zero.row 30)
  have hB0 := BoxAt.new' (w.alloc (.cells Cfg.zero.row 30)) Cfg.zero.row 30 (w.heap.size + 1) (by simp)
  have hr0 := h.keep (((Fr.refl w).alloc (.cells Cfg.zero.row 30)).alloc (.cells Cfg.zero.row 30))
  have hc0 : Chp p w ((w.alloc (.cells Cfg.zero.row 30)).alloc (.cells Cfg.zero.row 30)) := ((Chp.refl p w).alloc _).alloc _
  have hpq : w.heap.size + 1 ≠ p := by omega
  have hpz : w.heap.size ≠ p := by omega
  go_enter Tryd.func41, Tryd.ntmps41
  go_wp2_with fail
  refine (H1.out _ hr0).mono ?_
  rintro e' w1 ⟨rfl, hr1, hch1⟩
  have hB1 := hB0.chp hch1 hpq
  have hZ1 := hZ0.chp hch1 hpz
  have hc1 := hc0.trans hch1
  have c0 := hB1.at 0 rfl
  have g0 := hB1.free 0
  have hz1 := hB1.lt
  clear hB0 hZ0 hc0 hr0 hch1
  go_wp2_with fail
  have hr1' := hr1.setBox hpq 0 (.int .u8 A)
  have hB1' : BoxAt _ (w.heap.size + 1) ({ Cfg.zero with model := A } : Cfg).row _ := hB1.setAt 0 (.int .u8 A)
  have hZ1' := hZ1.set (p := ⟨w.heap.size + 1, 0, none⟩) (by simp) (.int .u8 A)
  have hc1' := hc1.setAt (q := w.heap.size + 1) (by omega) 0 (.int .u8 A)
  refine (H2.out _ hr1').mono ?_
  rintro e' w2 ⟨rfl, hr2, hch2⟩
  have hB2 := hB1'.chp hch2 hpq
  have hZ2 := hZ1'.chp hch2 hpz
  have hc2 := hc1'.trans hch2
  have c4 := hB2.at 4 rfl
  have g4 := hB2.free 4
  have c5 := hB2.at 5 rfl
  have g5 := hB2.free 5
  have c6 := hB2.at 6 rfl
  have g6 := hB2.free 6
  have hz2 := hB2.lt
  clear hr1 hB1 hZ1 hc1 hr1' hB1' hZ1' hc1' hch2 c0 g0 hz1
  go_wp2_with fail
  have hr2' := ((hr2.setBox hpq 4 (.bool t1)).setBox hpq 5 (.bool t2)).setBox hpq 6 (.bool t4)
  have hB2a : BoxAt _ (w.heap.size + 1) ({ Cfg.zero with model := A, part := t1 } : Cfg).row _ := hB2.setAt 4 (.bool t1)
  have hB2b : BoxAt _ (w.heap.size + 1) ({ Cfg.zero with model := A, part := t1, cut := t2 } : Cfg).row _ := hB2a.setAt 5 (.bool t2)
  have hB2' : BoxAt _ (w.heap.size + 1) ({ Cfg.zero with model := A, part := t1, cut := t2, memo := t4 } : Cfg).row _ := hB2b.setAt 6 (.bool t4)
  have hZ2' := ((hZ2.set (p := ⟨w.heap.size + 1, 4, none⟩) (by simp) (.bool t1)).set (p := ⟨w.heap.size + 1, 5, none⟩) (by simp) (.bool t2)).set (p := ⟨w.heap.size + 1, 6, none⟩) (by simp) (.bool t4)
  have hc2' := ((hc2.setAt (q := w.heap.size + 1) (by omega) 4 (.bool t1)).setAt (q := w.heap.size + 1) (by omega) 5 (.bool t2)).setAt (q := w.heap.size + 1) (by omega) 6 (.bool t4)
  refine (H3.out _ hr2').mono ?_
  rintro e' w3 ⟨rfl, hr3, hch3⟩
  have hB3 := hB2'.chp hch3 hpq
  have hZ3 := hZ2'.chp hch3 hpz
  have hc3 := hc2'.trans hch3
  have c1 := hB3.at 1 rfl
  have g1 := hB3.free 1
  have hz3 := hB3.lt
  clear hr2 hB2 hB2a hB2b hZ2 hc2 hr2' hB2' hZ2' hc2' hch3 c4 g4 c5 g5 c6 g6 hz2 hb1 hb2 hb4
  go_wp2_with fail
  have hr3' := hr3.setBox hpq 1 (.int .i64 C)
  have hB3' : BoxAt _ (w.heap.size + 1) ({ Cfg.zero with model := A, part := t1, cut := t2, memo := t4, opens := C } : Cfg).row _ := hB3.setAt 1 (.int .i64 C)
  have hZ3' := hZ3.set (p := ⟨w.heap.size + 1, 1, none⟩) (by simp) (.int .i64 C)
  have hc3' := hc3.setAt (q := w.heap.size + 1) (by omega) 1 (.int .i64 C)
  refine (H4.out _ hr3').mono ?_
  rintro e' w4 ⟨rfl, hr4, hch4⟩
  have hB4 := hB3'.chp hch4 hpq
  have hZ4 := hZ3'.chp hch4 hpz
  have hc4 := hc3'.trans hch4
  have c2 := hB4.at 2 rfl
  have g2 := hB4.free 2
  have hz4 := hB4.lt
  clear hr3 hB3 hZ3 hc3 hr3' hB3' hZ3' hc3' hch4 c1 g1 hz3
  go_wp2_with fail
  have hr4' := hr4.setBox hpq 2 (.int .i64 D)
  have hB4' : BoxAt _ (w.heap.size + 1) ({ Cfg.zero with model := A, part := t1, cut := t2, memo := t4, opens := C, states := D } : Cfg).row _ := hB4.setAt 2 (.int .i64 D)
  have hZ4' := hZ4.set (p := ⟨w.heap.size + 1, 2, none⟩) (by simp) (.int .i64 D)
  have hc4' := hc4.setAt (q := w.heap.size + 1) (by omega) 2 (.int .i64 D)
  refine (H5.out _ hr4').mono ?_
  rintro e' w5 ⟨rfl, hr5, hch5⟩
  have hB5 := hB4'.chp hch5 hpq
  have hZ5 := hZ4'.chp hch5 hpz
  have hc5 := hc4'.trans hch5
  have c3 := hB5.at 3 rfl
  have g3 := hB5.free 3
  have hz5 := hB5.lt
  clear hr4 hB4 hZ4 hc4 hr4' hB4' hZ4' hc4' hch5 c2 g2 hz4
  have hr5' := hr5.setBox hpq 3 (.int .i64 F)
  have hB5' : BoxAt _ (w.heap.size + 1) (Cfg.row ⟨A, C, D, F, t1, t2, t4⟩) _ := hB5.setAt 3 (.int .i64 F)
  have hZ5' := hZ5.set (p := ⟨w.heap.size + 1, 3, none⟩) (by simp) (.int .i64 F)
  have hc5' := hc5.setAt (q := w.heap.size + 1) (by omega) 3 (.int .i64 F)
  go_wp2_with (first | ((with_reducible refine wpList_here (.load 30 (.tmp 3)) rfl ?_); refine wpList_load_box 30 (.tmp 3) rfl _ rfl _ hB5' _ Tryd.underlying30 rfl Tryd.infoCfg rfl ?_) | ((with_reducible refine wpList_here (.store 30 (.tmp 2) (.tmp 38)) rfl ?_); refine wpList_store_old 30 (.tmp 2) (.tmp 38) rfl w.heap.size _ _ rfl rfl hZ5' Tryd.infoCfg rfl (bad7 ⟨A, C, D, F, t1, t2, t4⟩) rfl rfl ?_; rintro wz hR))
  refine bodyPost_ret (v := .agg (Cfg.row ⟨A, C, D, F, t1, t2, t4⟩)) (results_cell_row rfl _ _ w.heap.size _ _ (0, 0) _ rfl hR.box Tryd.underlying30 rfl Tryd.infoCfg) rfl ⟨rfl, ?_, ?_⟩
  · exact hr5'.block (hR.other p (by omega))
  · exact ⟨hR.os.trans hc5'.os, hR.tape.trans hc5'.tape, hR.output.trans hc5'.output, by rw [hR.size]; exact hc5'.size, fun k hk h1 h2 => (hR.other k (by omega)).trans (hc5'.block k hk h1 h2)⟩
end Go.Proofs.YtgbaanioppblhaaDoor

/- umpireref05.May of kind 5. No condition but that the event can be read, and its numbers' bounds. -/
namespace Go.Proofs.YtgbaanioppblhaaDoor
open Go.RowKit

set_option maxRecDepth 100000 in
set_option maxHeartbeats 2000000 in
theorem rMay5_c (x : Ev) (t r : Value) (w : World) (hk : x.kind = 5) (hx : EvAt w (x.val t r) x) (ht : RdM w t x.txn) (hr : RdR w r x.reads) :
    Calls Tryd.prog 13 #[x.val t r] w fun e w' => e = .returned (.bool x.may) ∧ Fr w w' := by
  have hn : x.needed = { Ev.zero with kind := x.kind, client := x.client, id := x.id, txn := x.txn } := by simp [Ev.needed, hk]
  have hm : x.may = (txnMay x.txn && decide (x.client < 16) && decide (x = x.needed)) := by simp [Ev.may, Ev.kindMay, hk]
  have hs : ∀ W, Fr w W → Calls Tryd.prog 15 #[x.val t r, x.needed.val t nil0] W fun e w' => e = .returned (.bool (decide (x = x.needed))) ∧ Fr W w' := fun W hW => refSame_c _ _ x x.needed W (hx.keep hW) ⟨t, nil0, rfl, by rw [hn]; exact ht.keep hW, by rw [hn]; exact RdR.nil _⟩
  rw [hm]
  generalize decide (x = x.needed) = s at hs ⊢
  rw [hn] at hs
  clear hm hn hx
  have htm : txnMay x.txn = (decide (1 ≤ x.txn.length) && decide (x.txn.length ≤ 8) && !x.txn.any micBad) := rfl
  rw [htm]
  clear htm
  obtain ⟨ta, tc, rfl, htc, htm, htx⟩ := ht
  unfold maxLen at htm
  obtain ⟨xk, xc, xi, xo, xrk, xrv, xtx, xrs, xcf⟩ := x
  simp only at hk
  subst hk
  unfold Ev.val Ev.zero at *
  simp only at *
  have HS := Lib.hid hs
  clear hs hr
  by_cases hl1 : xtx.length < 1
  · have hi : (xtx.length : Int) < 1 := by omega
    rw [decide_eq_false (show ¬ 1 ≤ xtx.length by omega)]
    clear hl1 htx HS
    go_enter Tryd.func13, Tryd.ntmps13
    go_wp2_with ((with_reducible refine wpList_here (.store 32 (.tmp 3) (.tmp 13)) rfl ?_); refine wpList_store_new 32 (.tmp 3) (.tmp 13) rfl _ _ _ (by simp) rfl rfl Tryd.infoEv rfl (Ev.oneCell ⟨5, xc, xi, .zero, 0, 0, [], [], .zero⟩ none none 0 0 0 0) rfl rfl ?_)
    go_ret
    exact ⟨retB (by simp), (((Fr.refl w).alloc _).alloc _)⟩
  by_cases hl8 : 8 < xtx.length
  · have hi : (8 : Int) < xtx.length := by omega
    have hi2 : ¬ (xtx.length : Int) < 1 := by omega
    rw [decide_eq_false (show ¬ xtx.length ≤ 8 by omega)]
    clear hl1 hl8 htx HS
    go_enter Tryd.func13, Tryd.ntmps13
    go_wp2_with ((with_reducible refine wpList_here (.store 32 (.tmp 3) (.tmp 13)) rfl ?_); refine wpList_store_new 32 (.tmp 3) (.tmp 13) rfl _ _ _ (by simp) rfl rfl Tryd.infoEv rfl (Ev.oneCell ⟨5, xc, xi, .zero, 0, 0, [], [], .zero⟩ none none 0 0 0 0) rfl rfl ?_)
    go_ret
    exact ⟨retB (by simp), (((Fr.refl w).alloc _).alloc _)⟩
  rw [decide_eq_true (show 1 ≤ xtx.length by omega), decide_eq_true (show xtx.length ≤ 8 by omega)]
  have hi1 : ¬ (8 : Int) < xtx.length := by omega
  have hi2 : ¬ (xtx.length : Int) < 1 := by omega
  have hne : micCells xtx ≠ [] := mic_ne_nil (k := 0) (by omega)
  obtain ⟨tb, to, rfl, _, htl, hc⟩ := htx.resolve_left hne
  clear hne
  go_enter Tryd.func13, Tryd.ntmps13
  go_wp2_with ((with_reducible refine wpList_here (.store 32 (.tmp 3) (.tmp 13)) rfl ?_); refine wpList_store_new 32 (.tmp 3) (.tmp 13) rfl _ _ _ (by simp) rfl rfl Tryd.infoEv rfl (Ev.oneCell ⟨5, xc, xi, .zero, 0, 0, [], [], .zero⟩ none none 0 0 0 0) rfl rfl ?_)
  go_loop [5] (fun i => ∃ k : Nat, k ≤ xtx.length ∧ i = .int .i64 k ∧ (xtx.take k).any micBad = false) (fun i => xtx.length - (intOf i).toNat)
  case atStart => exact ⟨0, Nat.zero_le _, rfl, rfl⟩
  case round =>
    obtain ⟨k, hk, rfl, htk⟩ := hrel
    by_cases hlt : k < xtx.length
    · obtain ⟨d0, d1, d2⟩ := micCells_at xtx k hlt
      have d0 := hc _ _ d0
      have d1 := hc _ _ d1
      have d2 := hc _ _ d2
      simp only [← Nat.add_assoc] at d1 d2
      have hk1 : k < tc := by omega
      by_cases he : micBad xtx[k] = true
      · have hT := Lib.hid (any_at hlt he)
        generalize xtx[k] = m at d0 d1 d2 he
        obtain ⟨rd, key, mv⟩ := m
        simp only at d0 d1 d2
        by_cases h8 : 8 ≤ key
        · have h7 : (7 : Int) < key := by omega
          clear he htk hc HS
          go_wp2_with fail
          go_ret
          exact ⟨retB (by rw [hT.out]; simp), (((Fr.refl w).alloc _).alloc _)⟩
        · have h7 : ¬ (7 : Int) < key := by omega
          have h2 : rd = true ∧ mv ≠ 0 := by
            unfold micBad at he
            simp at he
            rcases he with he | he
            · omega
            · exact he
          obtain ⟨rfl, hv⟩ := h2
          have hv2 : ((mv : Int) != 0) = true := by simp; omega
          clear he htk hc HS hv
          go_wp2_with fail
          go_ret
          exact ⟨retB (by rw [hT.out]; simp), (((Fr.refl w).alloc _).alloc _)⟩
      · rw [Bool.not_eq_true] at he
        have hT := Lib.hid (any_take htk hlt he)
        generalize xtx[k] = m at d0 d1 d2 he
        obtain ⟨rd, key, mv⟩ := m
        simp only at d0 d1 d2
        have h7 : ¬ (7 : Int) < key := by unfold micBad at he; simp at he; omega
        cases rd
        · clear he htk hc
          go_wp2_with fail
          go_round
          case rel => exact ⟨k + 1, by omega, by go_num, hT.out⟩
          case measure => simp [intOf]; omega
        · have hv : mv = 0 := by unfold micBad at he; simp at he; omega
          subst hv
          clear he htk hc
          go_wp2_with fail
          go_round
          case rel => exact ⟨k + 1, by omega, by go_num, hT.out⟩
          case measure => simp [intOf]; omega
    · have hT := Lib.hid (any_none htk hlt)
      clear htk hc
      by_cases hcc : xc < 16
      · have hci : (xc : Int) < 16 := by omega
        have hd := decide_eq_true hcc
        have HD := Lib.hid hd
        clear hcc hd
        go_wp2_with (first | ((with_reducible refine wpList_here (.load 32 (.tmp 1)) rfl ?_); refine wpList_load_box 32 (.tmp 1) rfl _ rfl _ ((BoxAt.new w _ _).alloc _) _ Tryd.underlying32 rfl Tryd.infoEv rfl ?_) | ((with_reducible refine wpList_here (.load 32 (.tmp 3)) rfl ?_); refine wpList_load_box 32 (.tmp 3) rfl _ rfl _ (BoxAt.new' _ _ _ _ (by simp)) _ Tryd.underlying32 rfl Tryd.infoEv rfl ?_))
        refine (HS.out _ (((Fr.refl w).alloc _).alloc _)).mono ?_
        rintro e w2 ⟨rfl, hb2⟩
        go_wp2_with fail
        go_ret
        exact ⟨retB (by rw [HD.out, hT.out]; simp), (((Fr.refl w).alloc _).alloc _).trans hb2⟩
      · have hci : ¬ (xc : Int) < 16 := by omega
        have hd := decide_eq_false hcc
        have HD := Lib.hid hd
        clear hcc hd HS
        go_wp2_with fail
        go_ret
        exact ⟨retB (by rw [HD.out, hT.out]; simp), (((Fr.refl w).alloc _).alloc _)⟩
end Go.Proofs.YtgbaanioppblhaaDoor

/- umpireref05.May of kind 6. No condition but that the event can be read, and its numbers' bounds. -/
namespace Go.Proofs.YtgbaanioppblhaaDoor
open Go.RowKit

theorem RdR.at' {w : World} {k : Nat} {v : Value} {ls : List (List Nat)} (h : RdR w v ls) (hk : k < ls.length) : ∃ b off cap u, v = .slice (some ⟨b, off, none⟩) ls.length cap ∧ ls.length ≤ cap ∧ cap ≤ maxLen ∧ b < w.heap.size ∧ w.cell? ⟨b, off + k, none⟩ = some u ∧ Rd16 w u ls[k] := by
  obtain ⟨vs, h1, ⟨a, cap, rfl, h2, h3, h4⟩, h5⟩ := h
  have hk2 : k < vs.length := by omega
  rcases h4 with rfl | ⟨b, off, rfl, _, hlt, hc⟩
  · simp at hk2
  · exact ⟨b, off, cap, vs[k], rfl, h2, h3, hlt, hc k _ (by simp [hk2]), h5 k _ _ (by simp [hk]) (by simp [hk2])⟩
set_option maxRecDepth 100000 in
set_option maxHeartbeats 2000000 in
theorem rMay6_c (x : Ev) (t r : Value) (w : World) (hk : x.kind = 6) (hx : EvAt w (x.val t r) x) (ht : RdM w t x.txn) (hr : RdR w r x.reads) :
    Calls Tryd.prog 13 #[x.val t r] w fun e w' => e = .returned (.bool x.may) ∧ Fr w w' := by
  have hn : x.needed = { Ev.zero with kind := x.kind, client := x.client, id := x.id, reads := x.reads } := by simp [Ev.needed, hk]
  have hm : x.may = (readsMay x.reads && decide (x.client < 16) && decide (x = x.needed)) := by simp [Ev.may, Ev.kindMay, hk]
  have hs : ∀ W, Fr w W → Calls Tryd.prog 15 #[x.val t r, x.needed.val nil0 r] W fun e w' => e = .returned (.bool (decide (x = x.needed))) ∧ Fr W w' := fun W hW => refSame_c _ _ x x.needed W (hx.keep hW) ⟨nil0, r, rfl, by rw [hn]; exact RdM.nil _, by rw [hn]; exact hr.keep hW⟩
  rw [hm]
  generalize decide (x = x.needed) = s at hs ⊢
  rw [hn] at hs
  clear hm hn hx
  have htm : readsMay x.reads = (decide (x.reads.length ≤ 8) && !x.reads.any listBad) := rfl
  rw [htm]
  clear htm
  have hsl : ∃ ra rc, r = .slice ra x.reads.length rc := by obtain ⟨_, _, ⟨a, c, h, _⟩, _⟩ := hr; exact ⟨a, c, h⟩
  obtain ⟨ra, rc, rfl⟩ := hsl
  have hl := hr
  obtain ⟨xk, xc, xi, xo, xrk, xrv, xtx, xrs, xcf⟩ := x
  simp only at hk
  subst hk
  unfold Ev.val Ev.zero at *
  simp only at *
  have HS := Lib.hid hs
  clear hs ht hr
  by_cases hl8 : 8 < xrs.length
  · have hi : (8 : Int) < xrs.length := by omega
    rw [decide_eq_false (show ¬ xrs.length ≤ 8 by omega)]
    clear hl8 HS
    go_enter Tryd.func13, Tryd.ntmps13
    go_wp2_with ((with_reducible refine wpList_here (.store 32 (.tmp 3) (.tmp 13)) rfl ?_); refine wpList_store_new 32 (.tmp 3) (.tmp 13) rfl _ _ _ (by simp) rfl rfl Tryd.infoEv rfl (Ev.oneCell ⟨6, xc, xi, .zero, 0, 0, [], [], .zero⟩ none none 0 0 0 0) rfl rfl ?_)
    go_ret
    exact ⟨retB (by simp), (((Fr.refl w).alloc _).alloc _)⟩
  rw [decide_eq_true (show xrs.length ≤ 8 by omega)]
  have hi1 : ¬ (8 : Int) < xrs.length := by omega
  go_enter Tryd.func13, Tryd.ntmps13
  go_wp2_with ((with_reducible refine wpList_here (.store 32 (.tmp 3) (.tmp 13)) rfl ?_); refine wpList_store_new 32 (.tmp 3) (.tmp 13) rfl _ _ _ (by simp) rfl rfl Tryd.infoEv rfl (Ev.oneCell ⟨6, xc, xi, .zero, 0, 0, [], [], .zero⟩ none none 0 0 0 0) rfl rfl ?_)
  go_loop [6] (fun i => ∃ k : Nat, k ≤ xrs.length ∧ i = .int .i64 k ∧ (xrs.take k).any listBad = false) (fun i => xrs.length - (intOf i).toNat)
  case atStart => exact ⟨0, Nat.zero_le _, rfl, rfl⟩
  case round =>
    obtain ⟨k, hk, rfl, htk⟩ := hrel
    by_cases hlt : k < xrs.length
    · obtain ⟨b, o, rc', u, hre, hcap, hmx, hbl, hc, hu⟩ := RdR.at' hl hlt
      obtain ⟨rfl, rfl⟩ : ra = some ⟨b, o, none⟩ ∧ rc = rc' := by cases hre; exact ⟨rfl, rfl⟩
      unfold maxLen at hmx
      have hk1 : k < rc := by omega
      clear hre
      by_cases he : listBad xrs[k] = true
      · have hT := Lib.hid (any_at hlt he)
        generalize xrs[k] = m at hu he
        have h32 : (32 : Int) < m.length := by unfold listBad at he; simp at he; omega
        obtain ⟨ua, uc, rfl⟩ : ∃ ua uc, u = .slice ua m.length uc := by obtain ⟨a, c, h, _⟩ := hu; exact ⟨a, c, h⟩
        clear he htk HS hu hl
        go_wp2_with fail
        go_ret
        exact ⟨retB (by rw [hT.out]; simp), (((Fr.refl w).alloc _).alloc _)⟩
      · rw [Bool.not_eq_true] at he
        have hT := Lib.hid (any_take htk hlt he)
        generalize xrs[k] = m at hu he
        have h32 : ¬ (32 : Int) < m.length := by unfold listBad at he; simp at he; omega
        obtain ⟨ua, uc, rfl⟩ : ∃ ua uc, u = .slice ua m.length uc := by obtain ⟨a, c, h, _⟩ := hu; exact ⟨a, c, h⟩
        clear he htk hu
        go_wp2_with fail
        go_round
        case rel => exact ⟨k + 1, by omega, by go_num, hT.out⟩
        case measure => simp [intOf]; omega
    · have hT := Lib.hid (any_none htk hlt)
      clear htk
      by_cases hcc : xc < 16
      · have hci : (xc : Int) < 16 := by omega
        have hd := decide_eq_true hcc
        have HD := Lib.hid hd
        clear hcc hd
        go_wp2_with (first | ((with_reducible refine wpList_here (.load 32 (.tmp 1)) rfl ?_); refine wpList_load_box 32 (.tmp 1) rfl _ rfl _ ((BoxAt.new w _ _).alloc _) _ Tryd.underlying32 rfl Tryd.infoEv rfl ?_) | ((with_reducible refine wpList_here (.load 32 (.tmp 3)) rfl ?_); refine wpList_load_box 32 (.tmp 3) rfl _ rfl _ (BoxAt.new' _ _ _ _ (by simp)) _ Tryd.underlying32 rfl Tryd.infoEv rfl ?_))
        refine (HS.out _ (((Fr.refl w).alloc _).alloc _)).mono ?_
        rintro e w2 ⟨rfl, hb2⟩
        go_wp2_with fail
        go_ret
        exact ⟨retB (by rw [HD.out, hT.out]; simp), (((Fr.refl w).alloc _).alloc _).trans hb2⟩
      · have hci : ¬ (xc : Int) < 16 := by omega
        have hd := decide_eq_false hcc
        have HD := Lib.hid hd
        clear hcc hd HS
        go_wp2_with fail
        go_ret
        exact ⟨retB (by rw [HD.out, hT.out]; simp), (((Fr.refl w).alloc _).alloc _)⟩
end Go.Proofs.YtgbaanioppblhaaDoor

/- umpireref05.May, whole. No condition but that the event can be read, and its numbers' bounds. -/
namespace Go.Proofs.YtgbaanioppblhaaDoor
open Go.RowKit

set_option maxRecDepth 100000 in
theorem rMay_none (x : Ev) (t r : Value) (w : World) (h : x.kind < 1 ∨ 7 < x.kind) (hb : x.kind < 256) :
    Calls Tryd.prog 13 #[x.val t r] w fun e w' => e = .returned (.bool false) ∧ Fr w w' := by
  have h1 : ((x.kind : Int) == 1) = false := by simp; omega
  have h2 : ((x.kind : Int) == 2) = false := by simp; omega
  have h3 : ((x.kind : Int) == 3) = false := by simp; omega
  have h4 : ((x.kind : Int) == 4) = false := by simp; omega
  have h5 : ((x.kind : Int) == 5) = false := by simp; omega
  have h6 : ((x.kind : Int) == 6) = false := by simp; omega
  have h7 : ((x.kind : Int) == 7) = false := by simp; omega
  clear h hb
  obtain ⟨xk, xc, xi, xo, xrk, xrv, xtx, xrs, xcf⟩ := x
  unfold Ev.val
  simp only at *
  go_enter Tryd.func13, Tryd.ntmps13
  go_wp2_with ((with_reducible refine wpList_here (.store 32 (.tmp 3) (.tmp 13)) rfl ?_); refine wpList_store_new 32 (.tmp 3) (.tmp 13) rfl _ _ _ (by simp) rfl rfl Tryd.infoEv rfl (Ev.oneCell ⟨xk, xc, xi, .zero, 0, 0, [], [], .zero⟩ none none 0 0 0 0) rfl rfl ?_)
  go_ret
  exact ⟨rfl, ((Fr.refl w).alloc _).alloc _⟩
theorem rMayE_c (x : Ev) (v : Value) (w : World) (hx : EvAt w v x) (ok : x.Ok) :
    Calls Tryd.prog 13 #[v] w fun e w' => e = .returned (.bool x.may) ∧ Fr w w' := by
  obtain ⟨⟨t, r, rfl, ht, hr⟩⟩ := hx
  have hx : EvAt w (x.val t r) x := ⟨t, r, rfl, ht, hr⟩
  by_cases hk : 1 ≤ x.kind ∧ x.kind ≤ 7
  · rcases (show x.kind = 1 ∨ x.kind = 2 ∨ x.kind = 3 ∨ x.kind = 4 ∨ x.kind = 5 ∨ x.kind = 6 ∨ x.kind = 7 by omega) with h | h | h | h | h | h | h
    · exact rMay1_c x t r w h hx ht hr
    · exact rMay2_c x t r w h hx ht hr ok.F
    · exact rMay3_c x t r w h hx ht hr
    · exact rMay4_c x t r w h hx ht hr
    · exact rMay5_c x t r w h hx ht hr
    · exact rMay6_c x t r w h hx ht hr
    · exact rMay7_c x t r w h hx ht hr
  · have h1 : x.kind ≠ 1 := by omega
    have h2 : x.kind ≠ 2 := by omega
    have h3 : x.kind ≠ 3 := by omega
    have h4 : x.kind ≠ 4 := by omega
    have h5 : x.kind ≠ 5 := by omega
    have h6 : x.kind ≠ 6 := by omega
    have h7 : x.kind ≠ 7 := by omega
    have hm : x.may = false := by simp [Ev.may, Ev.kindMay, h1, h2, h3, h4, h5, h6, h7]
    rw [hm]
    exact rMay_none x t r w (by omega) ok.kind
end Go.Proofs.YtgbaanioppblhaaDoor
