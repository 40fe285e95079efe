/- event.Same and umpireref05.Same: whether two events are the same. No condition but that both can be read. -/
import Derived.Test.YtfklgaeejmeipaaGreatDoorPOpTake
set_option linter.all false
set_option linter.unusedVariables false
set_option linter.unusedSimpArgs false
set_option linter.unnecessarySimpa false
/- event.Same and umpireref05.Same: whether two events are the same. No condition but that both can be read. -/
namespace Go.Proofs.YtfklgaeejmeipaaGreatDoor
open Go.RowKit

theorem evSame (x y : Ev) : decide (x = y) = (decide (x.kind = y.kind) && (decide (x.client = y.client) && (decide (x.id = y.id) && (decide (x.op = y.op) && (decide (x.rk = y.rk ∧ x.rv = y.rv) && (decide (x.txn = y.txn) && (decide (x.reads = y.reads) && decide (x.cfg = y.cfg)))))))) := by
  cases x; cases y; simp [and_assoc, Bool.decide_and, Bool.and_assoc]
theorem nat_eqb (a b : Nat) : ((a : Int) == b) = decide (a = b) := by
  by_cases h : a = b
  · simp [h]
  · simp [h]; omega
theorem nat_neb (a b : Nat) : ((a : Int) != b) = !decide (a = b) := by rw [bne, nat_eqb]
theorem twoBoxes {w w1 : World} {cs ds : Array Value} {t u : TypeId} (h : Fr ((w.alloc (.cells cs t)).alloc (.cells ds u)) w1) : (∀ j : Nat, w1.cell? ⟨w.heap.size, j, none⟩ = cs[j]?) ∧ (∀ j : Nat, w1.cell? ⟨w.heap.size + 1, j, none⟩ = ds[j]?) ∧ w.heap.size < w1.heap.size ∧ w.heap.size + 1 < w1.heap.size := by
  have hs := h.size2
  refine ⟨fun j => ?_, fun j => ?_, by omega, hs⟩
  · rw [h.cell _ _ (by simp; omega), World.cell?_alloc_lt _ _ _ (by simp), World.cell?_alloc_new]
  · rw [h.cell _ _ (by simp)]
    have e := World.cell?_alloc_new (w.alloc (.cells cs t)) ds u j
    simpa using e
theorem op_eql (x y : OpD) (W : World) : (binOp .eql 24 (.agg #[.int .u8 x.F, .int .u8 x.O, .int .u8 x.K, .int .u16 x.A, .int .u16 x.B]) (.agg #[.int .u8 y.F, .int .u8 y.O, .int .u8 y.K, .int .u16 y.A, .int .u16 y.B])).run Tryz.prog W = .ok (.bool (decide (x = y))) W := by
  obtain ⟨a, b, c, d, e⟩ := x
  obtain ⟨a', b', c', d', e'⟩ := y
  by_cases h1 : a = a' <;> by_cases h2 : b = b' <;> by_cases h3 : c = c' <;> by_cases h4 : d = d' <;> by_cases h5 : e = e' <;> simp [go_sem, Tryz.eqGuardType24, Tryz.stoodInHeld24, Tryz.underlying24, h1, h2, h3, h4, h5] <;> (intros; omega)
theorem res_eql (a b a' b' : Nat) (W : World) : (binOp .eql 26 (.agg #[.int .u8 a, .int .u16 b]) (.agg #[.int .u8 a', .int .u16 b'])).run Tryz.prog W = .ok (.bool (decide (a = a' ∧ b = b'))) W := by
  by_cases h1 : a = a' <;> by_cases h2 : b = b' <;> simp [go_sem, Tryz.eqGuardType26, Tryz.stoodInHeld26, Tryz.underlying26, h1, h2] <;> (intros; omega)
set_option maxHeartbeats 1000000 in
theorem cfg_eql (x y : Cfg) (W : World) : (binOp .eql 30 (.agg #[.int .u8 x.model, .int .i64 x.opens, .int .i64 x.states, .int .i64 x.steps, .bool x.part, .bool x.cut, .bool x.memo]) (.agg #[.int .u8 y.model, .int .i64 y.opens, .int .i64 y.states, .int .i64 y.steps, .bool y.part, .bool y.cut, .bool y.memo])).run Tryz.prog W = .ok (.bool (decide (x = y))) W := by
  obtain ⟨a, b, c, d, e, f, g⟩ := x
  obtain ⟨a', b', c', d', e', f', g'⟩ := y
  by_cases ha : a = a'
  · subst ha
    by_cases hb : b = b'
    · subst hb
      by_cases hc : c = c'
      · subst hc
        by_cases hd : d = d'
        · subst hd
          by_cases he : e = e'
          · subst he
            by_cases hf : f = f'
            · subst hf
              by_cases hg : g = g'
              · subst hg
                simp [go_sem, Tryz.eqGuardType30, Tryz.stoodInHeld30, Tryz.underlying30]
              · simp [go_sem, Tryz.eqGuardType30, Tryz.stoodInHeld30, Tryz.underlying30, hg]
            · simp [go_sem, Tryz.eqGuardType30, Tryz.stoodInHeld30, Tryz.underlying30, hf]
          · simp [go_sem, Tryz.eqGuardType30, Tryz.stoodInHeld30, Tryz.underlying30, he]
        · simp [go_sem, Tryz.eqGuardType30, Tryz.stoodInHeld30, Tryz.underlying30, hd]
      · simp [go_sem, Tryz.eqGuardType30, Tryz.stoodInHeld30, Tryz.underlying30, hc]
    · simp [go_sem, Tryz.eqGuardType30, Tryz.stoodInHeld30, Tryz.underlying30, hb]
  · have h2 : ¬ (a : Int) = a' := by omega
    simp [go_sem, Tryz.eqGuardType30, Tryz.stoodInHeld30, Tryz.underlying30, ha, h2]
set_option maxRecDepth 100000 in
set_option maxHeartbeats 4000000 in
theorem same_c (u v : Value) (x y : Ev) (w : World) (hu : EvAt w u x) (hv : EvAt w v y) :
    Calls Tryz.prog 16 #[u, v] w fun e w' => e = .returned (.bool (decide (x = y))) ∧ Fr w w' := by
  rw [evSame x y]
  obtain ⟨⟨t1, r1, rfl, ht1, hr1⟩⟩ := hu
  obtain ⟨⟨t2, r2, rfl, ht2, hr2⟩⟩ := hv
  unfold Ev.val
  have e1 := nat_eqb x.kind y.kind
  have e2 := nat_eqb x.client y.client
  have e3 := nat_eqb x.id y.id
  have e4 := fun W => op_eql x.op y.op W
  have e5 := fun W => res_eql x.rk x.rv y.rk y.rv W
  have e8 := fun W => cfg_eql x.cfg y.cfg W
  have hm := fun W h1 h2 => equalMic_c t1 t2 x.txn y.txn W h1 h2
  have hr := fun W h1 h2 => equalR_c r1 r2 x.reads y.reads W h1 h2
  have ht1' := fun W f => ht1.keep (w' := W) f
  have ht2' := fun W f => ht2.keep (w' := W) f
  have hr1' := fun W f => hr1.keep (w' := W) f
  have hr2' := fun W f => hr2.keep (w' := W) f
  have HM := Lib.hid (fun W (f : Fr w W) => hm W (ht1' W f) (ht2' W f))
  have HR := Lib.hid (fun W (f : Fr w W) => hr W (hr1' W f) (hr2' W f))
  clear hm hr ht1' ht2' hr1' hr2' ht1 ht2 hr1 hr2
  generalize decide (x.kind = y.kind) = b1 at e1 ⊢
  generalize decide (x.client = y.client) = b2 at e2 ⊢
  generalize decide (x.id = y.id) = b3 at e3 ⊢
  generalize decide (x.op = y.op) = b4 at e4 ⊢
  generalize decide (x.rk = y.rk ∧ x.rv = y.rv) = b5 at e5 ⊢
  generalize decide (x.txn = y.txn) = b6 at HM ⊢
  generalize decide (x.reads = y.reads) = b7 at HR ⊢
  generalize decide (x.cfg = y.cfg) = b8 at e8 ⊢
  have fr0 : ∀ {W : World} {o1 o2 : Obj}, Fr ((w.alloc o1).alloc o2) W → Fr w W := fun f => Fr.trans (((Fr.refl w).alloc _).alloc _) f
  cases b1
  · go_enter Tryz.func16, Tryz.ntmps16
    go_wp2
    go_ret
    exact ⟨rfl, ((Fr.refl w).alloc _).alloc _⟩
  · skip
    cases b2
    · go_enter Tryz.func16, Tryz.ntmps16
      go_wp2
      go_ret
      exact ⟨rfl, ((Fr.refl w).alloc _).alloc _⟩
    · skip
      cases b3
      · go_enter Tryz.func16, Tryz.ntmps16
        go_wp2
        go_ret
        exact ⟨rfl, ((Fr.refl w).alloc _).alloc _⟩
      · skip
        cases b4
        · go_enter Tryz.func16, Tryz.ntmps16
          go_wp2
          go_ret
          exact ⟨rfl, ((Fr.refl w).alloc _).alloc _⟩
        · skip
          cases b5
          · go_enter Tryz.func16, Tryz.ntmps16
            go_wp2
            go_ret
            exact ⟨rfl, ((Fr.refl w).alloc _).alloc _⟩
          · skip
            go_enter Tryz.func16, Tryz.ntmps16
            go_wp2_with fail
            refine (HM.out _ (((Fr.refl w).alloc _).alloc _)).mono ?_
            rintro e w1 ⟨rfl, hd1⟩
            have hb1 := hd1.fr
            have hf1 := fr0 hb1
            obtain ⟨hq1, hq2, s0, s1⟩ := twoBoxes hb1
            have c11 := hq1 11
            have d11 := hq2 11
            simp only [List.getElem?_toArray, List.getElem?_cons_succ, List.getElem?_cons_zero] at c11 d11
            clear hq1 hq2
            cases b6
            · go_wp2
              go_ret
              exact ⟨rfl, hf1⟩
            go_wp2_with fail
            refine (HR.out _ hf1).mono ?_
            rintro e w2 ⟨rfl, hb2⟩
            have hb2 := hb1.trans hb2
            have hf2 := fr0 hb2
            clear hb1 hf1 hd1 s0 s1 c11 d11
            obtain ⟨hq1, hq2, s0, s1⟩ := twoBoxes hb2
            have c12 := hq1 12
            have d12 := hq2 12
            have c13 := hq1 13
            have d13 := hq2 13
            have c14 := hq1 14
            have d14 := hq2 14
            have c15 := hq1 15
            have d15 := hq2 15
            have c16 := hq1 16
            have d16 := hq2 16
            have c17 := hq1 17
            have d17 := hq2 17
            have c18 := hq1 18
            have d18 := hq2 18
            simp only [List.getElem?_toArray, List.getElem?_cons_succ, List.getElem?_cons_zero] at c12 d12 c13 d13 c14 d14 c15 d15 c16 d16 c17 d17 c18 d18
            clear hq1 hq2
            cases b7
            · go_wp2
              go_ret
              exact ⟨rfl, hf2⟩
            go_wp2
            go_ret
            exact ⟨rfl, hf2⟩
end Go.Proofs.YtfklgaeejmeipaaGreatDoor
