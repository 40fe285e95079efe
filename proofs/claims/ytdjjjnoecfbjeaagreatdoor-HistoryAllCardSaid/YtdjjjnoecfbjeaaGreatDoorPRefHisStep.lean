/- umpireref07: May and Step. No condition but that all can be read, and the numbers' bounds. -/
import Derived.Test.YtdjjjnoecfbjeaaGreatDoorPRefHisMay
set_option linter.all false
set_option linter.unusedVariables false
set_option linter.unusedSimpArgs false
set_option linter.unnecessarySimpa false
/- umpireref07: May and Step. No condition but that all can be read, and the numbers' bounds. -/
namespace Go.Proofs.YtdjjjnoecfbjeaaGreatDoor
open Go.RowKit
attribute [local go_sem] Oper.semAt_some

theorem opens7w_c {L M : List Ev} {c : Ev} (hc : L = c :: M) (v : Value) (p : Nat) (w : World) (h : HisAt w p v L) (x : Ev) (t r : Value) (ht : RdM w t x.txn) (hr : RdR w r x.reads) (ok : x.Ok) (h8 : x.txn.length ≤ 8) :
    Calls Tryz.prog 30 #[.pointer (some ⟨p, 0, none⟩), x.val t r] w fun e w' => e = .returned (.int .i64 (opensWhy L c.cfg.model x : Nat)) ∧ Fr w w' := by
  unfold opensWhy
  cases hb : (pend L x.client).isSome
  · rw [if_neg (by simp)]
    by_cases hi : (x.id : Int) ≤ lastId L
    · rw [if_pos hi]
      exact opens7Old_c L v p w h x t r ht hr ok hb hi
    · rw [if_neg hi]
      by_cases hk : x.kind = 2
      · rw [if_pos hk]
        exact opens7Op_c L v p w h x t r ht hr ok hb hi hk hc (h.may c (by rw [hc]; simp)).2
      · rw [if_neg hk]
        exact opens7Txn_c L v p w h x t r ht hr ok hb hi hk h8
  · rw [if_pos rfl]
    exact opens7Busy_c L v p w h x t r ht hr ok hb
theorem may_kind {x : Ev} (h : x.may = true) : 1 ≤ x.kind ∧ x.kind ≤ 7 := Ev.may_kind h
set_option maxRecDepth 100000 in
set_option maxHeartbeats 4000000 in
theorem may7No_c (L : List Ev) (v : Value) (p : Nat) (w : World) (h : HisAt w p v L) (x : Ev) (t r : Value) (ht : RdM w t x.txn) (hr : RdR w r x.reads) (ok : x.Ok) (hm : x.may = false) :
    Calls Tryz.prog 16 #[.pointer (some ⟨p, 0, none⟩), x.val t r] w fun e w' => e = .returned (.int .i64 (4 : Nat)) ∧ Fr w w' := by
  obtain ⟨ta, tn, tc, rfl⟩ := ht.slice
  obtain ⟨ra, rn, rc, rfl⟩ := hr.slice
  obtain ⟨la, cap, rfl, hcap, hmax, _⟩ := id h.rd
  unfold maxLen at hmax
  have hM := fun W (f : Fr w W) => rMayE_c x (x.val (.slice ta tn tc) (.slice ra rn rc)) W ⟨_, _, rfl, ht.keep f, hr.keep f⟩ ok
  have hb0 := BoxAt.new w (x.cells (.slice ta tn tc) (.slice ra rn rc)) 39
  have hF0 := (Fr.refl w).alloc (.cells (x.cells (.slice ta tn tc) (.slice ra rn rc)) 39)
  have c0 := h.at0
  have hpl := h.lt
  rw [hm] at hM
  have HM := Lib.hid hM
  clear h ht hr ok
  clear hm hM
  unfold Ev.val
  go_enter Tryz.func16, Tryz.ntmps16
  go_wp2_with ((with_reducible refine wpList_here (.load 39 (.tmp 3)) rfl ?_); refine wpList_load_box 39 (.tmp 3) rfl _ rfl _ hb0 _ Tryz.underlying39 rfl Tryz.infoEv rfl ?_)
  refine (HM.out _ hF0).mono ?_
  rintro e w1 ⟨rfl, hf⟩
  have hB := hb0.fr hf
  have hF := hF0.trans hf
  have x0 : w1.cell? ⟨w.heap.size, 0, none⟩ = some (.int .u8 x.kind) := hB.at 0 rfl
  have d0 := hF.keep c0
  have hlx := hB.lt
  have hlp := lt_of_cell d0
  simp only at hlp
  clear hf hb0 hF0 c0 hpl
  go_wp2_with fail
  go_ret
  exact ⟨rfl, hF⟩
set_option maxRecDepth 100000 in
set_option maxHeartbeats 4000000 in
theorem may7Cfg_c (L : List Ev) (v : Value) (p : Nat) (w : World) (h : HisAt w p v L) (x : Ev) (t r : Value) (ht : RdM w t x.txn) (hr : RdR w r x.reads) (ok : x.Ok) (hm : x.may = true) (hk : x.kind = 1) (hL : L ≠ []) :
    Calls Tryz.prog 16 #[.pointer (some ⟨p, 0, none⟩), x.val t r] w fun e w' => e = .returned (.int .i64 (11 : Nat)) ∧ Fr w w' := by
  obtain ⟨ta, tn, tc, rfl⟩ := ht.slice
  obtain ⟨ra, rn, rc, rfl⟩ := hr.slice
  obtain ⟨la, cap, rfl, hcap, hmax, _⟩ := id h.rd
  unfold maxLen at hmax
  have hM := fun W (f : Fr w W) => rMayE_c x (x.val (.slice ta tn tc) (.slice ra rn rc)) W ⟨_, _, rfl, ht.keep f, hr.keep f⟩ ok
  have hb0 := BoxAt.new w (x.cells (.slice ta tn tc) (.slice ra rn rc)) 39
  have hF0 := (Fr.refl w).alloc (.cells (x.cells (.slice ta tn tc) (.slice ra rn rc)) 39)
  have c0 := h.at0
  have hpl := h.lt
  rw [hm] at hM
  have HM := Lib.hid hM

  have e1 : ((x.kind : Int) == 1) = true := by rw [hk]; rfl
  have hll : 0 < L.length := List.length_pos_iff.2 hL
  have hli : (0 : Int) < L.length := by omega
  clear h ht hr ok hL hk

  clear hm hM
  unfold Ev.val
  go_enter Tryz.func16, Tryz.ntmps16
  go_wp2_with ((with_reducible refine wpList_here (.load 39 (.tmp 3)) rfl ?_); refine wpList_load_box 39 (.tmp 3) rfl _ rfl _ hb0 _ Tryz.underlying39 rfl Tryz.infoEv rfl ?_)
  refine (HM.out _ hF0).mono ?_
  rintro e w1 ⟨rfl, hf⟩
  have hB := hb0.fr hf
  have hF := hF0.trans hf
  have x0 : w1.cell? ⟨w.heap.size, 0, none⟩ = some (.int .u8 x.kind) := hB.at 0 rfl
  have d0 := hF.keep c0
  have hlx := hB.lt
  have hlp := lt_of_cell d0
  simp only at hlp
  clear hf hb0 hF0 c0 hpl
  go_wp2_with fail
  go_ret
  exact ⟨rfl, hF⟩
set_option maxRecDepth 100000 in
set_option maxHeartbeats 4000000 in
theorem may7Cfg0_c (L : List Ev) (v : Value) (p : Nat) (w : World) (h : HisAt w p v L) (x : Ev) (t r : Value) (ht : RdM w t x.txn) (hr : RdR w r x.reads) (ok : x.Ok) (hm : x.may = true) (hk : x.kind = 1) (hL : L = []) :
    Calls Tryz.prog 16 #[.pointer (some ⟨p, 0, none⟩), x.val t r] w fun e w' => e = .returned (.int .i64 (0 : Nat)) ∧ Fr w w' := by
  obtain ⟨ta, tn, tc, rfl⟩ := ht.slice
  obtain ⟨ra, rn, rc, rfl⟩ := hr.slice
  obtain ⟨la, cap, rfl, hcap, hmax, _⟩ := id h.rd
  unfold maxLen at hmax
  have hM := fun W (f : Fr w W) => rMayE_c x (x.val (.slice ta tn tc) (.slice ra rn rc)) W ⟨_, _, rfl, ht.keep f, hr.keep f⟩ ok
  have hb0 := BoxAt.new w (x.cells (.slice ta tn tc) (.slice ra rn rc)) 39
  have hF0 := (Fr.refl w).alloc (.cells (x.cells (.slice ta tn tc) (.slice ra rn rc)) 39)
  have c0 := h.at0
  have hpl := h.lt
  rw [hm] at hM
  have HM := Lib.hid hM

  have e1 : ((x.kind : Int) == 1) = true := by rw [hk]; rfl
  subst hL
  clear h ht hr ok hk

  clear hm hM
  unfold Ev.val
  go_enter Tryz.func16, Tryz.ntmps16
  go_wp2_with ((with_reducible refine wpList_here (.load 39 (.tmp 3)) rfl ?_); refine wpList_load_box 39 (.tmp 3) rfl _ rfl _ hb0 _ Tryz.underlying39 rfl Tryz.infoEv rfl ?_)
  refine (HM.out _ hF0).mono ?_
  rintro e w1 ⟨rfl, hf⟩
  have hB := hb0.fr hf
  have hF := hF0.trans hf
  have x0 : w1.cell? ⟨w.heap.size, 0, none⟩ = some (.int .u8 x.kind) := hB.at 0 rfl
  have d0 := hF.keep c0
  have hlx := hB.lt
  have hlp := lt_of_cell d0
  simp only at hlp
  clear hf hb0 hF0 c0 hpl
  go_wp2_with fail
  go_ret
  exact ⟨rfl, hF⟩
set_option maxRecDepth 100000 in
set_option maxHeartbeats 4000000 in
theorem may7Nil_c (L : List Ev) (v : Value) (p : Nat) (w : World) (h : HisAt w p v L) (x : Ev) (t r : Value) (ht : RdM w t x.txn) (hr : RdR w r x.reads) (ok : x.Ok) (hm : x.may = true) (hk : x.kind ≠ 1) (hL : L = []) :
    Calls Tryz.prog 16 #[.pointer (some ⟨p, 0, none⟩), x.val t r] w fun e w' => e = .returned (.int .i64 (11 : Nat)) ∧ Fr w w' := by
  obtain ⟨ta, tn, tc, rfl⟩ := ht.slice
  obtain ⟨ra, rn, rc, rfl⟩ := hr.slice
  obtain ⟨la, cap, rfl, hcap, hmax, _⟩ := id h.rd
  unfold maxLen at hmax
  have hM := fun W (f : Fr w W) => rMayE_c x (x.val (.slice ta tn tc) (.slice ra rn rc)) W ⟨_, _, rfl, ht.keep f, hr.keep f⟩ ok
  have hb0 := BoxAt.new w (x.cells (.slice ta tn tc) (.slice ra rn rc)) 39
  have hF0 := (Fr.refl w).alloc (.cells (x.cells (.slice ta tn tc) (.slice ra rn rc)) 39)
  have c0 := h.at0
  have hpl := h.lt
  rw [hm] at hM
  have HM := Lib.hid hM

  have e1 : ((x.kind : Int) == 1) = false := by simp; omega
  subst hL
  clear h ht hr ok hk

  clear hm hM
  unfold Ev.val
  go_enter Tryz.func16, Tryz.ntmps16
  go_wp2_with ((with_reducible refine wpList_here (.load 39 (.tmp 3)) rfl ?_); refine wpList_load_box 39 (.tmp 3) rfl _ rfl _ hb0 _ Tryz.underlying39 rfl Tryz.infoEv rfl ?_)
  refine (HM.out _ hF0).mono ?_
  rintro e w1 ⟨rfl, hf⟩
  have hB := hb0.fr hf
  have hF := hF0.trans hf
  have x0 : w1.cell? ⟨w.heap.size, 0, none⟩ = some (.int .u8 x.kind) := hB.at 0 rfl
  have d0 := hF.keep c0
  have hlx := hB.lt
  have hlp := lt_of_cell d0
  simp only at hlp
  clear hf hb0 hF0 c0 hpl
  go_wp2_with fail
  go_ret
  exact ⟨rfl, hF⟩
set_option maxRecDepth 100000 in
set_option maxHeartbeats 4000000 in
theorem may7K2T_c (L : List Ev) (v : Value) (p : Nat) (w : World) (h : HisAt w p v L) (x : Ev) (t r : Value) (ht : RdM w t x.txn) (hr : RdR w r x.reads) (ok : x.Ok) (hm : x.may = true) (hk : x.kind = 2) {c : Ev} {M : List Ev} (hc : L = c :: M) (h4 : c.cfg.model = 4) :
    Calls Tryz.prog 16 #[.pointer (some ⟨p, 0, none⟩), x.val t r] w fun e w' => e = .returned (.int .i64 (10 : Nat)) ∧ Fr w w' := by
  obtain ⟨ta, tn, tc, rfl⟩ := ht.slice
  obtain ⟨ra, rn, rc, rfl⟩ := hr.slice
  obtain ⟨la, cap, rfl, hcap, hmax, _⟩ := id h.rd
  unfold maxLen at hmax
  have hM := fun W (f : Fr w W) => rMayE_c x (x.val (.slice ta tn tc) (.slice ra rn rc)) W ⟨_, _, rfl, ht.keep f, hr.keep f⟩ ok
  have hb0 := BoxAt.new w (x.cells (.slice ta tn tc) (.slice ra rn rc)) 39
  have hF0 := (Fr.refl w).alloc (.cells (x.cells (.slice ta tn tc) (.slice ra rn rc)) 39)
  have c0 := h.at0
  have hpl := h.lt
  rw [hm] at hM
  have HM := Lib.hid hM

  obtain ⟨b1, o1, t1, r1, rfl, hb1, hx, hm1, hm2⟩ := RdE.at (k := 0) h.rd (by rw [hc]; simp)
  have c12 : w.cell? ⟨b1, o1 + 12, none⟩ = some (.int .u8 c.cfg.model) := by have h1 := hx 12 _ rfl; simp only [hc] at h1; rw [Nat.zero_mul, Nat.add_zero] at h1; exact h1
  have hll : 0 < L.length := by rw [hc]; simp
  have hle : ((L.length : Int) == 0) = false := beq_eq_false_iff_ne.2 (by omega)
  clear hm1 hm2 hx
  have e1 : ((x.kind : Int) == 1) = false := by rw [hk]; rfl
  have e2 : ((x.kind : Int) == 2) = true := by rw [hk]; rfl
  have e3 : ((x.kind : Int) == 3) = false := by rw [hk]; rfl
  have e5 : ((x.kind : Int) == 5) = false := by rw [hk]; rfl
  have e6 : ((x.kind : Int) == 6) = false := by rw [hk]; rfl
  have e7 : ((x.kind : Int) == 7) = false := by rw [hk]; rfl
  have e4 : ((c.cfg.model : Int) == 4) = true := by rw [h4]; rfl
  generalize c.cfg.model = m at c12 e4
  clear h ht hr ok hk h4 hc

  clear hm hM
  unfold Ev.val
  go_enter Tryz.func16, Tryz.ntmps16
  go_wp2_with ((with_reducible refine wpList_here (.load 39 (.tmp 3)) rfl ?_); refine wpList_load_box 39 (.tmp 3) rfl _ rfl _ hb0 _ Tryz.underlying39 rfl Tryz.infoEv rfl ?_)
  refine (HM.out _ hF0).mono ?_
  rintro e w1 ⟨rfl, hf⟩
  have hB := hb0.fr hf
  have hF := hF0.trans hf
  have x0 : w1.cell? ⟨w.heap.size, 0, none⟩ = some (.int .u8 x.kind) := hB.at 0 rfl
  have d0 := hF.keep c0
  have hlx := hB.lt
  have hlp := lt_of_cell d0
  simp only at hlp
  clear hf hb0 hF0 c0 hpl

  have d12 := hF.keep c12
  have hl1 := lt_of_cell d12
  simp only at hl1
  clear c12 hb1
  go_wp2_with fail
  go_ret
  exact ⟨rfl, hF⟩
set_option maxRecDepth 100000 in
set_option maxHeartbeats 4000000 in
theorem may7K2F_c (L : List Ev) (v : Value) (p : Nat) (w : World) (h : HisAt w p v L) (x : Ev) (t r : Value) (ht : RdM w t x.txn) (hr : RdR w r x.reads) (ok : x.Ok) (hm : x.may = true) (hk : x.kind = 2) {c : Ev} {M : List Ev} (hc : L = c :: M) (h4 : c.cfg.model ≠ 4) :
    Calls Tryz.prog 16 #[.pointer (some ⟨p, 0, none⟩), x.val t r] w fun e w' => e = .returned (.int .i64 (opensWhy L c.cfg.model x : Nat)) ∧ Fr w w' := by
  obtain ⟨ta, tn, tc, rfl⟩ := ht.slice
  obtain ⟨ra, rn, rc, rfl⟩ := hr.slice
  obtain ⟨la, cap, rfl, hcap, hmax, _⟩ := id h.rd
  unfold maxLen at hmax
  have hM := fun W (f : Fr w W) => rMayE_c x (x.val (.slice ta tn tc) (.slice ra rn rc)) W ⟨_, _, rfl, ht.keep f, hr.keep f⟩ ok
  have hb0 := BoxAt.new w (x.cells (.slice ta tn tc) (.slice ra rn rc)) 39
  have hF0 := (Fr.refl w).alloc (.cells (x.cells (.slice ta tn tc) (.slice ra rn rc)) 39)
  have c0 := h.at0
  have hpl := h.lt
  rw [hm] at hM
  have HM := Lib.hid hM

  have hO := fun W (f : Fr w W) => opens7w_c hc _ p W (h.fr f) x _ _ (ht.keep f) (hr.keep f) ok (Ev.may_txn hm)
  generalize opensWhy L c.cfg.model x = S at hO ⊢
  have HO := Lib.hid hO
  have hop := fun W => opens7_c x (.slice ta tn tc) (.slice ra rn rc) W
  rw [show x.opens = true by unfold Ev.opens; rw [hk]; rfl] at hop
  have HOP := Lib.hid hop
  clear hO hop

  obtain ⟨b1, o1, t1, r1, rfl, hb1, hx, hm1, hm2⟩ := RdE.at (k := 0) h.rd (by rw [hc]; simp)
  have c12 : w.cell? ⟨b1, o1 + 12, none⟩ = some (.int .u8 c.cfg.model) := by have h1 := hx 12 _ rfl; simp only [hc] at h1; rw [Nat.zero_mul, Nat.add_zero] at h1; exact h1
  have hll : 0 < L.length := by rw [hc]; simp
  have hle : ((L.length : Int) == 0) = false := beq_eq_false_iff_ne.2 (by omega)
  clear hm1 hm2 hx
  have e1 : ((x.kind : Int) == 1) = false := by rw [hk]; rfl
  have e2 : ((x.kind : Int) == 2) = true := by rw [hk]; rfl
  have e3 : ((x.kind : Int) == 3) = false := by rw [hk]; rfl
  have e5 : ((x.kind : Int) == 5) = false := by rw [hk]; rfl
  have e6 : ((x.kind : Int) == 6) = false := by rw [hk]; rfl
  have e7 : ((x.kind : Int) == 7) = false := by rw [hk]; rfl
  have e4 : ((c.cfg.model : Int) == 4) = false := by exact beq_eq_false_iff_ne.2 (by omega)
  generalize c.cfg.model = m at c12 e4
  clear h ht hr ok hk h4 hc

  clear hm hM
  unfold Ev.val
  go_enter Tryz.func16, Tryz.ntmps16
  go_wp2_with ((with_reducible refine wpList_here (.load 39 (.tmp 3)) rfl ?_); refine wpList_load_box 39 (.tmp 3) rfl _ rfl _ hb0 _ Tryz.underlying39 rfl Tryz.infoEv rfl ?_)
  refine (HM.out _ hF0).mono ?_
  rintro e w1 ⟨rfl, hf⟩
  have hB := hb0.fr hf
  have hF := hF0.trans hf
  have x0 : w1.cell? ⟨w.heap.size, 0, none⟩ = some (.int .u8 x.kind) := hB.at 0 rfl
  have d0 := hF.keep c0
  have hlx := hB.lt
  have hlp := lt_of_cell d0
  simp only at hlp
  clear hf hb0 hF0 c0 hpl

  have d12 := hF.keep c12
  have hl1 := lt_of_cell d12
  simp only at hl1
  clear c12 hb1
  go_wp2_with ((with_reducible refine wpList_here (.load 39 (.tmp 3)) rfl ?_); refine wpList_load_box 39 (.tmp 3) rfl _ rfl _ hB _ Tryz.underlying39 rfl Tryz.infoEv rfl ?_)
  refine (HOP.out _).mono ?_
  rintro e w2 ⟨rfl, hf⟩
  have hB2 := hB.fr hf
  have hF2 := hF.trans hf
  clear hB hF hf x0 d0 d12
  go_wp2_with ((with_reducible refine wpList_here (.load 39 (.tmp 3)) rfl ?_); refine wpList_load_box 39 (.tmp 3) rfl _ rfl _ hB2 _ Tryz.underlying39 rfl Tryz.infoEv rfl ?_)
  refine (HO.out _ hF2).mono ?_
  rintro e w3 ⟨rfl, hf⟩
  go_wp2_with fail
  go_ret
  exact ⟨rfl, hF2.trans hf⟩
set_option maxRecDepth 100000 in
set_option maxHeartbeats 4000000 in
theorem may7K3T_c (L : List Ev) (v : Value) (p : Nat) (w : World) (h : HisAt w p v L) (x : Ev) (t r : Value) (ht : RdM w t x.txn) (hr : RdR w r x.reads) (ok : x.Ok) (hm : x.may = true) (hk : x.kind = 3) {c : Ev} {M : List Ev} (hc : L = c :: M) (h4 : c.cfg.model = 4) :
    Calls Tryz.prog 16 #[.pointer (some ⟨p, 0, none⟩), x.val t r] w fun e w' => e = .returned (.int .i64 (10 : Nat)) ∧ Fr w w' := by
  obtain ⟨ta, tn, tc, rfl⟩ := ht.slice
  obtain ⟨ra, rn, rc, rfl⟩ := hr.slice
  obtain ⟨la, cap, rfl, hcap, hmax, _⟩ := id h.rd
  unfold maxLen at hmax
  have hM := fun W (f : Fr w W) => rMayE_c x (x.val (.slice ta tn tc) (.slice ra rn rc)) W ⟨_, _, rfl, ht.keep f, hr.keep f⟩ ok
  have hb0 := BoxAt.new w (x.cells (.slice ta tn tc) (.slice ra rn rc)) 39
  have hF0 := (Fr.refl w).alloc (.cells (x.cells (.slice ta tn tc) (.slice ra rn rc)) 39)
  have c0 := h.at0
  have hpl := h.lt
  rw [hm] at hM
  have HM := Lib.hid hM

  obtain ⟨b1, o1, t1, r1, rfl, hb1, hx, hm1, hm2⟩ := RdE.at (k := 0) h.rd (by rw [hc]; simp)
  have c12 : w.cell? ⟨b1, o1 + 12, none⟩ = some (.int .u8 c.cfg.model) := by have h1 := hx 12 _ rfl; simp only [hc] at h1; rw [Nat.zero_mul, Nat.add_zero] at h1; exact h1
  have hll : 0 < L.length := by rw [hc]; simp
  have hle : ((L.length : Int) == 0) = false := beq_eq_false_iff_ne.2 (by omega)
  clear hm1 hm2 hx
  have e1 : ((x.kind : Int) == 1) = false := by rw [hk]; rfl
  have e2 : ((x.kind : Int) == 2) = false := by rw [hk]; rfl
  have e3 : ((x.kind : Int) == 3) = true := by rw [hk]; rfl
  have e5 : ((x.kind : Int) == 5) = false := by rw [hk]; rfl
  have e6 : ((x.kind : Int) == 6) = false := by rw [hk]; rfl
  have e7 : ((x.kind : Int) == 7) = false := by rw [hk]; rfl
  have e4 : ((c.cfg.model : Int) == 4) = true := by rw [h4]; rfl
  generalize c.cfg.model = m at c12 e4
  clear h ht hr ok hk h4 hc

  clear hm hM
  unfold Ev.val
  go_enter Tryz.func16, Tryz.ntmps16
  go_wp2_with ((with_reducible refine wpList_here (.load 39 (.tmp 3)) rfl ?_); refine wpList_load_box 39 (.tmp 3) rfl _ rfl _ hb0 _ Tryz.underlying39 rfl Tryz.infoEv rfl ?_)
  refine (HM.out _ hF0).mono ?_
  rintro e w1 ⟨rfl, hf⟩
  have hB := hb0.fr hf
  have hF := hF0.trans hf
  have x0 : w1.cell? ⟨w.heap.size, 0, none⟩ = some (.int .u8 x.kind) := hB.at 0 rfl
  have d0 := hF.keep c0
  have hlx := hB.lt
  have hlp := lt_of_cell d0
  simp only at hlp
  clear hf hb0 hF0 c0 hpl

  have d12 := hF.keep c12
  have hl1 := lt_of_cell d12
  simp only at hl1
  clear c12 hb1
  go_wp2_with fail
  go_ret
  exact ⟨rfl, hF⟩
set_option maxRecDepth 100000 in
set_option maxHeartbeats 4000000 in
theorem may7K3F_c (L : List Ev) (v : Value) (p : Nat) (w : World) (h : HisAt w p v L) (x : Ev) (t r : Value) (ht : RdM w t x.txn) (hr : RdR w r x.reads) (ok : x.Ok) (hm : x.may = true) (hk : x.kind = 3) {c : Ev} {M : List Ev} (hc : L = c :: M) (h4 : c.cfg.model ≠ 4) :
    Calls Tryz.prog 16 #[.pointer (some ⟨p, 0, none⟩), x.val t r] w fun e w' => e = .returned (.int .i64 (endsWhy L x : Nat)) ∧ Fr w w' := by
  obtain ⟨ta, tn, tc, rfl⟩ := ht.slice
  obtain ⟨ra, rn, rc, rfl⟩ := hr.slice
  obtain ⟨la, cap, rfl, hcap, hmax, _⟩ := id h.rd
  unfold maxLen at hmax
  have hM := fun W (f : Fr w W) => rMayE_c x (x.val (.slice ta tn tc) (.slice ra rn rc)) W ⟨_, _, rfl, ht.keep f, hr.keep f⟩ ok
  have hb0 := BoxAt.new w (x.cells (.slice ta tn tc) (.slice ra rn rc)) 39
  have hF0 := (Fr.refl w).alloc (.cells (x.cells (.slice ta tn tc) (.slice ra rn rc)) 39)
  have c0 := h.at0
  have hpl := h.lt
  rw [hm] at hM
  have HM := Lib.hid hM

  have hO := fun W (f : Fr w W) => ends7_c L _ p W (h.fr f) x _ _ (ht.keep f) (hr.keep f)
  generalize endsWhy L x = S at hO ⊢
  have HO := Lib.hid hO
  have hop := fun W => opens7_c x (.slice ta tn tc) (.slice ra rn rc) W
  rw [show x.opens = false by unfold Ev.opens; rw [hk]; rfl] at hop
  have HOP := Lib.hid hop
  clear hO hop

  obtain ⟨b1, o1, t1, r1, rfl, hb1, hx, hm1, hm2⟩ := RdE.at (k := 0) h.rd (by rw [hc]; simp)
  have c12 : w.cell? ⟨b1, o1 + 12, none⟩ = some (.int .u8 c.cfg.model) := by have h1 := hx 12 _ rfl; simp only [hc] at h1; rw [Nat.zero_mul, Nat.add_zero] at h1; exact h1
  have hll : 0 < L.length := by rw [hc]; simp
  have hle : ((L.length : Int) == 0) = false := beq_eq_false_iff_ne.2 (by omega)
  clear hm1 hm2 hx
  have e1 : ((x.kind : Int) == 1) = false := by rw [hk]; rfl
  have e2 : ((x.kind : Int) == 2) = false := by rw [hk]; rfl
  have e3 : ((x.kind : Int) == 3) = true := by rw [hk]; rfl
  have e5 : ((x.kind : Int) == 5) = false := by rw [hk]; rfl
  have e6 : ((x.kind : Int) == 6) = false := by rw [hk]; rfl
  have e7 : ((x.kind : Int) == 7) = false := by rw [hk]; rfl
  have e4 : ((c.cfg.model : Int) == 4) = false := by exact beq_eq_false_iff_ne.2 (by omega)
  generalize c.cfg.model = m at c12 e4
  clear h ht hr ok hk h4 hc

  clear hm hM
  unfold Ev.val
  go_enter Tryz.func16, Tryz.ntmps16
  go_wp2_with ((with_reducible refine wpList_here (.load 39 (.tmp 3)) rfl ?_); refine wpList_load_box 39 (.tmp 3) rfl _ rfl _ hb0 _ Tryz.underlying39 rfl Tryz.infoEv rfl ?_)
  refine (HM.out _ hF0).mono ?_
  rintro e w1 ⟨rfl, hf⟩
  have hB := hb0.fr hf
  have hF := hF0.trans hf
  have x0 : w1.cell? ⟨w.heap.size, 0, none⟩ = some (.int .u8 x.kind) := hB.at 0 rfl
  have d0 := hF.keep c0
  have hlx := hB.lt
  have hlp := lt_of_cell d0
  simp only at hlp
  clear hf hb0 hF0 c0 hpl

  have d12 := hF.keep c12
  have hl1 := lt_of_cell d12
  simp only at hl1
  clear c12 hb1
  go_wp2_with ((with_reducible refine wpList_here (.load 39 (.tmp 3)) rfl ?_); refine wpList_load_box 39 (.tmp 3) rfl _ rfl _ hB _ Tryz.underlying39 rfl Tryz.infoEv rfl ?_)
  refine (HOP.out _).mono ?_
  rintro e w2 ⟨rfl, hf⟩
  have hB2 := hB.fr hf
  have hF2 := hF.trans hf
  clear hB hF hf x0 d0 d12
  go_wp2_with ((with_reducible refine wpList_here (.load 39 (.tmp 3)) rfl ?_); refine wpList_load_box 39 (.tmp 3) rfl _ rfl _ hB2 _ Tryz.underlying39 rfl Tryz.infoEv rfl ?_)
  refine (HO.out _ hF2).mono ?_
  rintro e w3 ⟨rfl, hf⟩
  go_wp2_with fail
  go_ret
  exact ⟨rfl, hF2.trans hf⟩
set_option maxRecDepth 100000 in
set_option maxHeartbeats 4000000 in
theorem may7K4T_c (L : List Ev) (v : Value) (p : Nat) (w : World) (h : HisAt w p v L) (x : Ev) (t r : Value) (ht : RdM w t x.txn) (hr : RdR w r x.reads) (ok : x.Ok) (hm : x.may = true) (hk : x.kind = 4) {c : Ev} {M : List Ev} (hc : L = c :: M) (h4 : c.cfg.model = 4) :
    Calls Tryz.prog 16 #[.pointer (some ⟨p, 0, none⟩), x.val t r] w fun e w' => e = .returned (.int .i64 (endsWhy L x : Nat)) ∧ Fr w w' := by
  obtain ⟨ta, tn, tc, rfl⟩ := ht.slice
  obtain ⟨ra, rn, rc, rfl⟩ := hr.slice
  obtain ⟨la, cap, rfl, hcap, hmax, _⟩ := id h.rd
  unfold maxLen at hmax
  have hM := fun W (f : Fr w W) => rMayE_c x (x.val (.slice ta tn tc) (.slice ra rn rc)) W ⟨_, _, rfl, ht.keep f, hr.keep f⟩ ok
  have hb0 := BoxAt.new w (x.cells (.slice ta tn tc) (.slice ra rn rc)) 39
  have hF0 := (Fr.refl w).alloc (.cells (x.cells (.slice ta tn tc) (.slice ra rn rc)) 39)
  have c0 := h.at0
  have hpl := h.lt
  rw [hm] at hM
  have HM := Lib.hid hM

  have hO := fun W (f : Fr w W) => ends7_c L _ p W (h.fr f) x _ _ (ht.keep f) (hr.keep f)
  generalize endsWhy L x = S at hO ⊢
  have HO := Lib.hid hO
  have hop := fun W => opens7_c x (.slice ta tn tc) (.slice ra rn rc) W
  rw [show x.opens = false by unfold Ev.opens; rw [hk]; rfl] at hop
  have HOP := Lib.hid hop
  clear hO hop

  obtain ⟨b1, o1, t1, r1, rfl, hb1, hx, hm1, hm2⟩ := RdE.at (k := 0) h.rd (by rw [hc]; simp)
  have c12 : w.cell? ⟨b1, o1 + 12, none⟩ = some (.int .u8 c.cfg.model) := by have h1 := hx 12 _ rfl; simp only [hc] at h1; rw [Nat.zero_mul, Nat.add_zero] at h1; exact h1
  have hll : 0 < L.length := by rw [hc]; simp
  have hle : ((L.length : Int) == 0) = false := beq_eq_false_iff_ne.2 (by omega)
  clear hm1 hm2 hx
  have e1 : ((x.kind : Int) == 1) = false := by rw [hk]; rfl
  have e2 : ((x.kind : Int) == 2) = false := by rw [hk]; rfl
  have e3 : ((x.kind : Int) == 3) = false := by rw [hk]; rfl
  have e5 : ((x.kind : Int) == 5) = false := by rw [hk]; rfl
  have e6 : ((x.kind : Int) == 6) = false := by rw [hk]; rfl
  have e7 : ((x.kind : Int) == 7) = false := by rw [hk]; rfl
  have e4 : ((c.cfg.model : Int) == 4) = true := by rw [h4]; rfl
  generalize c.cfg.model = m at c12 e4
  clear h ht hr ok hk h4 hc

  clear hm hM
  unfold Ev.val
  go_enter Tryz.func16, Tryz.ntmps16
  go_wp2_with ((with_reducible refine wpList_here (.load 39 (.tmp 3)) rfl ?_); refine wpList_load_box 39 (.tmp 3) rfl _ rfl _ hb0 _ Tryz.underlying39 rfl Tryz.infoEv rfl ?_)
  refine (HM.out _ hF0).mono ?_
  rintro e w1 ⟨rfl, hf⟩
  have hB := hb0.fr hf
  have hF := hF0.trans hf
  have x0 : w1.cell? ⟨w.heap.size, 0, none⟩ = some (.int .u8 x.kind) := hB.at 0 rfl
  have d0 := hF.keep c0
  have hlx := hB.lt
  have hlp := lt_of_cell d0
  simp only at hlp
  clear hf hb0 hF0 c0 hpl

  have d12 := hF.keep c12
  have hl1 := lt_of_cell d12
  simp only at hl1
  clear c12 hb1
  go_wp2_with ((with_reducible refine wpList_here (.load 39 (.tmp 3)) rfl ?_); refine wpList_load_box 39 (.tmp 3) rfl _ rfl _ hB _ Tryz.underlying39 rfl Tryz.infoEv rfl ?_)
  refine (HOP.out _).mono ?_
  rintro e w2 ⟨rfl, hf⟩
  have hB2 := hB.fr hf
  have hF2 := hF.trans hf
  clear hB hF hf x0 d0 d12
  go_wp2_with ((with_reducible refine wpList_here (.load 39 (.tmp 3)) rfl ?_); refine wpList_load_box 39 (.tmp 3) rfl _ rfl _ hB2 _ Tryz.underlying39 rfl Tryz.infoEv rfl ?_)
  refine (HO.out _ hF2).mono ?_
  rintro e w3 ⟨rfl, hf⟩
  go_wp2_with fail
  go_ret
  exact ⟨rfl, hF2.trans hf⟩
set_option maxRecDepth 100000 in
set_option maxHeartbeats 4000000 in
theorem may7K4F_c (L : List Ev) (v : Value) (p : Nat) (w : World) (h : HisAt w p v L) (x : Ev) (t r : Value) (ht : RdM w t x.txn) (hr : RdR w r x.reads) (ok : x.Ok) (hm : x.may = true) (hk : x.kind = 4) {c : Ev} {M : List Ev} (hc : L = c :: M) (h4 : c.cfg.model ≠ 4) :
    Calls Tryz.prog 16 #[.pointer (some ⟨p, 0, none⟩), x.val t r] w fun e w' => e = .returned (.int .i64 (endsWhy L x : Nat)) ∧ Fr w w' := by
  obtain ⟨ta, tn, tc, rfl⟩ := ht.slice
  obtain ⟨ra, rn, rc, rfl⟩ := hr.slice
  obtain ⟨la, cap, rfl, hcap, hmax, _⟩ := id h.rd
  unfold maxLen at hmax
  have hM := fun W (f : Fr w W) => rMayE_c x (x.val (.slice ta tn tc) (.slice ra rn rc)) W ⟨_, _, rfl, ht.keep f, hr.keep f⟩ ok
  have hb0 := BoxAt.new w (x.cells (.slice ta tn tc) (.slice ra rn rc)) 39
  have hF0 := (Fr.refl w).alloc (.cells (x.cells (.slice ta tn tc) (.slice ra rn rc)) 39)
  have c0 := h.at0
  have hpl := h.lt
  rw [hm] at hM
  have HM := Lib.hid hM

  have hO := fun W (f : Fr w W) => ends7_c L _ p W (h.fr f) x _ _ (ht.keep f) (hr.keep f)
  generalize endsWhy L x = S at hO ⊢
  have HO := Lib.hid hO
  have hop := fun W => opens7_c x (.slice ta tn tc) (.slice ra rn rc) W
  rw [show x.opens = false by unfold Ev.opens; rw [hk]; rfl] at hop
  have HOP := Lib.hid hop
  clear hO hop

  obtain ⟨b1, o1, t1, r1, rfl, hb1, hx, hm1, hm2⟩ := RdE.at (k := 0) h.rd (by rw [hc]; simp)
  have c12 : w.cell? ⟨b1, o1 + 12, none⟩ = some (.int .u8 c.cfg.model) := by have h1 := hx 12 _ rfl; simp only [hc] at h1; rw [Nat.zero_mul, Nat.add_zero] at h1; exact h1
  have hll : 0 < L.length := by rw [hc]; simp
  have hle : ((L.length : Int) == 0) = false := beq_eq_false_iff_ne.2 (by omega)
  clear hm1 hm2 hx
  have e1 : ((x.kind : Int) == 1) = false := by rw [hk]; rfl
  have e2 : ((x.kind : Int) == 2) = false := by rw [hk]; rfl
  have e3 : ((x.kind : Int) == 3) = false := by rw [hk]; rfl
  have e5 : ((x.kind : Int) == 5) = false := by rw [hk]; rfl
  have e6 : ((x.kind : Int) == 6) = false := by rw [hk]; rfl
  have e7 : ((x.kind : Int) == 7) = false := by rw [hk]; rfl
  have e4 : ((c.cfg.model : Int) == 4) = false := by exact beq_eq_false_iff_ne.2 (by omega)
  generalize c.cfg.model = m at c12 e4
  clear h ht hr ok hk h4 hc

  clear hm hM
  unfold Ev.val
  go_enter Tryz.func16, Tryz.ntmps16
  go_wp2_with ((with_reducible refine wpList_here (.load 39 (.tmp 3)) rfl ?_); refine wpList_load_box 39 (.tmp 3) rfl _ rfl _ hb0 _ Tryz.underlying39 rfl Tryz.infoEv rfl ?_)
  refine (HM.out _ hF0).mono ?_
  rintro e w1 ⟨rfl, hf⟩
  have hB := hb0.fr hf
  have hF := hF0.trans hf
  have x0 : w1.cell? ⟨w.heap.size, 0, none⟩ = some (.int .u8 x.kind) := hB.at 0 rfl
  have d0 := hF.keep c0
  have hlx := hB.lt
  have hlp := lt_of_cell d0
  simp only at hlp
  clear hf hb0 hF0 c0 hpl

  have d12 := hF.keep c12
  have hl1 := lt_of_cell d12
  simp only at hl1
  clear c12 hb1
  go_wp2_with ((with_reducible refine wpList_here (.load 39 (.tmp 3)) rfl ?_); refine wpList_load_box 39 (.tmp 3) rfl _ rfl _ hB _ Tryz.underlying39 rfl Tryz.infoEv rfl ?_)
  refine (HOP.out _).mono ?_
  rintro e w2 ⟨rfl, hf⟩
  have hB2 := hB.fr hf
  have hF2 := hF.trans hf
  clear hB hF hf x0 d0 d12
  go_wp2_with ((with_reducible refine wpList_here (.load 39 (.tmp 3)) rfl ?_); refine wpList_load_box 39 (.tmp 3) rfl _ rfl _ hB2 _ Tryz.underlying39 rfl Tryz.infoEv rfl ?_)
  refine (HO.out _ hF2).mono ?_
  rintro e w3 ⟨rfl, hf⟩
  go_wp2_with fail
  go_ret
  exact ⟨rfl, hF2.trans hf⟩
set_option maxRecDepth 100000 in
set_option maxHeartbeats 4000000 in
theorem may7K5T_c (L : List Ev) (v : Value) (p : Nat) (w : World) (h : HisAt w p v L) (x : Ev) (t r : Value) (ht : RdM w t x.txn) (hr : RdR w r x.reads) (ok : x.Ok) (hm : x.may = true) (hk : x.kind = 5) {c : Ev} {M : List Ev} (hc : L = c :: M) (h4 : c.cfg.model = 4) :
    Calls Tryz.prog 16 #[.pointer (some ⟨p, 0, none⟩), x.val t r] w fun e w' => e = .returned (.int .i64 (opensWhy L c.cfg.model x : Nat)) ∧ Fr w w' := by
  obtain ⟨ta, tn, tc, rfl⟩ := ht.slice
  obtain ⟨ra, rn, rc, rfl⟩ := hr.slice
  obtain ⟨la, cap, rfl, hcap, hmax, _⟩ := id h.rd
  unfold maxLen at hmax
  have hM := fun W (f : Fr w W) => rMayE_c x (x.val (.slice ta tn tc) (.slice ra rn rc)) W ⟨_, _, rfl, ht.keep f, hr.keep f⟩ ok
  have hb0 := BoxAt.new w (x.cells (.slice ta tn tc) (.slice ra rn rc)) 39
  have hF0 := (Fr.refl w).alloc (.cells (x.cells (.slice ta tn tc) (.slice ra rn rc)) 39)
  have c0 := h.at0
  have hpl := h.lt
  rw [hm] at hM
  have HM := Lib.hid hM

  have hO := fun W (f : Fr w W) => opens7w_c hc _ p W (h.fr f) x _ _ (ht.keep f) (hr.keep f) ok (Ev.may_txn hm)
  generalize opensWhy L c.cfg.model x = S at hO ⊢
  have HO := Lib.hid hO
  have hop := fun W => opens7_c x (.slice ta tn tc) (.slice ra rn rc) W
  rw [show x.opens = true by unfold Ev.opens; rw [hk]; rfl] at hop
  have HOP := Lib.hid hop
  clear hO hop

  obtain ⟨b1, o1, t1, r1, rfl, hb1, hx, hm1, hm2⟩ := RdE.at (k := 0) h.rd (by rw [hc]; simp)
  have c12 : w.cell? ⟨b1, o1 + 12, none⟩ = some (.int .u8 c.cfg.model) := by have h1 := hx 12 _ rfl; simp only [hc] at h1; rw [Nat.zero_mul, Nat.add_zero] at h1; exact h1
  have hll : 0 < L.length := by rw [hc]; simp
  have hle : ((L.length : Int) == 0) = false := beq_eq_false_iff_ne.2 (by omega)
  clear hm1 hm2 hx
  have e1 : ((x.kind : Int) == 1) = false := by rw [hk]; rfl
  have e2 : ((x.kind : Int) == 2) = false := by rw [hk]; rfl
  have e3 : ((x.kind : Int) == 3) = false := by rw [hk]; rfl
  have e5 : ((x.kind : Int) == 5) = true := by rw [hk]; rfl
  have e6 : ((x.kind : Int) == 6) = false := by rw [hk]; rfl
  have e7 : ((x.kind : Int) == 7) = false := by rw [hk]; rfl
  have e4 : ((c.cfg.model : Int) == 4) = true := by rw [h4]; rfl
  generalize c.cfg.model = m at c12 e4
  clear h ht hr ok hk h4 hc

  clear hm hM
  unfold Ev.val
  go_enter Tryz.func16, Tryz.ntmps16
  go_wp2_with ((with_reducible refine wpList_here (.load 39 (.tmp 3)) rfl ?_); refine wpList_load_box 39 (.tmp 3) rfl _ rfl _ hb0 _ Tryz.underlying39 rfl Tryz.infoEv rfl ?_)
  refine (HM.out _ hF0).mono ?_
  rintro e w1 ⟨rfl, hf⟩
  have hB := hb0.fr hf
  have hF := hF0.trans hf
  have x0 : w1.cell? ⟨w.heap.size, 0, none⟩ = some (.int .u8 x.kind) := hB.at 0 rfl
  have d0 := hF.keep c0
  have hlx := hB.lt
  have hlp := lt_of_cell d0
  simp only at hlp
  clear hf hb0 hF0 c0 hpl

  have d12 := hF.keep c12
  have hl1 := lt_of_cell d12
  simp only at hl1
  clear c12 hb1
  go_wp2_with ((with_reducible refine wpList_here (.load 39 (.tmp 3)) rfl ?_); refine wpList_load_box 39 (.tmp 3) rfl _ rfl _ hB _ Tryz.underlying39 rfl Tryz.infoEv rfl ?_)
  refine (HOP.out _).mono ?_
  rintro e w2 ⟨rfl, hf⟩
  have hB2 := hB.fr hf
  have hF2 := hF.trans hf
  clear hB hF hf x0 d0 d12
  go_wp2_with ((with_reducible refine wpList_here (.load 39 (.tmp 3)) rfl ?_); refine wpList_load_box 39 (.tmp 3) rfl _ rfl _ hB2 _ Tryz.underlying39 rfl Tryz.infoEv rfl ?_)
  refine (HO.out _ hF2).mono ?_
  rintro e w3 ⟨rfl, hf⟩
  go_wp2_with fail
  go_ret
  exact ⟨rfl, hF2.trans hf⟩
set_option maxRecDepth 100000 in
set_option maxHeartbeats 4000000 in
theorem may7K5F_c (L : List Ev) (v : Value) (p : Nat) (w : World) (h : HisAt w p v L) (x : Ev) (t r : Value) (ht : RdM w t x.txn) (hr : RdR w r x.reads) (ok : x.Ok) (hm : x.may = true) (hk : x.kind = 5) {c : Ev} {M : List Ev} (hc : L = c :: M) (h4 : c.cfg.model ≠ 4) :
    Calls Tryz.prog 16 #[.pointer (some ⟨p, 0, none⟩), x.val t r] w fun e w' => e = .returned (.int .i64 (10 : Nat)) ∧ Fr w w' := by
  obtain ⟨ta, tn, tc, rfl⟩ := ht.slice
  obtain ⟨ra, rn, rc, rfl⟩ := hr.slice
  obtain ⟨la, cap, rfl, hcap, hmax, _⟩ := id h.rd
  unfold maxLen at hmax
  have hM := fun W (f : Fr w W) => rMayE_c x (x.val (.slice ta tn tc) (.slice ra rn rc)) W ⟨_, _, rfl, ht.keep f, hr.keep f⟩ ok
  have hb0 := BoxAt.new w (x.cells (.slice ta tn tc) (.slice ra rn rc)) 39
  have hF0 := (Fr.refl w).alloc (.cells (x.cells (.slice ta tn tc) (.slice ra rn rc)) 39)
  have c0 := h.at0
  have hpl := h.lt
  rw [hm] at hM
  have HM := Lib.hid hM

  obtain ⟨b1, o1, t1, r1, rfl, hb1, hx, hm1, hm2⟩ := RdE.at (k := 0) h.rd (by rw [hc]; simp)
  have c12 : w.cell? ⟨b1, o1 + 12, none⟩ = some (.int .u8 c.cfg.model) := by have h1 := hx 12 _ rfl; simp only [hc] at h1; rw [Nat.zero_mul, Nat.add_zero] at h1; exact h1
  have hll : 0 < L.length := by rw [hc]; simp
  have hle : ((L.length : Int) == 0) = false := beq_eq_false_iff_ne.2 (by omega)
  clear hm1 hm2 hx
  have e1 : ((x.kind : Int) == 1) = false := by rw [hk]; rfl
  have e2 : ((x.kind : Int) == 2) = false := by rw [hk]; rfl
  have e3 : ((x.kind : Int) == 3) = false := by rw [hk]; rfl
  have e5 : ((x.kind : Int) == 5) = true := by rw [hk]; rfl
  have e6 : ((x.kind : Int) == 6) = false := by rw [hk]; rfl
  have e7 : ((x.kind : Int) == 7) = false := by rw [hk]; rfl
  have e4 : ((c.cfg.model : Int) == 4) = false := by exact beq_eq_false_iff_ne.2 (by omega)
  generalize c.cfg.model = m at c12 e4
  clear h ht hr ok hk h4 hc

  clear hm hM
  unfold Ev.val
  go_enter Tryz.func16, Tryz.ntmps16
  go_wp2_with ((with_reducible refine wpList_here (.load 39 (.tmp 3)) rfl ?_); refine wpList_load_box 39 (.tmp 3) rfl _ rfl _ hb0 _ Tryz.underlying39 rfl Tryz.infoEv rfl ?_)
  refine (HM.out _ hF0).mono ?_
  rintro e w1 ⟨rfl, hf⟩
  have hB := hb0.fr hf
  have hF := hF0.trans hf
  have x0 : w1.cell? ⟨w.heap.size, 0, none⟩ = some (.int .u8 x.kind) := hB.at 0 rfl
  have d0 := hF.keep c0
  have hlx := hB.lt
  have hlp := lt_of_cell d0
  simp only at hlp
  clear hf hb0 hF0 c0 hpl

  have d12 := hF.keep c12
  have hl1 := lt_of_cell d12
  simp only at hl1
  clear c12 hb1
  go_wp2_with fail
  go_ret
  exact ⟨rfl, hF⟩
set_option maxRecDepth 100000 in
set_option maxHeartbeats 4000000 in
theorem may7K6T_c (L : List Ev) (v : Value) (p : Nat) (w : World) (h : HisAt w p v L) (x : Ev) (t r : Value) (ht : RdM w t x.txn) (hr : RdR w r x.reads) (ok : x.Ok) (hm : x.may = true) (hk : x.kind = 6) {c : Ev} {M : List Ev} (hc : L = c :: M) (h4 : c.cfg.model = 4) :
    Calls Tryz.prog 16 #[.pointer (some ⟨p, 0, none⟩), x.val t r] w fun e w' => e = .returned (.int .i64 (endsWhy L x : Nat)) ∧ Fr w w' := by
  obtain ⟨ta, tn, tc, rfl⟩ := ht.slice
  obtain ⟨ra, rn, rc, rfl⟩ := hr.slice
  obtain ⟨la, cap, rfl, hcap, hmax, _⟩ := id h.rd
  unfold maxLen at hmax
  have hM := fun W (f : Fr w W) => rMayE_c x (x.val (.slice ta tn tc) (.slice ra rn rc)) W ⟨_, _, rfl, ht.keep f, hr.keep f⟩ ok
  have hb0 := BoxAt.new w (x.cells (.slice ta tn tc) (.slice ra rn rc)) 39
  have hF0 := (Fr.refl w).alloc (.cells (x.cells (.slice ta tn tc) (.slice ra rn rc)) 39)
  have c0 := h.at0
  have hpl := h.lt
  rw [hm] at hM
  have HM := Lib.hid hM

  have hO := fun W (f : Fr w W) => ends7_c L _ p W (h.fr f) x _ _ (ht.keep f) (hr.keep f)
  generalize endsWhy L x = S at hO ⊢
  have HO := Lib.hid hO
  have hop := fun W => opens7_c x (.slice ta tn tc) (.slice ra rn rc) W
  rw [show x.opens = false by unfold Ev.opens; rw [hk]; rfl] at hop
  have HOP := Lib.hid hop
  clear hO hop

  obtain ⟨b1, o1, t1, r1, rfl, hb1, hx, hm1, hm2⟩ := RdE.at (k := 0) h.rd (by rw [hc]; simp)
  have c12 : w.cell? ⟨b1, o1 + 12, none⟩ = some (.int .u8 c.cfg.model) := by have h1 := hx 12 _ rfl; simp only [hc] at h1; rw [Nat.zero_mul, Nat.add_zero] at h1; exact h1
  have hll : 0 < L.length := by rw [hc]; simp
  have hle : ((L.length : Int) == 0) = false := beq_eq_false_iff_ne.2 (by omega)
  clear hm1 hm2 hx
  have e1 : ((x.kind : Int) == 1) = false := by rw [hk]; rfl
  have e2 : ((x.kind : Int) == 2) = false := by rw [hk]; rfl
  have e3 : ((x.kind : Int) == 3) = false := by rw [hk]; rfl
  have e5 : ((x.kind : Int) == 5) = false := by rw [hk]; rfl
  have e6 : ((x.kind : Int) == 6) = true := by rw [hk]; rfl
  have e7 : ((x.kind : Int) == 7) = false := by rw [hk]; rfl
  have e4 : ((c.cfg.model : Int) == 4) = true := by rw [h4]; rfl
  generalize c.cfg.model = m at c12 e4
  clear h ht hr ok hk h4 hc

  clear hm hM
  unfold Ev.val
  go_enter Tryz.func16, Tryz.ntmps16
  go_wp2_with ((with_reducible refine wpList_here (.load 39 (.tmp 3)) rfl ?_); refine wpList_load_box 39 (.tmp 3) rfl _ rfl _ hb0 _ Tryz.underlying39 rfl Tryz.infoEv rfl ?_)
  refine (HM.out _ hF0).mono ?_
  rintro e w1 ⟨rfl, hf⟩
  have hB := hb0.fr hf
  have hF := hF0.trans hf
  have x0 : w1.cell? ⟨w.heap.size, 0, none⟩ = some (.int .u8 x.kind) := hB.at 0 rfl
  have d0 := hF.keep c0
  have hlx := hB.lt
  have hlp := lt_of_cell d0
  simp only at hlp
  clear hf hb0 hF0 c0 hpl

  have d12 := hF.keep c12
  have hl1 := lt_of_cell d12
  simp only at hl1
  clear c12 hb1
  go_wp2_with ((with_reducible refine wpList_here (.load 39 (.tmp 3)) rfl ?_); refine wpList_load_box 39 (.tmp 3) rfl _ rfl _ hB _ Tryz.underlying39 rfl Tryz.infoEv rfl ?_)
  refine (HOP.out _).mono ?_
  rintro e w2 ⟨rfl, hf⟩
  have hB2 := hB.fr hf
  have hF2 := hF.trans hf
  clear hB hF hf x0 d0 d12
  go_wp2_with ((with_reducible refine wpList_here (.load 39 (.tmp 3)) rfl ?_); refine wpList_load_box 39 (.tmp 3) rfl _ rfl _ hB2 _ Tryz.underlying39 rfl Tryz.infoEv rfl ?_)
  refine (HO.out _ hF2).mono ?_
  rintro e w3 ⟨rfl, hf⟩
  go_wp2_with fail
  go_ret
  exact ⟨rfl, hF2.trans hf⟩
set_option maxRecDepth 100000 in
set_option maxHeartbeats 4000000 in
theorem may7K6F_c (L : List Ev) (v : Value) (p : Nat) (w : World) (h : HisAt w p v L) (x : Ev) (t r : Value) (ht : RdM w t x.txn) (hr : RdR w r x.reads) (ok : x.Ok) (hm : x.may = true) (hk : x.kind = 6) {c : Ev} {M : List Ev} (hc : L = c :: M) (h4 : c.cfg.model ≠ 4) :
    Calls Tryz.prog 16 #[.pointer (some ⟨p, 0, none⟩), x.val t r] w fun e w' => e = .returned (.int .i64 (10 : Nat)) ∧ Fr w w' := by
  obtain ⟨ta, tn, tc, rfl⟩ := ht.slice
  obtain ⟨ra, rn, rc, rfl⟩ := hr.slice
  obtain ⟨la, cap, rfl, hcap, hmax, _⟩ := id h.rd
  unfold maxLen at hmax
  have hM := fun W (f : Fr w W) => rMayE_c x (x.val (.slice ta tn tc) (.slice ra rn rc)) W ⟨_, _, rfl, ht.keep f, hr.keep f⟩ ok
  have hb0 := BoxAt.new w (x.cells (.slice ta tn tc) (.slice ra rn rc)) 39
  have hF0 := (Fr.refl w).alloc (.cells (x.cells (.slice ta tn tc) (.slice ra rn rc)) 39)
  have c0 := h.at0
  have hpl := h.lt
  rw [hm] at hM
  have HM := Lib.hid hM

  obtain ⟨b1, o1, t1, r1, rfl, hb1, hx, hm1, hm2⟩ := RdE.at (k := 0) h.rd (by rw [hc]; simp)
  have c12 : w.cell? ⟨b1, o1 + 12, none⟩ = some (.int .u8 c.cfg.model) := by have h1 := hx 12 _ rfl; simp only [hc] at h1; rw [Nat.zero_mul, Nat.add_zero] at h1; exact h1
  have hll : 0 < L.length := by rw [hc]; simp
  have hle : ((L.length : Int) == 0) = false := beq_eq_false_iff_ne.2 (by omega)
  clear hm1 hm2 hx
  have e1 : ((x.kind : Int) == 1) = false := by rw [hk]; rfl
  have e2 : ((x.kind : Int) == 2) = false := by rw [hk]; rfl
  have e3 : ((x.kind : Int) == 3) = false := by rw [hk]; rfl
  have e5 : ((x.kind : Int) == 5) = false := by rw [hk]; rfl
  have e6 : ((x.kind : Int) == 6) = true := by rw [hk]; rfl
  have e7 : ((x.kind : Int) == 7) = false := by rw [hk]; rfl
  have e4 : ((c.cfg.model : Int) == 4) = false := by exact beq_eq_false_iff_ne.2 (by omega)
  generalize c.cfg.model = m at c12 e4
  clear h ht hr ok hk h4 hc

  clear hm hM
  unfold Ev.val
  go_enter Tryz.func16, Tryz.ntmps16
  go_wp2_with ((with_reducible refine wpList_here (.load 39 (.tmp 3)) rfl ?_); refine wpList_load_box 39 (.tmp 3) rfl _ rfl _ hb0 _ Tryz.underlying39 rfl Tryz.infoEv rfl ?_)
  refine (HM.out _ hF0).mono ?_
  rintro e w1 ⟨rfl, hf⟩
  have hB := hb0.fr hf
  have hF := hF0.trans hf
  have x0 : w1.cell? ⟨w.heap.size, 0, none⟩ = some (.int .u8 x.kind) := hB.at 0 rfl
  have d0 := hF.keep c0
  have hlx := hB.lt
  have hlp := lt_of_cell d0
  simp only at hlp
  clear hf hb0 hF0 c0 hpl

  have d12 := hF.keep c12
  have hl1 := lt_of_cell d12
  simp only at hl1
  clear c12 hb1
  go_wp2_with fail
  go_ret
  exact ⟨rfl, hF⟩
set_option maxRecDepth 100000 in
set_option maxHeartbeats 4000000 in
theorem may7K7T_c (L : List Ev) (v : Value) (p : Nat) (w : World) (h : HisAt w p v L) (x : Ev) (t r : Value) (ht : RdM w t x.txn) (hr : RdR w r x.reads) (ok : x.Ok) (hm : x.may = true) (hk : x.kind = 7) {c : Ev} {M : List Ev} (hc : L = c :: M) (h4 : c.cfg.model = 4) :
    Calls Tryz.prog 16 #[.pointer (some ⟨p, 0, none⟩), x.val t r] w fun e w' => e = .returned (.int .i64 (endsWhy L x : Nat)) ∧ Fr w w' := by
  obtain ⟨ta, tn, tc, rfl⟩ := ht.slice
  obtain ⟨ra, rn, rc, rfl⟩ := hr.slice
  obtain ⟨la, cap, rfl, hcap, hmax, _⟩ := id h.rd
  unfold maxLen at hmax
  have hM := fun W (f : Fr w W) => rMayE_c x (x.val (.slice ta tn tc) (.slice ra rn rc)) W ⟨_, _, rfl, ht.keep f, hr.keep f⟩ ok
  have hb0 := BoxAt.new w (x.cells (.slice ta tn tc) (.slice ra rn rc)) 39
  have hF0 := (Fr.refl w).alloc (.cells (x.cells (.slice ta tn tc) (.slice ra rn rc)) 39)
  have c0 := h.at0
  have hpl := h.lt
  rw [hm] at hM
  have HM := Lib.hid hM

  have hO := fun W (f : Fr w W) => ends7_c L _ p W (h.fr f) x _ _ (ht.keep f) (hr.keep f)
  generalize endsWhy L x = S at hO ⊢
  have HO := Lib.hid hO
  have hop := fun W => opens7_c x (.slice ta tn tc) (.slice ra rn rc) W
  rw [show x.opens = false by unfold Ev.opens; rw [hk]; rfl] at hop
  have HOP := Lib.hid hop
  clear hO hop

  obtain ⟨b1, o1, t1, r1, rfl, hb1, hx, hm1, hm2⟩ := RdE.at (k := 0) h.rd (by rw [hc]; simp)
  have c12 : w.cell? ⟨b1, o1 + 12, none⟩ = some (.int .u8 c.cfg.model) := by have h1 := hx 12 _ rfl; simp only [hc] at h1; rw [Nat.zero_mul, Nat.add_zero] at h1; exact h1
  have hll : 0 < L.length := by rw [hc]; simp
  have hle : ((L.length : Int) == 0) = false := beq_eq_false_iff_ne.2 (by omega)
  clear hm1 hm2 hx
  have e1 : ((x.kind : Int) == 1) = false := by rw [hk]; rfl
  have e2 : ((x.kind : Int) == 2) = false := by rw [hk]; rfl
  have e3 : ((x.kind : Int) == 3) = false := by rw [hk]; rfl
  have e5 : ((x.kind : Int) == 5) = false := by rw [hk]; rfl
  have e6 : ((x.kind : Int) == 6) = false := by rw [hk]; rfl
  have e7 : ((x.kind : Int) == 7) = true := by rw [hk]; rfl
  have e4 : ((c.cfg.model : Int) == 4) = true := by rw [h4]; rfl
  generalize c.cfg.model = m at c12 e4
  clear h ht hr ok hk h4 hc

  clear hm hM
  unfold Ev.val
  go_enter Tryz.func16, Tryz.ntmps16
  go_wp2_with ((with_reducible refine wpList_here (.load 39 (.tmp 3)) rfl ?_); refine wpList_load_box 39 (.tmp 3) rfl _ rfl _ hb0 _ Tryz.underlying39 rfl Tryz.infoEv rfl ?_)
  refine (HM.out _ hF0).mono ?_
  rintro e w1 ⟨rfl, hf⟩
  have hB := hb0.fr hf
  have hF := hF0.trans hf
  have x0 : w1.cell? ⟨w.heap.size, 0, none⟩ = some (.int .u8 x.kind) := hB.at 0 rfl
  have d0 := hF.keep c0
  have hlx := hB.lt
  have hlp := lt_of_cell d0
  simp only at hlp
  clear hf hb0 hF0 c0 hpl

  have d12 := hF.keep c12
  have hl1 := lt_of_cell d12
  simp only at hl1
  clear c12 hb1
  go_wp2_with ((with_reducible refine wpList_here (.load 39 (.tmp 3)) rfl ?_); refine wpList_load_box 39 (.tmp 3) rfl _ rfl _ hB _ Tryz.underlying39 rfl Tryz.infoEv rfl ?_)
  refine (HOP.out _).mono ?_
  rintro e w2 ⟨rfl, hf⟩
  have hB2 := hB.fr hf
  have hF2 := hF.trans hf
  clear hB hF hf x0 d0 d12
  go_wp2_with ((with_reducible refine wpList_here (.load 39 (.tmp 3)) rfl ?_); refine wpList_load_box 39 (.tmp 3) rfl _ rfl _ hB2 _ Tryz.underlying39 rfl Tryz.infoEv rfl ?_)
  refine (HO.out _ hF2).mono ?_
  rintro e w3 ⟨rfl, hf⟩
  go_wp2_with fail
  go_ret
  exact ⟨rfl, hF2.trans hf⟩
set_option maxRecDepth 100000 in
set_option maxHeartbeats 4000000 in
theorem may7K7F_c (L : List Ev) (v : Value) (p : Nat) (w : World) (h : HisAt w p v L) (x : Ev) (t r : Value) (ht : RdM w t x.txn) (hr : RdR w r x.reads) (ok : x.Ok) (hm : x.may = true) (hk : x.kind = 7) {c : Ev} {M : List Ev} (hc : L = c :: M) (h4 : c.cfg.model ≠ 4) :
    Calls Tryz.prog 16 #[.pointer (some ⟨p, 0, none⟩), x.val t r] w fun e w' => e = .returned (.int .i64 (10 : Nat)) ∧ Fr w w' := by
  obtain ⟨ta, tn, tc, rfl⟩ := ht.slice
  obtain ⟨ra, rn, rc, rfl⟩ := hr.slice
  obtain ⟨la, cap, rfl, hcap, hmax, _⟩ := id h.rd
  unfold maxLen at hmax
  have hM := fun W (f : Fr w W) => rMayE_c x (x.val (.slice ta tn tc) (.slice ra rn rc)) W ⟨_, _, rfl, ht.keep f, hr.keep f⟩ ok
  have hb0 := BoxAt.new w (x.cells (.slice ta tn tc) (.slice ra rn rc)) 39
  have hF0 := (Fr.refl w).alloc (.cells (x.cells (.slice ta tn tc) (.slice ra rn rc)) 39)
  have c0 := h.at0
  have hpl := h.lt
  rw [hm] at hM
  have HM := Lib.hid hM

  obtain ⟨b1, o1, t1, r1, rfl, hb1, hx, hm1, hm2⟩ := RdE.at (k := 0) h.rd (by rw [hc]; simp)
  have c12 : w.cell? ⟨b1, o1 + 12, none⟩ = some (.int .u8 c.cfg.model) := by have h1 := hx 12 _ rfl; simp only [hc] at h1; rw [Nat.zero_mul, Nat.add_zero] at h1; exact h1
  have hll : 0 < L.length := by rw [hc]; simp
  have hle : ((L.length : Int) == 0) = false := beq_eq_false_iff_ne.2 (by omega)
  clear hm1 hm2 hx
  have e1 : ((x.kind : Int) == 1) = false := by rw [hk]; rfl
  have e2 : ((x.kind : Int) == 2) = false := by rw [hk]; rfl
  have e3 : ((x.kind : Int) == 3) = false := by rw [hk]; rfl
  have e5 : ((x.kind : Int) == 5) = false := by rw [hk]; rfl
  have e6 : ((x.kind : Int) == 6) = false := by rw [hk]; rfl
  have e7 : ((x.kind : Int) == 7) = true := by rw [hk]; rfl
  have e4 : ((c.cfg.model : Int) == 4) = false := by exact beq_eq_false_iff_ne.2 (by omega)
  generalize c.cfg.model = m at c12 e4
  clear h ht hr ok hk h4 hc

  clear hm hM
  unfold Ev.val
  go_enter Tryz.func16, Tryz.ntmps16
  go_wp2_with ((with_reducible refine wpList_here (.load 39 (.tmp 3)) rfl ?_); refine wpList_load_box 39 (.tmp 3) rfl _ rfl _ hb0 _ Tryz.underlying39 rfl Tryz.infoEv rfl ?_)
  refine (HM.out _ hF0).mono ?_
  rintro e w1 ⟨rfl, hf⟩
  have hB := hb0.fr hf
  have hF := hF0.trans hf
  have x0 : w1.cell? ⟨w.heap.size, 0, none⟩ = some (.int .u8 x.kind) := hB.at 0 rfl
  have d0 := hF.keep c0
  have hlx := hB.lt
  have hlp := lt_of_cell d0
  simp only at hlp
  clear hf hb0 hF0 c0 hpl

  have d12 := hF.keep c12
  have hl1 := lt_of_cell d12
  simp only at hl1
  clear c12 hb1
  go_wp2_with fail
  go_ret
  exact ⟨rfl, hF⟩
theorem may7_c (L : List Ev) (v : Value) (p : Nat) (w : World) (h : HisAt w p v L) (x : Ev) (t r : Value) (ht : RdM w t x.txn) (hr : RdR w r x.reads) (ok : x.Ok) :
    Calls Tryz.prog 16 #[.pointer (some ⟨p, 0, none⟩), x.val t r] w fun e w' => e = .returned (.int .i64 (stepWhy L x : Nat)) ∧ Fr w w' := by
  unfold stepWhy
  cases hm : x.may
  · rw [if_pos rfl]; exact may7No_c L v p w h x t r ht hr ok hm
  · rw [if_neg (by simp)]
    by_cases h1 : x.kind = 1
    · rw [if_pos h1]
      by_cases hL : L = []
      · rw [if_pos hL]; exact may7Cfg0_c L v p w h x t r ht hr ok hm h1 hL
      · rw [if_neg hL]; exact may7Cfg_c L v p w h x t r ht hr ok hm h1 hL
    · rw [if_neg h1]
      cases hL : L with
      | nil => exact may7Nil_c L v p w h x t r ht hr ok hm h1 hL
      | cons c M =>
        simp only
        rw [← hL]
        obtain ⟨k1, k7⟩ := may_kind hm
        have hK : x.kind = 2 ∨ x.kind = 3 ∨ x.kind = 4 ∨ x.kind = 5 ∨ x.kind = 6 ∨ x.kind = 7 := by omega
        by_cases h4 : c.cfg.model = 4
        · rcases hK with hk | hk | hk | hk | hk | hk
          · rw [if_pos (by simp [foreign, hk, h4])]; exact may7K2T_c L v p w h x t r ht hr ok hm hk hL h4
          · rw [if_pos (by simp [foreign, hk, h4])]; exact may7K3T_c L v p w h x t r ht hr ok hm hk hL h4
          · rw [if_neg (by simp [foreign, hk, h4]), if_neg (by simp [Ev.opens, hk])]; exact may7K4T_c L v p w h x t r ht hr ok hm hk hL h4
          · rw [if_neg (by simp [foreign, hk, h4]), if_pos (by simp [Ev.opens, hk])]; exact may7K5T_c L v p w h x t r ht hr ok hm hk hL h4
          · rw [if_neg (by simp [foreign, hk, h4]), if_neg (by simp [Ev.opens, hk])]; exact may7K6T_c L v p w h x t r ht hr ok hm hk hL h4
          · rw [if_neg (by simp [foreign, hk, h4]), if_neg (by simp [Ev.opens, hk])]; exact may7K7T_c L v p w h x t r ht hr ok hm hk hL h4
        · rcases hK with hk | hk | hk | hk | hk | hk
          · rw [if_neg (by simp [foreign, hk, h4]), if_pos (by simp [Ev.opens, hk])]; exact may7K2F_c L v p w h x t r ht hr ok hm hk hL h4
          · rw [if_neg (by simp [foreign, hk, h4]), if_neg (by simp [Ev.opens, hk])]; exact may7K3F_c L v p w h x t r ht hr ok hm hk hL h4
          · rw [if_neg (by simp [foreign, hk, h4]), if_neg (by simp [Ev.opens, hk])]; exact may7K4F_c L v p w h x t r ht hr ok hm hk hL h4
          · rw [if_pos (by simp [foreign, hk, h4])]; exact may7K5F_c L v p w h x t r ht hr ok hm hk hL h4
          · rw [if_pos (by simp [foreign, hk, h4])]; exact may7K6F_c L v p w h x t r ht hr ok hm hk hL h4
          · rw [if_pos (by simp [foreign, hk, h4])]; exact may7K7F_c L v p w h x t r ht hr ok hm hk hL h4
set_option maxRecDepth 100000 in
set_option maxHeartbeats 4000000 in
/-- Refused: the list stays. -/
theorem step7No_c (L : List Ev) (v : Value) (p : Nat) (w : World) (h : HisAt w p v L) (x : Ev) (t r : Value) (ht : RdM w t x.txn) (hr : RdR w r x.reads) (ok : x.Ok) (hs : stepWhy L x ≠ 0) :
    Calls Tryz.prog 7 #[.pointer (some ⟨p, 0, none⟩), x.val t r] w fun e w' => e = .returned (.int .i64 (stepWhy L x : Nat)) ∧ Fr w w' := by
  obtain ⟨ta, tn, tc, rfl⟩ := ht.slice
  obtain ⟨ra, rn, rc, rfl⟩ := hr.slice
  have hM := fun W (f : Fr w W) => may7_c L v p W (h.fr f) x _ _ (ht.keep f) (hr.keep f) ok
  have hb0 := BoxAt.new w (x.cells (.slice ta tn tc) (.slice ra rn rc)) 39
  have hF0 := (Fr.refl w).alloc (.cells (x.cells (.slice ta tn tc) (.slice ra rn rc)) 39)
  generalize stepWhy L x = S at hM hs ⊢
  have es : ((S : Int) == 0) = false := beq_eq_false_iff_ne.2 (by omega)
  have HM := Lib.hid hM
  clear hM h ht hr ok hs
  unfold Ev.val
  go_enter Tryz.func7, Tryz.ntmps7
  go_wp2_with ((with_reducible refine wpList_here (.load 39 (.tmp 3)) rfl ?_); refine wpList_load_box 39 (.tmp 3) rfl _ rfl _ hb0 _ Tryz.underlying39 rfl Tryz.infoEv rfl ?_)
  refine (HM.out _ hF0).mono ?_
  rintro e w1 ⟨rfl, hf⟩
  have hF := hF0.trans hf
  clear hf hb0 hF0
  go_wp2_with fail
  go_ret
  exact ⟨rfl, hF⟩
end Go.Proofs.YtdjjjnoecfbjeaaGreatDoor
