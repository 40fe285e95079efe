/- Whether a client may open something. No condition but that the automaton and the event can be read, and the numbers' bounds. -/
import Derived.Test.YtdjjjnoecfbjeaaGreatDoorPHisAut
import Derived.BigRegion
import Derived.BigQuiet
import Derived.Test.YtdjjjnoecfbjeaaGreatDoorPArms
set_option linter.all false
set_option linter.unusedVariables false
set_option linter.unusedSimpArgs false
set_option linter.unnecessarySimpa false
/- Whether a client may open something. No condition but that the automaton and the event can be read, and the numbers' bounds. -/
namespace Go.Proofs.YtdjjjnoecfbjeaaGreatDoor
open Go.RowKit
open Go.Maps (Keyed)
open Go.ChangeMaps Go.MapKept
attribute [local go_sem] Oper.semAt_some

theorem AutAt.last {w : World} {p : Nat} {cv : Value} {pv : List Value} {bm n : Nat} {D : DataW Unit} {L : List Ev} (h : AutAt w p cv pv bm n D L) : w.cell? ⟨p, 17, none⟩ = some (.int .i64 (lastId L)) := h.box.at 17 (aut_17 h.len)
theorem AutAt.mapc {w : World} {p : Nat} {cv : Value} {pv : List Value} {bm n : Nat} {D : DataW Unit} {L : List Ev} (h : AutAt w p cv pv bm n D L) : w.cell? ⟨p, 18, none⟩ = some (.map (some bm)) := h.box.at 18 (aut_18 h.len)
set_option maxRecDepth 100000 in
theorem opensBusy_c {p : Nat} {cv : Value} {pv : List Value} {bm n : Nat} {D : DataW Unit} {L : List Ev} (w : World) (h : AutAt w p cv pv bm n D L) (x : Ev) (t r : Value) (hc : x.client < 16) {q : Ev} (hp : pend L x.client = some q) :
    Calls Tryz.prog 34 #[.pointer (some ⟨p, 0, none⟩), x.val t r] w fun e w' => e = .returned (.int .i64 9) ∧ Fr w w' := by
  obtain ⟨v, _, hv, hP⟩ := aut_client h hc
  have hlt := h.box.lt
  rw [hp] at hP
  obtain ⟨b, hb, _⟩ := hP
  subst hb
  clear h hp
  unfold Ev.val
  go_enter Tryz.func34, Tryz.ntmps34
  go_wp2_with fail
  go_quiet (fail)
  go_wp2_with fail
  go_ret
  exact ⟨rfl, by repeat (first | exact Fr.refl _ | apply Fr.alloc | apply Fr.drew | apply Fr.drewN)⟩
set_option maxRecDepth 100000 in
theorem opensThere_c {p : Nat} {cv : Value} {pv : List Value} {bm n : Nat} {D : DataW Unit} {L : List Ev} (w : World) (h : AutAt w p cv pv bm n D L) (x : Ev) (t r : Value) (hc : x.client < 16) (hp : pend L x.client = none) (hi : (x.id : Int) ≤ lastId L) (hid : x.id < 65536) :
    Calls Tryz.prog 34 #[.pointer (some ⟨p, 0, none⟩), x.val t r] w fun e w' => e = .returned (.int .i64 8) ∧ Fr w w' := by
  obtain ⟨v, _, hv, hP⟩ := aut_client h hc
  have hlt := h.box.lt
  have c17 := h.last
  rw [hp] at hP
  change v = _ at hP
  subst hP
  clear h hp
  unfold Ev.val
  go_enter Tryz.func34, Tryz.ntmps34
  go_wp2_with fail
  go_quiet (fail)
  go_wp2_with fail
  go_quiet (fail)
  go_wp2_with fail
  go_ret
  exact ⟨rfl, by repeat (first | exact Fr.refl _ | apply Fr.alloc | apply Fr.drew | apply Fr.drewN)⟩
set_option maxRecDepth 100000 in
theorem opensInvoke_c {p : Nat} {cv : Value} {pv : List Value} {bm n : Nat} {D : DataW Unit} {c : Ev} {L : List Ev} (w : World) (h : AutAt w p cv pv bm n D (c :: L)) (hE : Env w) (x : Ev) (t r : Value) (hc : x.client < 16) (hp : pend (c :: L) x.client = none) (hi : ¬ (x.id : Int) ≤ lastId (c :: L)) (hid : x.id < 65536) (h2 : x.kind = 2) (hF : x.op.F ≤ 255) :
    Calls Tryz.prog 34 #[.pointer (some ⟨p, 0, none⟩), x.val t r] w fun e w' => e = .returned (.int .i64 (checkN c.cfg.model x.op.F x.op.O x.op.K x.op.A x.op.B)) ∧ Fr w w' := by
  obtain ⟨v, _, hv, hP⟩ := aut_client h hc
  have hlt := h.box.lt
  have c17 := h.last
  have c0 := h.box.at 0 (aut_0 _ _ _ _)
  have hcv := h.cfg
  rw [hp] at hP
  change v = _ at hP
  subst hP
  obtain ⟨b, rfl, hC⟩ := hcv
  have d0 : w.cell? ⟨b, 0, none⟩ = some (.int .u8 c.cfg.model) := hC.at 0 rfl
  have e2 : ((x.kind : Int) == 2) = true := by simp; omega
  have hCk := fun W (f : Fr w W) => Check_c c.cfg.model x.op.F x.op.O x.op.K x.op.A x.op.B W (hE.keep f) hF
  have HC := Lib.hid hCk
  clear h hp hC h2 hCk hE
  unfold Ev.val
  go_enter Tryz.func34, Tryz.ntmps34
  go_wp2_with fail
  go_quiet (fail)
  go_wp2_with fail
  go_quiet (fail)
  go_wp2_with fail
  refine wp_gen fun W hW => ?_
  have hB : BoxAt W w.heap.size (x.cells t r) 39 := by rw [hW]; exact BoxAt.new w _ _
  have hF : Fr w W := by rw [hW]; repeat (first | exact Fr.refl _ | apply Fr.alloc | apply Fr.drew | apply Fr.drewN)
  clear hW
  have k3 := FrW.cell (hB.at 3 rfl)
  have k4 := FrW.cell (hB.at 4 rfl)
  have k5 := FrW.cell (hB.at 5 rfl)
  have k6 := FrW.cell (hB.at 6 rfl)
  have k7 := FrW.cell (hB.at 7 rfl)
  have kc := FrW.cell (hF.keep c0)
  have kd := FrW.cell (hF.keep d0)
  clear hB c0 c17 d0
  refine wp_region_fr (by kernel_rfl) (by kernel_rfl) ?_
  repeat (go_big_quiet_step ((go_at_call 45; exact frq (HC.out _ (hF.trans (FrW.fr _))))))
  refine wpQuiet_nil ?_
  rintro w2 ⟨⟨_, hf2⟩, rfl⟩
  go_wp2_with fail
  go_ret
  exact ⟨rfl, hF.trans hf2⟩
set_option maxRecDepth 100000 in
set_option maxHeartbeats 1000000 in
theorem opensBegin_c {p : Nat} {cv : Value} {pv : List Value} {bm n : Nat} {D : DataW Unit} {L : List Ev} (w : World) (h : AutAt w p cv pv bm n D L) (x : Ev) (t r : Value) (ht : RdM w t x.txn) (hc : x.client < 16) (hp : pend L x.client = none) (hi : ¬ (x.id : Int) ≤ lastId L) (hid : x.id < 65536) (h2 : x.kind ≠ 2)
    (hok : ∀ m ∈ x.txn, m.key < 256 ∧ m.v < 65536) (hlen : x.txn.length ≤ 1000) :
    Calls Tryz.prog 34 #[.pointer (some ⟨p, 0, none⟩), x.val t r] w fun e w' => e = .returned (.int .i64 ((if readsOwn x.txn then 10 else if twice L x.txn then 8 else 0 : Nat) : Int)) ∧ Fr w w' := by
  obtain ⟨v, _, hv, hP⟩ := aut_client h hc
  have hlt := h.box.lt
  have c17 := h.last
  have c18 := h.mapc
  have hmap := h.map
  rw [hp] at hP
  change v = _ at hP
  subst hP
  have e2 : ((x.kind : Int) == 2) = false := by simp; omega
  have hmm := @run_makeMap Tryz.prog
  clear h hp h2
  obtain ⟨a, cap, rfl, hcap, hmax, hcs⟩ := ht
  unfold maxLen at hmax
  generalize hN : (if readsOwn x.txn then 10 else if twice L x.txn then 8 else 0 : Nat) = N
  have HN := Lib.hid hN
  clear hN
  unfold Ev.val
  go_enter Tryz.func34, Tryz.ntmps34
  go_wp2_with fail
  go_quiet (fail)
  go_wp2_with fail
  go_quiet (fail)
  refine gen_w fun W hW => ?_
  have hB : BoxAt W w.heap.size (x.cells (.slice a x.txn.length cap) r) 39 := by rw [hW]; exact BoxAt.new w _ _
  have hF : Fr w W := by rw [hW]; repeat (first | exact Fr.refl _ | apply Fr.alloc | apply Fr.drew | apply Fr.drewN)
  have k0 : W.cell? ⟨w.heap.size, 0, none⟩ = some (.int .u8 x.kind) := hB.at 0 rfl
  have k10 : W.cell? ⟨w.heap.size, 10, none⟩ = some (.slice a x.txn.length cap) := hB.at 10 rfl
  have hz : w.heap.size < W.heap.size := hB.lt
  clear hW hB hv c17
  go_wp2_with fail
  go_loopw [48] (fun i wr => ∃ (k N : Nat) (D : DataW Unit), k ≤ x.txn.length ∧ i = .int .i64 k ∧ N ≤ k ∧ Fr W wr ∧ wr.ownsMap Tryz.prog 5 (plainElem Tryz.prog 3) W.heap.size N D ∧ (∀ κ : Nat, D.atKey (.int .u8 κ) (.lit (.int .i64 0)) = .lit (.int .i64 (cntW (x.txn.take k) κ))) ∧ ∀ i (hi : i < x.txn.length), i < k → x.txn[i].read = true → cntW (x.txn.take i) x.txn[i].key = 0) (fun i _ => x.txn.length - (intOf i).toNat)
  case atStart => exact ⟨0, 0, .map [], Nat.zero_le _, rfl, Nat.le_refl _, (Fr.refl _).alloc _, World.ownsMap_made W _ _ _, fun κ => rfl, fun i _ hi => absurd hi (Nat.not_lt_zero _)⟩
  case round =>
    obtain ⟨k, N1, D1, hk, rfl, hN1, hfr, hown, hat, hpre⟩ := hrel
    by_cases hlt2 : k < x.txn.length
    · obtain ⟨b1, o1, rfl, hb1, d0, d1, d2⟩ := micSl hcs (hF.trans hfr) hlt2
      have hT := cntW_take hlt2
      have hle := cntW_le x.txn k x.txn[k].key
      have hk1 : k < cap := by omega
      have hkb := (hok _ (List.getElem_mem hlt2)).1
      have hyes := readsOwn_yes hlt2
      have hpre2 : (x.txn[k].read = true → cntW (x.txn.take k) x.txn[k].key = 0) → ∀ i (hi : i < x.txn.length), i < k + 1 → x.txn[i].read = true → cntW (x.txn.take i) x.txn[i].key = 0 := fun h0 i hi hik hr => by
        by_cases he : i < k
        · exact hpre i hi he hr
        · obtain rfl : i = k := by omega
          exact h0 hr
      have hl0 := look_int (ownsMap_fr hown ((Fr.refl wr).alloc (.cells #[.bool x.txn[k].read, .int .u8 x.txn[k].key, .int .u16 x.txn[k].v] 58))) u8Keyed Tryz.underlying84 (Maps.keyOf_int_mk (a := x.txn[k].key) Tryz.underlying5 (wf8 hkb)) (hat x.txn[k].key)
      have hown2 := ownsMap_fr hown ((Fr.refl wr).alloc (.cells #[.bool x.txn[k].read, .int .u8 x.txn[k].key, .int .u16 x.txn[k].v] 58))
      generalize hC : cntW (x.txn.take k) x.txn[k].key = C at hle hyes hl0 hpre2
      generalize hm : x.txn[k] = m at d0 d1 d2 hT hkb hyes hl0 hpre2 hC hown2
      obtain ⟨rd, key, mv⟩ := m
      simp only at d0 d1 d2 hT hkb hyes hl0 hpre2 hC hown2
      have HT := Lib.hid hT
      have HY := Lib.hid hyes
      have HP := Lib.hid hpre2
      have HA := Lib.hid hat
      clear hT hyes hpre hpre2 hat hcs
      cases rd
      · have hwfC : (Lit.int .i64 ((C : Int) + 1)).wf = true := by
          simp only [Lit.wf, IntKind.min, IntKind.max, IntKind.signed, IntKind.bits, Bool.and_eq_true, decide_eq_true_eq, if_true]
          omega
        obtain ⟨w3, hup, hown3, hturn⟩ := hown2.store u8Keyed Tryz.underlying84 (by unfold maxLen; omega) (Maps.keyOf_int_mk (a := key) Tryz.underlying5 (wf8 hkb)) (plainElem_int Tryz.underlying3 hwfC)
        have hf3 : Fr W w3 := turned_fr (hfr.alloc _) hturn (Nat.le_refl _)
        have HM := hown2.isMap
        have HO := Lib.hid hown3
        clear hown hown2 hown3 hturn hwfC hmap
        go_wp2_with fail
        go_roundw
        case rel =>
          refine ⟨k + 1, N1 + 1, _, by omega, by go_num, by omega, hf3, HO.out, fun κ => ?_, HP.out (fun h => by cases h)⟩
          rw [HT.out]
          by_cases hκ : key = κ
          · subst hκ
            rw [Maps.atKey_put_same HM (by trivial)]
            rw [if_pos ⟨rfl, rfl⟩, hC]
            rfl
          · rw [Maps.atKey_put_other (fun e => hκ (by simp at e; omega)), HA.out, if_neg (fun h => hκ h.2)]
            rfl
        case measure => simp [intOf]; omega
      · have hAT : ∀ κ, cntW (x.txn.take (k + 1)) κ = cntW (x.txn.take k) κ := fun κ => by rw [HT.out]; simp
        by_cases hC0 : 0 < C
        · have hI : (0 : Int) < C := by omega
          have hR := HY.out rfl hC0
          have hN := HN.out
          rw [hR, if_pos rfl] at hN
          subst hN
          have hF2 := hF.trans (hfr.alloc (.cells #[.bool true, .int .u8 key, .int .u16 mv] 58))
          clear hC0 hown hown2 hmap HN hR
          go_wp2_with fail
          go_ret
          exact ⟨rfl, hF2⟩
        · obtain rfl : C = 0 := by omega
          have HO := Lib.hid hown
          clear hC0 hown hown2 hmap
          go_wp2_with fail
          go_roundw
          case rel => exact ⟨k + 1, N1, D1, by omega, by go_num, by omega, hfr.alloc _, ownsMap_fr HO.out ((Fr.refl _).alloc _), fun κ => by rw [hAT, HA.out], HP.out (fun _ => rfl)⟩
          case measure => simp [intOf]; omega
    · have hro := readsOwn_no (fun i hi hr => hpre i hi (by omega) hr)
      have hN := HN.out
      rw [hro] at hN
      simp only [Bool.false_eq_true, if_false] at hN
      have HN := Lib.hid hN
      have c10 := hfr.keep k10
      have hF1 := hF.trans hfr
      have hz1 : w.heap.size < wr.heap.size := lt_of_cell c10
      clear hown hat hpre hN hro k10 hz hF hfr hN1 k0
      obtain ⟨W1, hW1⟩ : ∃ W1, W1 = wr := ⟨wr, rfl⟩
      subst hW1
      go_wp2_with fail
      go_loopw [74] (fun i wr => ∃ (k N : Nat) (D : DataW Unit), k ≤ x.txn.length ∧ i = .int .i64 k ∧ N ≤ k ∧ Fr W1 wr ∧ wr.ownsMap Tryz.prog 60 (plainElem Tryz.prog 3) W1.heap.size N D ∧ (∀ κ v : Nat, κ < 256 → v < 65536 → D.atKey (ekey κ v) (.lit (.int .i64 0)) = .lit (.int .i64 (cntP (x.txn.take k) κ v))) ∧ ∀ i (hi : i < x.txn.length), i < k → x.txn[i].read = false → cntP (x.txn.take i) x.txn[i].key x.txn[i].v = 0 ∧ app L x.txn[i].key x.txn[i].v = false) (fun i _ => x.txn.length - (intOf i).toNat)
      case atStart => exact ⟨0, 0, .map [], Nat.zero_le _, rfl, Nat.le_refl _, (Fr.refl _).alloc _, World.ownsMap_made W1 _ _ _, fun κ v _ _ => rfl, fun i _ hi => absurd hi (Nat.not_lt_zero _)⟩
      case round =>
        clear hk hlt2
        obtain ⟨k, N2, D2, hk, rfl, hN2, hfr, hown, hat, hpre⟩ := hrel
        by_cases hlt3 : k < x.txn.length
        · obtain ⟨b1, o1, rfl, hb1, d0, d1, d2⟩ := micSl hcs (hF1.trans hfr) hlt3
          have hT := cntP_take hlt3
          have hle := cntP_le x.txn k x.txn[k].key x.txn[k].v
          have hk1 : k < cap := by omega
          have hkb := hok _ (List.getElem_mem hlt3)
          have hyes := twice_yes (L := L) hlt3
          have hpre2 : (x.txn[k].read = false → cntP (x.txn.take k) x.txn[k].key x.txn[k].v = 0 ∧ app L x.txn[k].key x.txn[k].v = false) → ∀ i (hi : i < x.txn.length), i < k + 1 → x.txn[i].read = false → cntP (x.txn.take i) x.txn[i].key x.txn[i].v = 0 ∧ app L x.txn[i].key x.txn[i].v = false := fun h0 i hi hik hr => by
            by_cases he : i < k
            · exact hpre i hi he hr
            · obtain rfl : i = k := by omega
              exact h0 hr
          have hatm := hat x.txn[k].key x.txn[k].v hkb.1 hkb.2
          have hap := hmap.at_ x.txn[k].key x.txn[k].v hkb.1 hkb.2
          generalize hC : cntP (x.txn.take k) x.txn[k].key x.txn[k].v = C at hle hyes hatm hpre2
          generalize hm : x.txn[k] = m at d0 d1 d2 hT hkb hyes hatm hap hpre2 hC
          obtain ⟨rd, key, mv⟩ := m
          simp only at d0 d1 d2 hT hkb hyes hatm hap hpre2 hC
          have HT := Lib.hid hT
          have HY := Lib.hid hyes
          have HP := Lib.hid hpre2
          have HA := Lib.hid hat
          have HO := Lib.hid hown
          have HM := Lib.hid hmap
          clear hT hyes hpre hpre2 hat hcs hown hmap
          cases rd
          · go_wp2_with fail
            refine gen_w fun W2 hW2 => ?_
            have hfW : Fr wr W2 := by rw [hW2]; exact ((Fr.refl _).alloc _).alloc _
            have hE : BoxAt W2 (wr.heap.size + 1) #[.int .u8 key, .int .u16 mv] 60 := by rw [hW2]; exact BoxAt.new' _ _ _ _ (by simp)
            clear hW2
            have hwfC : (Lit.int .i64 ((C : Int) + 1)).wf = true := by
              simp only [Lit.wf, IntKind.min, IntKind.max, IntKind.signed, IntKind.bits, Bool.and_eq_true, decide_eq_true_eq, if_true]
              omega
            have hown2 : W2.drew.ownsMap Tryz.prog 60 (plainElem Tryz.prog 3) W1.heap.size N2 D2 := ownsMap_fr HO.out hfW.drew
            have hE0 := look_int hown2 (Keyed.of_law elemLaw) Tryz.underlying85 (keyOf_elem hkb.1 hkb.2) hatm
            obtain ⟨v0, st, w3, w4, hE1, hE2, hE3, hown4, hturn, hsz3⟩ := bump hown2 elemLaw Tryz.underlying85 (by unfold maxLen; omega) (keyOf_elem hkb.1 hkb.2) (by trivial) hatm hwfC
            have e0 := hE.at 0 rfl
            have e1 := hE.at 1 rfl
            have hz2 := hE.lt
            have hf4 : Fr W1 w4 := turned_fr (w := W2.drew) (hfr.trans hfW).drew hturn (Nat.le_refl _)
            have hszz := hfr.size
            have hE4 : BoxAt w4 (wr.heap.size + 1) #[.int .u8 key, .int .u16 mv] 60 := BoxAt.ch2 (p := W1.heap.size) (q := W1.heap.size) (w := W2.drew) hE (by omega) (by omega) (turned_ch2 hturn)
            have HO4 := Lib.hid hown4
            have HI4 := Lib.hid hown2.isMap
            clear hown2 hturn hatm hwfC hE hown4
            go_region
            all_goals
              have f0 : w4.cell? ⟨wr.heap.size + 1, 0, none⟩ = some (.int .u8 key) := hE4.at 0 rfl
              have f1 : w4.cell? ⟨wr.heap.size + 1, 1, none⟩ = some (.int .u16 mv) := hE4.at 1 rfl
              have f2 := hE4.lt
              have f18 := (hF1.trans hf4).keep c18
              have hpl : p < w4.heap.size := lt_of_cell f18
              have hmap4 := (HM.out.fr (hF1.trans hf4)).own
              have hq1 : ∀ n : Nat, (Instr.lookup 85 (.map (some W1.heap.size)) (.agg #[.int .u8 key, .int .u16 mv]) false).run Tryz.prog (w4.drewN n) = .ok (.int .i64 ((C : Int) + 1)) (w4.drewN n) := fun n => look_int (w := w4.drewN n) HO4.out (Keyed.of_law elemLaw) Tryz.underlying85 (keyOf_elem hkb.1 hkb.2) (Maps.atKey_put_same HI4.out (by trivial) _ _)
              have hq2 : ∀ n : Nat, (Instr.lookup 51 (.map (some bm)) (.agg #[.int .u8 key, .int .u16 mv]) false).run Tryz.prog (w4.drewN n) = .ok (.bool (app L key mv)) (w4.drewN n) := fun n => look_bool (w := w4.drewN n) hmap4 elemKeyed Tryz.underlying51 (keyOf_elem hkb.1 hkb.2) hap
              clear hE4 hmap4 hE0 hE1 hE2 hE3 e0 e1 hz2
              go_wp2_with fail
              by_cases hC0 : 0 < C
              · have hg : (1 : Int) < (C : Int) + 1 := by omega
                have hN := HN.out
                rw [HY.out trivial (.inl hC0), if_pos rfl] at hN
                subst hN
                clear hC0 HN hq2
                have hF4 := hF1.trans hf4
                clear hf4
                go_quiet (fail)
                go_wp2_with fail
                go_ret
                exact ⟨rfl, hF4.drewN _⟩
              · have hC0' : C = 0 := by omega
                subst hC0'
                have hg : ¬ (1 : Int) < ((0 : Nat) : Int) + 1 := by omega
                cases ha : app L key mv
                · rw [ha] at hq2
                  go_quiet (fail)
                  go_wp2_with fail
                  go_roundw
                  case rel =>
                    refine ⟨k + 1, N2 + 1, _, by omega, by go_num, by omega, hf4.drewN _, ownsMap_fr HO4.out ((Fr.refl _).drewN _), fun κ v h1 h2 => ?_, HP.out (fun _ => ⟨rfl, ha⟩)⟩
                    rw [HT.out]
                    by_cases hκ : key = κ ∧ mv = v
                    · obtain ⟨rfl, rfl⟩ := hκ
                      rw [Maps.atKey_put_same HI4.out (by trivial), if_pos ⟨trivial, rfl, rfl⟩, hC]
                      rfl
                    · rw [Maps.atKey_put_other (fun e => hκ ((ekey_inj h1 h2 hkb.1 hkb.2 e).imp Eq.symm Eq.symm)), HA.out κ v h1 h2, if_neg (fun h => hκ h.2)]
                      rfl
                  case measure => simp [intOf]; omega
                · rw [ha] at hq2
                  have hN := HN.out
                  rw [HY.out trivial (.inr ha), if_pos rfl] at hN
                  subst hN
                  have hF4 := hF1.trans hf4
                  clear hf4 HN
                  go_quiet (fail)
                  go_wp2_with fail
                  go_ret
                  exact ⟨rfl, hF4.drewN _⟩
          · have hAT : ∀ κ v, cntP (x.txn.take (k + 1)) κ v = cntP (x.txn.take k) κ v := fun κ v => by rw [HT.out]; simp
            clear hatm hap
            go_wp2_with fail
            go_roundw
            case rel => exact ⟨k + 1, N2, D2, by omega, by go_num, by omega, hfr.alloc _, ownsMap_fr HO.out ((Fr.refl _).alloc _), fun κ v h1 h2 => by rw [hAT, HA.out κ v h1 h2], HP.out (fun h => by cases h)⟩
            case measure => simp [intOf]; omega
        · have htw := twice_no (fun i hi hr => hpre i hi (by omega) hr)
          have hN := HN.out
          rw [htw] at hN
          simp only [Bool.false_eq_true, if_false] at hN
          subst hN
          clear hown hat hpre htw hcs hmap HN
          have hF2 := hF1.trans hfr
          clear hF1 hfr
          go_wp2_with fail
          go_ret
          exact ⟨rfl, hF2⟩
end Go.Proofs.YtdjjjnoecfbjeaaGreatDoor

/- Whether an event may follow. No condition but that the automaton and the event can be read, and the numbers' bounds. -/
namespace Go.Proofs.YtdjjjnoecfbjeaaGreatDoor
open Go.RowKit
attribute [local go_sem] Oper.semAt_some

theorem checkN_nat (m F O K A B : Int) : ((checkN m F O K A B).toNat : Int) = checkN m F O K A B := by
  unfold checkN
  split <;> rfl
theorem Ev.may_client {x : Ev} (h : x.may = true) : x.client < 16 := by
  unfold Ev.may at h
  simp only [Bool.and_eq_true, decide_eq_true_eq] at h
  exact h.1.2
theorem Ev.may_kind {x : Ev} (h : x.may = true) : 1 ≤ x.kind ∧ x.kind ≤ 7 := by
  unfold Ev.may Ev.kindMay at h
  simp only [Bool.and_eq_true] at h
  have h1 := h.1.1
  refine Classical.byContradiction fun hk => ?_
  have n1 : x.kind ≠ 1 := by omega
  have n2 : x.kind ≠ 2 := by omega
  have n3 : x.kind ≠ 3 := by omega
  have n4 : x.kind ≠ 4 := by omega
  have n5 : x.kind ≠ 5 := by omega
  have n6 : x.kind ≠ 6 := by omega
  have n7 : x.kind ≠ 7 := by omega
  simp [n1, n2, n3, n4, n5, n6, n7] at h1
theorem Ev.may_txn {x : Ev} (h : x.may = true) : x.txn.length ≤ 8 := by
  have hk := Ev.may_kind h
  unfold Ev.may at h
  simp only [Bool.and_eq_true, decide_eq_true_eq] at h
  have h1 := h.1.1
  have h2 := h.2
  by_cases h5 : x.kind = 5
  · simp [Ev.kindMay, h5, txnMay] at h1
    omega
  · have : x.needed.txn = [] := by
      rcases (show x.kind = 1 ∨ x.kind = 2 ∨ x.kind = 3 ∨ x.kind = 4 ∨ x.kind = 6 ∨ x.kind = 7 by omega) with h | h | h | h | h | h <;> simp [Ev.needed, h, Ev.zero]
    rw [h2, this]
    exact Nat.zero_le _
theorem opens_c {p : Nat} {cv : Value} {pv : List Value} {bm n : Nat} {D : DataW Unit} {c : Ev} {L : List Ev} (w : World) (h : AutAt w p cv pv bm n D (c :: L)) (hE : Env w) (x : Ev) (v : Value) (hx : EvAt w v x) (ok : x.Ok) (hm : x.may = true) :
    Calls Tryz.prog 34 #[.pointer (some ⟨p, 0, none⟩), v] w fun e w' => e = .returned (.int .i64 (opensWhy (c :: L) c.cfg.model x : Nat)) ∧ Fr w w' := by
  obtain ⟨t, r, rfl, ht, hr⟩ := hx
  have hc := Ev.may_client hm
  unfold opensWhy
  cases hp : pend (c :: L) x.client with
  | some q =>
    rw [Option.isSome_some, if_pos rfl]
    exact opensBusy_c w h x t r hc hp
  | none =>
    rw [Option.isSome_none, if_neg (by simp)]
    by_cases hi : (x.id : Int) ≤ lastId (c :: L)
    · rw [if_pos hi]; exact opensThere_c w h x t r hc hp hi ok.id
    · rw [if_neg hi]
      by_cases h2 : x.kind = 2
      · rw [if_pos h2, checkN_nat]
        exact opensInvoke_c w h hE x t r hc hp hi ok.id h2 (by have := ok.F; omega)
      · rw [if_neg h2]
        exact opensBegin_c w h x t r ht hc hp hi ok.id h2 ok.txn (by have := Ev.may_txn hm; omega)
set_option maxRecDepth 100000 in
set_option maxHeartbeats 4000000 in
theorem autMay_c {p : Nat} {cv : Value} {pv : List Value} {bm n : Nat} {D : DataW Unit} {L : List Ev} (w : World) (h : AutAt w p cv pv bm n D L) (hE : Env w) (x : Ev) (v : Value) (hx : EvAt w v x) (ok : x.Ok) :
    Calls Tryz.prog 18 #[.pointer (some ⟨p, 0, none⟩), v] w fun e w' => e = .returned (.int .i64 (stepWhy L x : Nat)) ∧ Fr w w' := by
  have HX := Lib.hid hx
  obtain ⟨t, r, rfl, ht, hr⟩ := hx
  have hB0 := BoxAt.new w (x.cells t r) 39
  have hF0 : Fr w (w.alloc (.cells (x.cells t r) 39)) := (Fr.refl w).alloc _
  have hck := fun W (f : Fr w W) => EvCheck_c x (x.val t r) W (hE.keep f) (HX.out.keep f) ok
  have hcv := h.cfg
  have c0 := h.box.at 0 (aut_0 _ _ _ _)
  have hlt := h.box.lt
  have HH := Lib.hid h
  have HE := Lib.hid hE
  clear h hE ht hr
  have hcheck : x.check = if x.may then 0 else 4 := rfl
  unfold Ev.val at hck ⊢
  unfold Ev.cells at hB0 hF0
  cases hm : x.may
  · rw [hm] at hcheck
    simp only [Bool.false_eq_true, if_false] at hcheck
    rw [hcheck] at hck
    have hW : stepWhy L x = 4 := by unfold stepWhy; rw [if_pos hm]
    rw [hW]
    have HC := Lib.hid hck
    clear hck hcheck hm hW hcv
    go_enter Tryz.func18, Tryz.ntmps18
    go_wp2_with ((with_reducible refine wpList_here (.load 39 (.tmp 3)) rfl ?_); refine wpList_load_box 39 (.tmp 3) rfl _ rfl _ hB0 _ Tryz.underlying39 rfl Tryz.infoEv rfl ?_)
    refine (HC.out _ hF0).mono ?_
    rintro e w1 ⟨rfl, hb⟩
    go_wp2_with fail
    go_ret
    exact ⟨rfl, hF0.trans hb⟩
  · rw [hm] at hcheck
    simp only [if_true] at hcheck
    rw [hcheck] at hck
    have HC := Lib.hid hck
    clear hck hcheck
    by_cases h1 : x.kind = 1
    · have e1 : ((x.kind : Int) == 1) = true := by simp; omega
      cases L with
      | nil =>
        change cv = _ at hcv
        subst hcv
        have hW : stepWhy [] x = 0 := by unfold stepWhy; rw [if_neg (by simp [hm]), if_pos h1, if_pos rfl]
        rw [hW]
        clear hW hm h1
        go_enter Tryz.func18, Tryz.ntmps18
        go_wp2_with ((with_reducible refine wpList_here (.load 39 (.tmp 3)) rfl ?_); refine wpList_load_box 39 (.tmp 3) rfl _ rfl _ hB0 _ Tryz.underlying39 rfl Tryz.infoEv rfl ?_)
        refine (HC.out _ hF0).mono ?_
        rintro e w1 ⟨rfl, hb⟩
        have hB1 := hB0.fr hb
        have hF1 := hF0.trans hb
        have k0 : w1.cell? ⟨w.heap.size, 0, none⟩ = some (.int .u8 x.kind) := hB1.at 0 rfl
        have hz1 := hB1.lt
        have hl1 : p < w1.heap.size := by have := hF1.size; omega
        have c1 := hF1.keep c0
        clear hb c0
        go_wp2_with fail
        go_quiet (fail)
        go_wp2_with fail
        go_ret
        exact ⟨rfl, by repeat (first | exact hF1 | apply Fr.alloc | apply Fr.drew | apply Fr.drewN)⟩
      | cons c L =>
        obtain ⟨b, hb, _⟩ := hcv
        subst hb
        have hW : stepWhy (c :: L) x = 11 := by unfold stepWhy; rw [if_neg (by simp [hm]), if_pos h1, if_neg (by simp)]
        rw [hW]
        clear hW hm h1
        go_enter Tryz.func18, Tryz.ntmps18
        go_wp2_with ((with_reducible refine wpList_here (.load 39 (.tmp 3)) rfl ?_); refine wpList_load_box 39 (.tmp 3) rfl _ rfl _ hB0 _ Tryz.underlying39 rfl Tryz.infoEv rfl ?_)
        refine (HC.out _ hF0).mono ?_
        rintro e w1 ⟨rfl, hb⟩
        have hB1 := hB0.fr hb
        have hF1 := hF0.trans hb
        have k0 : w1.cell? ⟨w.heap.size, 0, none⟩ = some (.int .u8 x.kind) := hB1.at 0 rfl
        have hz1 := hB1.lt
        have hl1 : p < w1.heap.size := by have := hF1.size; omega
        have c1 := hF1.keep c0
        clear hb c0
        go_wp2_with fail
        go_quiet (fail)
        go_wp2_with fail
        go_ret
        exact ⟨rfl, by repeat (first | exact hF1 | apply Fr.alloc | apply Fr.drew | apply Fr.drewN)⟩
    · have e1 : ((x.kind : Int) == 1) = false := by simp; omega
      cases L with
      | nil =>
        change cv = _ at hcv
        subst hcv
        have hW : stepWhy [] x = 11 := by unfold stepWhy; rw [if_neg (by simp [hm]), if_neg h1]
        rw [hW]
        clear hW hm h1
        go_enter Tryz.func18, Tryz.ntmps18
        go_wp2_with ((with_reducible refine wpList_here (.load 39 (.tmp 3)) rfl ?_); refine wpList_load_box 39 (.tmp 3) rfl _ rfl _ hB0 _ Tryz.underlying39 rfl Tryz.infoEv rfl ?_)
        refine (HC.out _ hF0).mono ?_
        rintro e w1 ⟨rfl, hb⟩
        have hB1 := hB0.fr hb
        have hF1 := hF0.trans hb
        have k0 : w1.cell? ⟨w.heap.size, 0, none⟩ = some (.int .u8 x.kind) := hB1.at 0 rfl
        have hz1 := hB1.lt
        have hl1 : p < w1.heap.size := by have := hF1.size; omega
        have c1 := hF1.keep c0
        clear hb c0
        go_wp2_with fail
        go_quiet (fail)
        go_wp2_with fail
        go_ret
        exact ⟨rfl, by repeat (first | exact hF1 | apply Fr.alloc | apply Fr.drew | apply Fr.drewN)⟩
      | cons c L =>
        obtain ⟨b, hb, _⟩ := hcv
        subst hb
        have hW : stepWhy (c :: L) x = if foreign c.cfg.model x.kind then 10 else if x.opens then opensWhy (c :: L) c.cfg.model x else endsWhy (c :: L) x := by unfold stepWhy; rw [if_neg (by simp [hm]), if_neg h1]
        rw [hW]
        have hft := fun W (f : Fr w W) => fits_c W (HH.out.fr f) x t r
        have hop := fun W (f : Fr w W) => opens_c W (HH.out.fr f) (HE.out.keep f) x _ (HX.out.keep f) ok hm
        have hen := fun W (f : Fr w W) => ends_c W (HH.out.fr f) x _ (HX.out.keep f) (Ev.may_client hm)
        unfold Ev.val at hft hop hen
        have HG := Lib.hid hop
        have HK := Lib.hid hen
        clear hW h1 hop hen hm HX
        cases hf : foreign c.cfg.model x.kind
        · rw [hf] at hft
          simp only [Bool.false_eq_true, if_false] at hft ⊢
          have HF := Lib.hid hft
          clear hft hf
          have hop2 : x.opens = (decide (x.kind = 2) || decide (x.kind = 5)) := rfl
          rcases (show x.kind = 2 ∨ x.kind = 5 ∨ (x.kind ≠ 2 ∧ x.kind ≠ 5) by omega) with h2 | h2 | h2
          · have e2 : ((x.kind : Int) == 2) = true := by simp; omega
            have ho : x.opens = true := by rw [hop2, h2]; rfl
            rw [ho, if_pos rfl]
            clear h2 hop2 ho
            go_enter Tryz.func18, Tryz.ntmps18
            go_wp2_with ((with_reducible refine wpList_here (.load 39 (.tmp 3)) rfl ?_); refine wpList_load_box 39 (.tmp 3) rfl _ rfl _ hB0 _ Tryz.underlying39 rfl Tryz.infoEv rfl ?_)
            refine (HC.out _ hF0).mono ?_
            rintro e w1 ⟨rfl, hb⟩
            have hB1 := hB0.fr hb
            have hF1 := hF0.trans hb
            have k0 : w1.cell? ⟨w.heap.size, 0, none⟩ = some (.int .u8 x.kind) := hB1.at 0 rfl
            have hz1 := hB1.lt
            have hl1 : p < w1.heap.size := by have := hF1.size; omega
            have c1 := hF1.keep c0
            clear hb c0
            go_wp2_with fail
            go_quiet (fail)
            go_wp2_with ((with_reducible refine wpList_here (.load 39 (.tmp 3)) rfl ?_); refine wpList_load_box 39 (.tmp 3) rfl _ rfl _ hB1 _ Tryz.underlying39 rfl Tryz.infoEv rfl ?_)
            refine (HF.out _ (by repeat (first | exact hF1 | apply Fr.alloc | apply Fr.drew | apply Fr.drewN))).mono ?_
            rintro e w3 ⟨rfl, hb3⟩
            have hF3 : Fr w w3 := Fr.trans (by repeat (first | exact hF1 | apply Fr.alloc | apply Fr.drew | apply Fr.drewN)) hb3
            have hB3 : BoxAt w3 _ _ _ := BoxAt.fr (BoxAt.drewN hB1 _) hb3
            have k3 : w3.cell? ⟨w.heap.size, 0, none⟩ = some (.int .u8 x.kind) := hB3.at 0 rfl
            have hz3 := hB3.lt
            clear hB1 k0 hz1 hF1 c1
            go_wp2_with ((with_reducible refine wpList_here (.load 39 (.tmp 3)) rfl ?_); refine wpList_load_box 39 (.tmp 3) rfl _ rfl _ hB3 _ Tryz.underlying39 rfl Tryz.infoEv rfl ?_)
            refine (HG.out _ hF3).mono ?_
            rintro e w4 ⟨rfl, hb4⟩
            go_wp2_with fail
            go_ret
            exact ⟨rfl, hF3.trans hb4⟩
          · have e2 : ((x.kind : Int) == 2) = false := by simp; omega
            have e5 : ((x.kind : Int) == 5) = true := by simp; omega
            have ho : x.opens = true := by rw [hop2, h2]; rfl
            rw [ho, if_pos rfl]
            clear h2 hop2 ho
            go_enter Tryz.func18, Tryz.ntmps18
            go_wp2_with ((with_reducible refine wpList_here (.load 39 (.tmp 3)) rfl ?_); refine wpList_load_box 39 (.tmp 3) rfl _ rfl _ hB0 _ Tryz.underlying39 rfl Tryz.infoEv rfl ?_)
            refine (HC.out _ hF0).mono ?_
            rintro e w1 ⟨rfl, hb⟩
            have hB1 := hB0.fr hb
            have hF1 := hF0.trans hb
            have k0 : w1.cell? ⟨w.heap.size, 0, none⟩ = some (.int .u8 x.kind) := hB1.at 0 rfl
            have hz1 := hB1.lt
            have hl1 : p < w1.heap.size := by have := hF1.size; omega
            have c1 := hF1.keep c0
            clear hb c0
            go_wp2_with fail
            go_quiet (fail)
            go_wp2_with ((with_reducible refine wpList_here (.load 39 (.tmp 3)) rfl ?_); refine wpList_load_box 39 (.tmp 3) rfl _ rfl _ hB1 _ Tryz.underlying39 rfl Tryz.infoEv rfl ?_)
            refine (HF.out _ (by repeat (first | exact hF1 | apply Fr.alloc | apply Fr.drew | apply Fr.drewN))).mono ?_
            rintro e w3 ⟨rfl, hb3⟩
            have hF3 : Fr w w3 := Fr.trans (by repeat (first | exact hF1 | apply Fr.alloc | apply Fr.drew | apply Fr.drewN)) hb3
            have hB3 : BoxAt w3 _ _ _ := BoxAt.fr (BoxAt.drewN hB1 _) hb3
            have k3 : w3.cell? ⟨w.heap.size, 0, none⟩ = some (.int .u8 x.kind) := hB3.at 0 rfl
            have hz3 := hB3.lt
            clear hB1 k0 hz1 hF1 c1
            go_wp2_with ((with_reducible refine wpList_here (.load 39 (.tmp 3)) rfl ?_); refine wpList_load_box 39 (.tmp 3) rfl _ rfl _ hB3 _ Tryz.underlying39 rfl Tryz.infoEv rfl ?_)
            refine (HG.out _ hF3).mono ?_
            rintro e w4 ⟨rfl, hb4⟩
            go_wp2_with fail
            go_ret
            exact ⟨rfl, hF3.trans hb4⟩
          · have e2 : ((x.kind : Int) == 2) = false := by simp; omega
            have e5 : ((x.kind : Int) == 5) = false := by simp; omega
            have ho : x.opens = false := by rw [hop2, decide_eq_false h2.1, decide_eq_false h2.2]; rfl
            rw [ho, if_neg (by simp)]
            clear h2 hop2 ho
            go_enter Tryz.func18, Tryz.ntmps18
            go_wp2_with ((with_reducible refine wpList_here (.load 39 (.tmp 3)) rfl ?_); refine wpList_load_box 39 (.tmp 3) rfl _ rfl _ hB0 _ Tryz.underlying39 rfl Tryz.infoEv rfl ?_)
            refine (HC.out _ hF0).mono ?_
            rintro e w1 ⟨rfl, hb⟩
            have hB1 := hB0.fr hb
            have hF1 := hF0.trans hb
            have k0 : w1.cell? ⟨w.heap.size, 0, none⟩ = some (.int .u8 x.kind) := hB1.at 0 rfl
            have hz1 := hB1.lt
            have hl1 : p < w1.heap.size := by have := hF1.size; omega
            have c1 := hF1.keep c0
            clear hb c0
            go_wp2_with fail
            go_quiet (fail)
            go_wp2_with ((with_reducible refine wpList_here (.load 39 (.tmp 3)) rfl ?_); refine wpList_load_box 39 (.tmp 3) rfl _ rfl _ hB1 _ Tryz.underlying39 rfl Tryz.infoEv rfl ?_)
            refine (HF.out _ (by repeat (first | exact hF1 | apply Fr.alloc | apply Fr.drew | apply Fr.drewN))).mono ?_
            rintro e w3 ⟨rfl, hb3⟩
            have hF3 : Fr w w3 := Fr.trans (by repeat (first | exact hF1 | apply Fr.alloc | apply Fr.drew | apply Fr.drewN)) hb3
            have hB3 : BoxAt w3 _ _ _ := BoxAt.fr (BoxAt.drewN hB1 _) hb3
            have k3 : w3.cell? ⟨w.heap.size, 0, none⟩ = some (.int .u8 x.kind) := hB3.at 0 rfl
            have hz3 := hB3.lt
            clear hB1 k0 hz1 hF1 c1
            go_wp2_with ((with_reducible refine wpList_here (.load 39 (.tmp 3)) rfl ?_); refine wpList_load_box 39 (.tmp 3) rfl _ rfl _ hB3 _ Tryz.underlying39 rfl Tryz.infoEv rfl ?_)
            refine (HK.out _ hF3).mono ?_
            rintro e w4 ⟨rfl, hb4⟩
            go_wp2_with fail
            go_ret
            exact ⟨rfl, hF3.trans hb4⟩
        · rw [hf] at hft
          simp only [if_true] at hft ⊢
          have HF := Lib.hid hft
          clear hft hf HG HK
          go_enter Tryz.func18, Tryz.ntmps18
          go_wp2_with ((with_reducible refine wpList_here (.load 39 (.tmp 3)) rfl ?_); refine wpList_load_box 39 (.tmp 3) rfl _ rfl _ hB0 _ Tryz.underlying39 rfl Tryz.infoEv rfl ?_)
          refine (HC.out _ hF0).mono ?_
          rintro e w1 ⟨rfl, hb⟩
          have hB1 := hB0.fr hb
          have hF1 := hF0.trans hb
          have k0 : w1.cell? ⟨w.heap.size, 0, none⟩ = some (.int .u8 x.kind) := hB1.at 0 rfl
          have hz1 := hB1.lt
          have hl1 : p < w1.heap.size := by have := hF1.size; omega
          have c1 := hF1.keep c0
          clear hb c0
          go_wp2_with fail
          go_quiet (fail)
          go_wp2_with ((with_reducible refine wpList_here (.load 39 (.tmp 3)) rfl ?_); refine wpList_load_box 39 (.tmp 3) rfl _ rfl _ hB1 _ Tryz.underlying39 rfl Tryz.infoEv rfl ?_)
          refine (HF.out _ (by repeat (first | exact hF1 | apply Fr.alloc | apply Fr.drew | apply Fr.drewN))).mono ?_
          rintro e w3 ⟨rfl, hb3⟩
          go_wp2_with fail
          go_ret
          exact ⟨rfl, Fr.trans (by repeat (first | exact hF1 | apply Fr.alloc | apply Fr.drew | apply Fr.drewN)) hb3⟩
end Go.Proofs.YtdjjjnoecfbjeaaGreatDoor

/- An automaton's step. No condition but that the automaton and the event can be read, and the numbers' bounds. -/
namespace Go.Proofs.YtdjjjnoecfbjeaaGreatDoor
open Go.RowKit
open Go.ChangeMaps Go.MapKept
attribute [local go_sem] Oper.semAt_some

theorem Ch2.keep {p q : Nat} {w w' : World} (h : Ch2 p q w w') {b o : Nat} {v : Value} (hp : b ≠ p) (hq : b ≠ q) (hc : w.cell? ⟨b, o, none⟩ = some v) : w'.cell? ⟨b, o, none⟩ = some v :=
  (World.cell?_of_block (a := ⟨b, o, none⟩) (h.block b (lt_of_cell hc) hp hq)).trans hc
theorem Ch2.keepF {p q : Nat} {w w' : World} (h : Ch2 p q w w') {b o : Nat} (hp : b ≠ p) (hq : b ≠ q) (hb : b < w.heap.size) : w'.frozen? ⟨b, o, none⟩ = w.frozen? ⟨b, o, none⟩ := by
  simp [World.frozen?, h.block b hb hp hq]
theorem aut_setP (cv : Value) (pv : List Value) (n : Int) (bm : Nat) {c : Nat} (hc : c < pv.length) (v : Value) : (autCells cv pv n bm).setIfInBounds (1 + c) v = autCells cv (pv.set c v) n bm := by
  apply Array.ext'
  simp only [autCells, Array.toList_setIfInBounds, Nat.add_comm 1 c, List.set_cons_succ]
  congr 1
  rw [List.set_append_left _ _ hc]
theorem aut_setC (cv : Value) (pv : List Value) (n : Int) (bm : Nat) (v : Value) : (autCells cv pv n bm).setIfInBounds 0 v = autCells v pv n bm := rfl
theorem aut_set17 (cv : Value) (pv : List Value) (n m : Int) (bm : Nat) (h : pv.length = 16) : (autCells cv pv n bm).setIfInBounds 17 (.int .i64 m) = autCells cv pv m bm := by
  apply Array.ext'
  simp only [autCells, Array.toList_setIfInBounds, List.set_cons_succ]
  congr 1
  rw [List.set_append_right _ _ (by omega), h]
  rfl
/-- Its pending events, behind one more. -/
theorem pend_set {w' : World} {pv : List Value} {L : List Ev} {x : Ev} {v : Value} (hL : L ≠ []) (hx : x.client < pv.length) (hold : ∀ c u, pv[c]? = some u → PendAt w' u (pend L c)) (hv : PendAt w' v (if x.opens then some x else none)) :
    ∀ c u, (pv.set x.client v)[c]? = some u → PendAt w' u (pend (L ++ [x]) c) := by
  intro c u hu
  rw [pend_snoc hL]
  by_cases hc : x.client = c
  · subst hc
    rw [if_pos rfl]
    rw [List.getElem?_set_self hx] at hu
    cases hu
    exact hv
  · rw [if_neg hc]
    rw [List.getElem?_set_ne hc] at hu
    exact hold c u hu
theorem pend_first (x : Ev) (c : Nat) : pend [x] c = none := rfl
theorem app_first (x : Ev) (k v : Nat) : app [x] k v = false := rfl
theorem lastId_first (x : Ev) : lastId [x] = -1 := rfl
theorem Ch2.fr' {p q : Nat} {a b c : World} (f : Fr a b) (h : Ch2 p q b c) : Ch2 p q a c := f.ch2.trans h
theorem Ch2.le1 {p q : Nat} {a b : World} (h : Ch2 q q a b) : Ch2 p q a b := ⟨h.os, h.tape, h.output, h.size, fun k hk _ h2 => h.block k hk h2 h2⟩
theorem Ch2.setP {p q : Nat} {a w : World} (h : Ch2 p q a w) (o : Nat) (u : Value) : Ch2 p q a (w.setCell ⟨p, o, none⟩ u) :=
  ⟨h.os, h.tape, h.output, by simpa using h.size, fun k hk h1 h2 => (Below.heap_setCell w _ u k (fun e => h1 e)).trans (h.block k hk h1 h2)⟩
/-- An event in a new block, its transaction in new memory. -/
def EvNew (w w' : World) (b : Nat) (x : Ev) : Prop := w.heap.size ≤ b ∧ ∃ t r, BoxAt w' b (x.cells t r) 39 ∧ SlAt w' (w.heap.size ≤ ·) t x.txn.length (micCells x.txn) ∧ RdR w' r x.reads
/-- What the steps share. -/
structure StepPre (w : World) (p : Nat) (cv : Value) (pv : List Value) (bm n : Nat) (D : DataW Unit) (L : List Ev) (x : Ev) (v : Value) : Prop where
  aut : AutAt w p cv pv bm n D L
  env : Env w
  ev : EvAt w v x
  ok : x.Ok
set_option maxRecDepth 100000 in
set_option maxHeartbeats 1000000 in
theorem autStepNo_c {p : Nat} {cv : Value} {pv : List Value} {bm n : Nat} {D : DataW Unit} {L : List Ev} (w : World) {x : Ev} {v : Value} (H : StepPre w p cv pv bm n D L x v) (hs : stepWhy L x ≠ 0) :
    Calls Tryz.prog 10 #[.pointer (some ⟨p, 0, none⟩), v] w fun e w' => e = .returned (.int .i64 (stepWhy L x : Nat)) ∧ Fr w w' := by
  obtain ⟨h, hE, hx, ok⟩ := H
  have HX := Lib.hid hx
  obtain ⟨t, r, rfl, ht, hr⟩ := hx
  have hB0 := BoxAt.new w (x.cells t r) 39
  have hF0 : Fr w (w.alloc (.cells (x.cells t r) 39)) := (Fr.refl w).alloc _
  have hmy := fun W (f : Fr w W) => autMay_c W (h.fr f) (hE.keep f) x (x.val t r) (HX.out.keep f) ok
  have his := fun W (f : Fr w W) => autIs_c W (h.fr f)
  have hne : ((stepWhy L x : Int) != 0) = true := by simp; omega
  unfold Ev.val at hmy ⊢
  unfold Ev.cells at hB0 hF0
  generalize stepWhy L x = S at hmy hne ⊢
  have HI := Lib.hid his
  have HM := Lib.hid hmy
  clear his hmy h hE ht hr hs
  go_enter Tryz.func10, Tryz.ntmps10
  go_wp2_with fail
  refine (HI.out _ hF0).mono ?_
  rintro e w1 ⟨rfl, hb⟩
  have hB1 := hB0.fr hb
  have hF1 := hF0.trans hb
  clear hb
  go_wp2_with ((with_reducible refine wpList_here (.load 39 (.tmp 3)) rfl ?_); refine wpList_load_box 39 (.tmp 3) rfl _ rfl _ hB1 _ Tryz.underlying39 rfl Tryz.infoEv rfl ?_)
  refine (HM.out _ hF1).mono ?_
  rintro e w2 ⟨rfl, hb⟩
  have hB2 := hB1.fr hb
  have hF2 := hF1.trans hb
  clear hb hB1 hF1
  go_wp2_with fail
  go_ret
  exact ⟨rfl, hF2⟩
set_option maxRecDepth 100000 in
set_option maxHeartbeats 1000000 in
theorem autStepCfg_c {p : Nat} {cv : Value} {pv : List Value} {bm n : Nat} {D : DataW Unit} (w : World) {x : Ev} {v : Value} (H : StepPre w p cv pv bm n D [] x v) (hs : stepWhy [] x = 0) :
    Calls Tryz.prog 10 #[.pointer (some ⟨p, 0, none⟩), v] w fun e w' => e = .returned (.int .i64 0) ∧ (∃ b, w.heap.size ≤ b ∧ AutAt w' p (.pointer (some ⟨b, 0, none⟩)) pv bm n D [x]) ∧ Ch2 p bm w w' := by
  obtain ⟨h, hE, hx, ok⟩ := H
  have HX := Lib.hid hx
  obtain ⟨t, r, rfl, ht, hr⟩ := hx
  have hB0 := BoxAt.new w (x.cells t r) 39
  have hF0 : Fr w (w.alloc (.cells (x.cells t r) 39)) := (Fr.refl w).alloc _
  have hmy := fun W (f : Fr w W) => autMay_c W (h.fr f) (hE.keep f) x (x.val t r) (HX.out.keep f) ok
  have his := fun W (f : Fr w W) => autIs_c W (h.fr f)
  have hk := stepTo_first rfl hs
  have e1 : ((x.kind : Int) == 1) = true := by simp; omega
  rw [hs] at hmy
  unfold Ev.val at hmy ⊢
  unfold Ev.cells at hB0 hF0
  have HI := Lib.hid his
  have HM := Lib.hid hmy
  have HH := Lib.hid h
  clear his hmy h hE ht hr hs hk
  go_enter Tryz.func10, Tryz.ntmps10
  go_wp2_with fail
  refine (HI.out _ hF0).mono ?_
  rintro e w1 ⟨rfl, hb⟩
  have hB1 := hB0.fr hb
  have hF1 := hF0.trans hb
  clear hb
  go_wp2_with ((with_reducible refine wpList_here (.load 39 (.tmp 3)) rfl ?_); refine wpList_load_box 39 (.tmp 3) rfl _ rfl _ hB1 _ Tryz.underlying39 rfl Tryz.infoEv rfl ?_)
  refine (HM.out _ hF1).mono ?_
  rintro e w2 ⟨rfl, hb⟩
  have hB2 := hB1.fr hb
  have hF2 := hF1.trans hb
  clear hb hB1 hF1
  have hA := HH.out.fr hF2
  have c0 := hA.box.at 0 (aut_0 _ _ _ _)
  have f0 := hA.box.free 0
  have hl := hA.box.lt
  have k0 : w2.cell? ⟨w.heap.size, 0, none⟩ = some (.int .u8 x.kind) := hB2.at 0 rfl
  have k12 : w2.cell? ⟨w.heap.size, 12, none⟩ = some (.int .u8 x.cfg.model) := hB2.at 12 rfl
  have k13 : w2.cell? ⟨w.heap.size, 13, none⟩ = some (.int .i64 x.cfg.opens) := hB2.at 13 rfl
  have k14 : w2.cell? ⟨w.heap.size, 14, none⟩ = some (.int .i64 x.cfg.states) := hB2.at 14 rfl
  have k15 : w2.cell? ⟨w.heap.size, 15, none⟩ = some (.int .i64 x.cfg.steps) := hB2.at 15 rfl
  have k16 : w2.cell? ⟨w.heap.size, 16, none⟩ = some (.bool x.cfg.part) := hB2.at 16 rfl
  have k17 : w2.cell? ⟨w.heap.size, 17, none⟩ = some (.bool x.cfg.cut) := hB2.at 17 rfl
  have k18 : w2.cell? ⟨w.heap.size, 18, none⟩ = some (.bool x.cfg.memo) := hB2.at 18 rfl
  have hz := hB2.lt
  have HA := Lib.hid hA
  clear hA hB2
  go_wp2_with fail
  go_ret
  have hA := HA.out
  have hpm := hA.ne hA.map
  have hS : Ch2 p p w2 (w2.setCell ⟨p, 0, none⟩ (.pointer (some ⟨w2.heap.size, 0, none⟩))) := (Ch2.refl p p _).set 0 _
  have hM := (hA.map.ch2 (Ne.symm hpm) (Ne.symm hpm) hS).fr ((Fr.refl _).alloc (.cells x.cfg.cells.toArray 37))
  exact ⟨rfl, ⟨w2.heap.size, hF2.size, (hA.box.setAt 0 _).alloc _, hA.len, ⟨_, rfl, BoxAt.new' _ x.cfg.cells.toArray _ _ (by simp)⟩, fun c v hc => hA.pend c v hc, hM.own, hM.at_⟩, ((hF2.ch2).setP 0 _).alloc _⟩
theorem kind_opens {x : Ev} : x.opens = true ↔ x.kind = 2 ∨ x.kind = 5 := by
  unfold Ev.opens
  simp
set_option maxRecDepth 100000 in
set_option maxHeartbeats 1000000 in
theorem autStepEnd_c {p : Nat} {cv : Value} {pv : List Value} {bm n : Nat} {D : DataW Unit} {c : Ev} {L : List Ev} (w : World) {x : Ev} {v : Value} (H : StepPre w p cv pv bm n D (c :: L) x v) (hs : stepWhy (c :: L) x = 0) (ho : x.opens = false) :
    Calls Tryz.prog 10 #[.pointer (some ⟨p, 0, none⟩), v] w fun e w' => e = .returned (.int .i64 0) ∧ AutAt w' p cv (pv.set x.client (.pointer none)) bm n D (c :: L ++ [x]) ∧ Ch2 p bm w w' := by
  obtain ⟨h, hE, hx, ok⟩ := H
  have HX := Lib.hid hx
  obtain ⟨t, r, rfl, ht, hr⟩ := hx
  have hB0 := BoxAt.new w (x.cells t r) 39
  have hF0 : Fr w (w.alloc (.cells (x.cells t r) 39)) := (Fr.refl w).alloc _
  have hmy := fun W (f : Fr w W) => autMay_c W (h.fr f) (hE.keep f) x (x.val t r) (HX.out.keep f) ok
  have his := fun W (f : Fr w W) => autIs_c W (h.fr f)
  obtain ⟨hmay, h1, _, _, _⟩ := stepWhy_more hs
  have hcl := Ev.may_client hmay
  have hid := lastId_open hs
  rw [ho, if_neg (by simp)] at hid
  have htx : x.txn = [] := by
    have hk := Ev.may_kind hmay
    have h25 : ¬ (x.kind = 2 ∨ x.kind = 5) := fun hh => by rw [kind_opens.2 hh] at ho; cases ho
    unfold Ev.may at hmay
    simp only [Bool.and_eq_true, decide_eq_true_eq] at hmay
    rw [hmay.2]
    rcases (show x.kind = 1 ∨ x.kind = 3 ∨ x.kind = 4 ∨ x.kind = 6 ∨ x.kind = 7 by omega) with h | h | h | h | h <;> simp [Ev.needed, h, Ev.zero]
  have h25 : ¬ (x.kind = 2 ∨ x.kind = 5) := fun hh => by rw [kind_opens.2 hh] at ho; cases ho
  have e1 : ((x.kind : Int) == 1) = false := by simp; omega
  have e2 : ((x.kind : Int) == 2) = false := by simp; omega
  have e5 : ((x.kind : Int) == 5) = false := by simp; omega
  rw [hs] at hmy
  unfold Ev.val at hmy ⊢
  unfold Ev.cells at hB0 hF0
  have HI := Lib.hid his
  have HM := Lib.hid hmy
  have HH := Lib.hid h
  clear his hmy h hE ht hr hs hmay h1 h25
  go_enter Tryz.func10, Tryz.ntmps10
  go_wp2_with fail
  refine (HI.out _ hF0).mono ?_
  rintro e w1 ⟨rfl, hb⟩
  have hB1 := hB0.fr hb
  have hF1 := hF0.trans hb
  clear hb
  go_wp2_with ((with_reducible refine wpList_here (.load 39 (.tmp 3)) rfl ?_); refine wpList_load_box 39 (.tmp 3) rfl _ rfl _ hB1 _ Tryz.underlying39 rfl Tryz.infoEv rfl ?_)
  refine (HM.out _ hF1).mono ?_
  rintro e w2 ⟨rfl, hb⟩
  have hB2 := hB1.fr hb
  have hF2 := hF1.trans hb
  clear hb hB1 hF1
  have hA := HH.out.fr hF2
  obtain ⟨v0, _, cp, _⟩ := aut_client hA hcl
  have fp := hA.box.free (1 + x.client)
  have hl := hA.box.lt
  have k0 : w2.cell? ⟨w.heap.size, 0, none⟩ = some (.int .u8 x.kind) := hB2.at 0 rfl
  have k1 : w2.cell? ⟨w.heap.size, 1, none⟩ = some (.int .u8 x.client) := hB2.at 1 rfl
  have hz := hB2.lt
  have HA := Lib.hid hA
  clear hA hB2
  go_wp2_with fail
  go_region
  all_goals
    go_wp2_with fail
    go_ret
    have hA := HA.out
    have hpm := hA.ne hA.map
    have hS : Ch2 p p w2 (w2.drew.setCell ⟨p, 1 + x.client, none⟩ (.pointer none)) := ((Ch2.refl p p _).drew).set (1 + x.client) _
    have hM := hA.map.ch2 (Ne.symm hpm) (Ne.symm hpm) hS
    have hC := hA.cfg.ch2 hA.shut hA.shut hS
    have hP := pend_set (w' := w2.drew.setCell ⟨p, 1 + x.client, none⟩ (.pointer none)) (x := x) (v := .pointer none) (L := c :: L) (by simp) (by rw [hA.len]; exact hcl) (fun c u hc => (hA.pend c u hc).ch2 hA.shut hA.shut hS) (by rw [ho, if_neg (by simp)]; rfl)
    refine ⟨rfl, ⟨?_, by simp [hA.len], hC, hP, hM.own, fun k v hk hv => ?_⟩, ((hF2.ch2).drew).setP _ _⟩
    · have := (BoxAt.drew hA.box).setAt (1 + x.client) (.pointer none)
      rw [aut_setP _ _ _ _ (by rw [hA.len]; exact hcl)] at this
      show BoxAt _ _ (autCells _ _ (lastId (c :: L ++ [x])) bm) _
      rw [hid]
      exact this
    · show D.atKey _ _ = .lit (.bool (app (c :: L ++ [x]) k v))
      rw [app_snoc (L := c :: L) (by simp), htx]
      simpa using hM.at_ k v hk hv
end Go.Proofs.YtdjjjnoecfbjeaaGreatDoor

/- An automaton's step by what opens. No condition but that the automaton and the event can be read, and the numbers' bounds. -/
namespace Go.Proofs.YtdjjjnoecfbjeaaGreatDoor
open Go.RowKit
open Go.ChangeMaps Go.MapKept
attribute [local go_sem] Oper.semAt_some

/-- An automaton whose map is ahead. -/
structure AutLoose (w : World) (p : Nat) (cv : Value) (pv : List Value) (bm n : Nat) (D : DataW Unit) (L M : List Ev) : Prop where
  box : BoxAt w p (autCells cv pv (lastId L) bm) 56
  len : pv.length = 16
  cfg : CfgAt w cv L
  pend : ∀ c v, pv[c]? = some v → PendAt w v (pend L c)
  map : MapAt w bm n D M
theorem AutLoose.shut {w : World} {p : Nat} {cv : Value} {pv : List Value} {bm n : Nat} {D : DataW Unit} {L M : List Ev} (h : AutLoose w p cv pv bm n D L M) : Shut w p := by
  intro o u hc
  rw [h.box.cell] at hc
  have hl := h.len
  by_cases h0 : o = 0
  · subst h0
    obtain ⟨a, ha⟩ := h.cfg.ptr
    simp [autCells] at hc
    subst hc; rw [ha]; trivial
  · by_cases h1 : o < 17
    · have e : o = 1 + (o - 1) := by omega
      rw [e, aut_p (by omega)] at hc
      obtain ⟨a, ha⟩ := (h.pend _ _ hc).ptr
      rw [ha]; trivial
    · by_cases h17 : o = 17
      · subst h17; rw [aut_17 hl] at hc; cases hc; trivial
      · by_cases h18 : o = 18
        · subst h18; rw [aut_18 hl] at hc; cases hc; trivial
        · have : (autCells cv pv (lastId L) bm).size = 19 := by simp [autCells, hl]
          rw [Array.getElem?_eq_none (by omega)] at hc
          cases hc
theorem AutLoose.ne {w : World} {p : Nat} {cv : Value} {pv : List Value} {bm n : Nat} {D : DataW Unit} {L M : List Ev} (h : AutLoose w p cv pv bm n D L M) : p ≠ bm := by
  rintro rfl
  obtain ⟨es, clock, hb, _⟩ := h.map.own
  have := h.box
  unfold BoxAt at this
  rw [hb] at this
  cases this
/-- What is left when something has been opened. -/
theorem AutLoose.opened {w : World} {p : Nat} {cv : Value} {pv : List Value} {bm n : Nat} {D : DataW Unit} {L : List Ev} {x : Ev} (h : AutLoose w p cv pv bm n D L (L ++ [x])) (hL : L ≠ []) (hcl : x.client < 16) (hid : lastId (L ++ [x]) = x.id) (ho : x.opens = true) {b : Nat} (hb : EvBox w b x) :
    AutAt (((w.setCell ⟨p, 1 + x.client, none⟩ (.pointer (some ⟨b, 0, none⟩))).setCell ⟨p, 17, none⟩ (.int .i64 x.id)).drew) p cv (pv.set x.client (.pointer (some ⟨b, 0, none⟩))) bm n D (L ++ [x]) := by
  have hpm := h.ne
  have hS : Ch2 p p w (((w.setCell ⟨p, 1 + x.client, none⟩ (.pointer (some ⟨b, 0, none⟩))).setCell ⟨p, 17, none⟩ (.int .i64 x.id)).drew) := (((Ch2.refl p p _).set (1 + x.client) _).set 17 _).drew
  have hM := h.map.ch2 (Ne.symm hpm) (Ne.symm hpm) hS
  have hC := h.cfg.ch2 h.shut h.shut hS
  refine ⟨?_, by simp [h.len], ?_, ?_, hM⟩
  · have := (h.box.setAt (1 + x.client) (.pointer (some ⟨b, 0, none⟩))).setAt 17 (.int .i64 x.id)
    rw [aut_setP _ _ _ _ (by rw [h.len]; exact hcl), aut_set17 _ _ _ _ _ (by simp [h.len])] at this
    rw [hid]
    exact this.drew
  · cases L with
    | nil => exact absurd rfl hL
    | cons a l => exact hC
  · exact pend_set hL (by rw [h.len]; exact hcl) (fun c u hc => (h.pend c u hc).ch2 h.shut h.shut hS) (by rw [ho, if_pos rfl]; exact ⟨b, rfl, hb.ch2 h.shut h.shut hS⟩)
set_option maxRecDepth 100000 in
set_option maxHeartbeats 1000000 in
theorem autStepInv_c {p : Nat} {cv : Value} {pv : List Value} {bm n : Nat} {D : DataW Unit} {c : Ev} {L : List Ev} (w : World) {x : Ev} {v : Value} (H : StepPre w p cv pv bm n D (c :: L) x v) (hs : stepWhy (c :: L) x = 0) (h2 : x.kind = 2) :
    Calls Tryz.prog 10 #[.pointer (some ⟨p, 0, none⟩), v] w fun e w' => e = .returned (.int .i64 0) ∧ (∃ b, EvNew w w' b x ∧ AutAt w' p cv (pv.set x.client (.pointer (some ⟨b, 0, none⟩))) bm n D (c :: L ++ [x])) ∧ Ch2 p bm w w' := by
  obtain ⟨h, hE, hx, ok⟩ := H
  have HX := Lib.hid hx
  obtain ⟨t, r, rfl, ht, hr⟩ := hx
  have hB0 := BoxAt.new w (x.cells t r) 39
  have hF0 : Fr w (w.alloc (.cells (x.cells t r) 39)) := (Fr.refl w).alloc _
  have hmy := fun W (f : Fr w W) => autMay_c W (h.fr f) (hE.keep f) x (x.val t r) (HX.out.keep f) ok
  have his := fun W (f : Fr w W) => autIs_c W (h.fr f)
  obtain ⟨hmay, h1, _, _, _⟩ := stepWhy_more hs
  have hcl := Ev.may_client hmay
  have ho : x.opens = true := kind_opens.2 (.inl h2)
  have hid := lastId_open hs
  rw [ho, if_pos rfl] at hid
  have htx : x.txn = [] := by
    unfold Ev.may at hmay
    simp only [Bool.and_eq_true, decide_eq_true_eq] at hmay
    rw [hmay.2]
    simp [Ev.needed, h2, Ev.zero]
  have e1 : ((x.kind : Int) == 1) = false := by simp; omega
  have e2 : ((x.kind : Int) == 2) = true := by simp; omega
  have e5 : ((x.kind : Int) == 5) = false := by simp; omega
  have how := fun W (f : Fr w W) => own_c x (x.val t r) W (HX.out.keep f) (by rw [htx]; exact Nat.zero_le _)
  have hidl := ok.id
  rw [hs] at hmy
  unfold Ev.val at hmy how ⊢
  unfold Ev.cells at hB0 hF0
  have HI := Lib.hid his
  have HM := Lib.hid hmy
  have HH := Lib.hid h
  have HW := Lib.hid how
  clear his hmy h hE ht hr hs hmay h1 h2 how
  go_enter Tryz.func10, Tryz.ntmps10
  go_wp2_with fail
  refine (HI.out _ hF0).mono ?_
  rintro e w1 ⟨rfl, hb⟩
  have hB1 := hB0.fr hb
  have hF1 := hF0.trans hb
  clear hb
  go_wp2_with ((with_reducible refine wpList_here (.load 39 (.tmp 3)) rfl ?_); refine wpList_load_box 39 (.tmp 3) rfl _ rfl _ hB1 _ Tryz.underlying39 rfl Tryz.infoEv rfl ?_)
  refine (HM.out _ hF1).mono ?_
  rintro e w2 ⟨rfl, hb⟩
  have hB2 := hB1.fr hb
  have hF2 := hF1.trans hb
  clear hb hB1 hF1
  have k0 : w2.cell? ⟨w.heap.size, 0, none⟩ = some (.int .u8 x.kind) := hB2.at 0 rfl
  have hz := hB2.lt
  go_wp2_with ((with_reducible refine wpList_here (.load 39 (.tmp 3)) rfl ?_); refine wpList_load_box 39 (.tmp 3) rfl _ rfl _ hB2 _ Tryz.underlying39 rfl Tryz.infoEv rfl ?_)
  refine (HW.out _ hF2).mono ?_
  rintro e w3 ⟨ta, tn, tc, ra, rn, rc, rfl, hm3, hr3, hb3⟩
  have hF3 := hF2.trans hb3
  have hB3 := hB2.fr hb3
  have HF2 := Lib.hid hF2
  clear hB2 hF2 k0 hz hb3
  go_wp2_with ((with_reducible refine wpList_here (.store 39 (.tmp 9) (.tmp 53)) rfl ?_); refine wpList_store_new 39 (.tmp 9) (.tmp 53) rfl _ _ _ rfl rfl rfl Tryz.infoEv rfl (Ev.oneCell x ta ra tn tc rn rc) rfl rfl ?_)
  refine gen_w fun W5 hW5 => ?_
  have hN5 : BoxAt W5 w3.heap.size (x.cells (.slice ta tn tc) (.slice ra rn rc)) 39 := by rw [hW5]; exact BoxAt.new _ _ _
  have hb5 : Fr w3 W5 := by rw [hW5]; exact (Fr.refl _).alloc _
  clear hW5
  have hF5 := hF3.trans hb5
  have hA := HH.out.fr hF5
  obtain ⟨v0, _, cp, _⟩ := aut_client hA hcl
  have fp := hA.box.free (1 + x.client)
  have c17 := hA.last
  have f17 := hA.box.free 17
  have hl := hA.box.lt
  have hB5 := hB3.fr hb5
  have k1 : W5.cell? ⟨w.heap.size, 1, none⟩ = some (.int .u8 x.client) := hB5.at 1 rfl
  have k2 : W5.cell? ⟨w.heap.size, 2, none⟩ = some (.int .u16 x.id) := hB5.at 2 rfl
  have hz := hB5.lt
  have hpw : p ≠ w.heap.size := by have := HH.out.box.lt; omega
  have HA := Lib.hid hA
  clear hA hB5 hB3
  go_region
  all_goals
    go_wp2_with fail
    go_ret
    have hA := HA.out
    have hm2 : MapAt W5 bm n D (c :: L ++ [x]) := ⟨hA.map.own, fun k v hk hv => by rw [app_snoc (L := c :: L) (by simp), htx]; simpa using hA.map.at_ k v hk hv⟩
    have hL : AutLoose W5 p cv pv bm n D (c :: L) (c :: L ++ [x]) := ⟨hA.box, hA.len, hA.cfg, hA.pend, hm2⟩
    have hm5 := hm3.fr hb5
    have hp0 := HH.out.box.lt
    have hle3 := hF3.size
    have hle2 := HF2.out.size
    have hSS : Ch2 p p W5 (((W5.setCell ⟨p, 1 + x.client, none⟩ (.pointer (some ⟨w3.heap.size, 0, none⟩))).setCell ⟨p, 17, none⟩ (.int .i64 x.id)).drew) := (((Ch2.refl p p W5).set (1 + x.client) _).set 17 _).drew
    refine ⟨rfl, ⟨w3.heap.size, ⟨hle3, _, _, hN5.ch2 (by omega) (by omega) hSS, (hm5.keep hSS.size fun k hk hlt => hSS.block k hlt (by omega) (by omega)).mono fun k hk => by omega, (hr3.keep hb5).ch2 hL.shut hL.shut hSS⟩, hL.opened (by simp) hcl hid ho (b := w3.heap.size) ⟨_, _, hN5, hm5.mono fun _ _ => trivial, hr3.keep hb5⟩⟩, ?_⟩
    exact (((hF5.ch2).setP _ _).setP _ _).drew
end Go.Proofs.YtdjjjnoecfbjeaaGreatDoor
