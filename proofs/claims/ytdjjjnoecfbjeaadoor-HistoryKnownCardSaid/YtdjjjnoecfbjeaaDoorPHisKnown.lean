/- HistoryKnown. No condition but the tables' content. -/
import Derived.Test.YtdjjjnoecfbjeaaDoorPHisSteps
set_option linter.all false
set_option linter.unusedVariables false
set_option linter.unusedSimpArgs false
set_option linter.unnecessarySimpa false
/- HistoryKnown. No condition but the tables' content. -/
namespace Go.Proofs.YtdjjjnoecfbjeaaDoor
open Go.RowKit
attribute [local go_sem] Oper.semAt_some

set_option maxRecDepth 100000 in
set_option maxHeartbeats 8000000 in
theorem hisKnown_c (w : World) (hE : Env w) : Calls Tryd.prog 6 #[] w fun e w' => e = .returned (.bool true) ∧ Fr w w' := by
  have HE := Lib.hid hE
  clear hE
  go_enter Tryd.func6, Tryd.ntmps6
  go_wp2_with fail
  refine (new_c _).mono ?_
  rintro e w1 ⟨⟨p, bm, rfl, hp, hbm, hA1⟩, hf1⟩
  go_wp2_with fail
  refine (awake7_c _ (HE.out.keep hf1)).mono ?_
  rintro e w2 ⟨rfl, hf⟩
  have hf2 := hf1.trans hf
  have hA2 := hA1.fr hf
  clear hf hA1 hf1
  go_wp2_with fail
  refine (last_c _ hA2).mono ?_
  rw [show lastId [] = -1 from rfl]
  rintro e w3 ⟨rfl, hf⟩
  have hf3 := hf2.trans hf
  have hA3 := hA2.fr hf
  clear hf hA2 hf2
  go_wp2_with fail
  refine (invoke_c 0 5 1 0 _).mono ?_
  rintro e w4 ⟨rfl, hf⟩
  have hf4 := hf3.trans hf
  have hA4 := hA3.fr hf
  clear hf hA3 hf3
  go_wp2_with fail
  refine (stepK_c _ hA4 (HE.out.keep hf4) (evNil rfl rfl) (invOk (by omega) (by omega) (by omega) (by omega)) (by simp) k01 (by rw [stepTo_no (by rw [k01]; omega)])).mono ?_
  rintro e w5 ⟨rfl, hA5, hc⟩
  have hf5 := Ch2.fr hf4 hc hp hbm
  clear hc hA4 hf4
  go_wp2_with fail
  refine (config_c 0 _).mono ?_
  rintro e w6 ⟨rfl, hf⟩
  have hf6 := hf5.trans hf
  have hA6 := hA5.fr hf
  clear hf hA5 hf5
  go_wp2_with fail
  refine (stepK_c (M := [cfgEv 0]) _ hA6 (HE.out.keep hf6) (evNil rfl rfl) (cfgOk (by omega)) (by simp) k02 (by rw [stepTo_yes k02]; rfl)).mono ?_
  rintro e w7 ⟨rfl, hA7, hc⟩
  have hf7 := Ch2.fr hf6 hc hp hbm
  clear hc hA6 hf6
  go_wp2_with fail
  have hm8 := rdM_new (w := w7) [mGet] rfl (by decide)
  have hf8 := hf7.alloc (.cells (micCells [mGet]).toArray 34)
  have hA8 := hA7.fr ((Fr.refl w7).alloc (.cells (micCells [mGet]).toArray 34))
  refine (begin_c 0 1 _ 1 1 [mGet] _).mono ?_
  rintro e w9 ⟨rfl, hf⟩
  have hm9 := RdM.keep hm8 hf
  have hf9 := hf8.trans hf
  have hA9 := hA8.fr hf
  clear hf hA8 hA7 hf8 hf7 hm8
  go_wp2_with fail
  refine (stepK_c (M := [cfgEv 0]) _ hA9 (HE.out.keep hf9) ⟨_, _, rfl, hm9, RdR.nil _⟩ (beginOk (by omega) (by omega) (fun m hm => by obtain rfl := List.mem_singleton.1 hm; exact ⟨by decide, by decide⟩)) (by simp) k03 (by rw [stepTo_no (by rw [k03]; omega)])).mono ?_
  rintro e w10 ⟨rfl, hA10, hc⟩
  have hf10 := Ch2.fr hf9 hc hp hbm
  clear hc hA9 hf9 hm9
  go_wp2_with fail
  refine (invoke_c 0 5 1 0 _).mono ?_
  rintro e w11 ⟨rfl, hf⟩
  have hf11 := hf10.trans hf
  have hA11 := hA10.fr hf
  clear hf hA10 hf10
  go_wp2_with fail
  refine (invoke_c 0 6 1 0 _).mono ?_
  rintro e w12 ⟨rfl, hf⟩
  have hf12 := hf11.trans hf
  have hA12 := hA11.fr hf
  clear hf hA11 hf11
  go_wp2_with fail
  refine (invoke_c 1 5 1 0 _).mono ?_
  rintro e w13 ⟨rfl, hf⟩
  have hf13 := hf12.trans hf
  have hA13 := hA12.fr hf
  clear hf hA12 hf12
  go_wp2_with fail
  refine (invoke_c 1 6 4 0 _).mono ?_
  rintro e w14 ⟨rfl, hf⟩
  have hf14 := hf13.trans hf
  have hA14 := hA13.fr hf
  clear hf hA13 hf13
  go_wp2_with fail
  refine (invoke_c 1 6 2 1 _).mono ?_
  rintro e w15 ⟨rfl, hf⟩
  have hf15 := hf14.trans hf
  have hA15 := hA14.fr hf
  clear hf hA14 hf14
  go_wp2_with fail
  refine (ret_c 0 6 1 0 _).mono ?_
  rintro e w16 ⟨rfl, hf⟩
  have hf16 := hf15.trans hf
  have hA16 := hA15.fr hf
  clear hf hA15 hf15
  go_wp2_with fail
  refine (ret_c 0 5 0 0 _).mono ?_
  rintro e w17 ⟨rfl, hf⟩
  have hf17 := hf16.trans hf
  have hA17 := hA16.fr hf
  clear hf hA16 hf16
  go_wp2_with fail
  refine (ret_c 0 5 1 0 _).mono ?_
  rintro e w18 ⟨rfl, hf⟩
  have hf18 := hf17.trans hf
  have hA18 := hA17.fr hf
  clear hf hA17 hf17
  go_wp2_with fail
  refine (plain_c 4 1 6 _).mono ?_
  rintro e w19 ⟨rfl, hf⟩
  have hf19 := hf18.trans hf
  have hA19 := hA18.fr hf
  clear hf hA18 hf18
  go_wp2_with (refine wpList_buildEvs 9 _ rfl [(invEv 0 5 1 0, nil0, nil0), (invEv 0 6 1 0, nil0, nil0), (invEv 1 5 1 0, nil0, nil0), (invEv 1 6 4 0, nil0, nil0), (invEv 1 6 2 1, nil0, nil0), (retEv 0 6 1 0, nil0, nil0), (retEv 0 5 0 0, nil0, nil0), (retEv 0 5 1 0, nil0, nil0), (plainEv 4 1 6, nil0, nil0)] ?hev rfl (by decide) (by decide) ?hr rfl ?_)
  case hr =>
    intro e he
    have h : e.2.1 = nil0 ∧ e.2.2 = nil0 ∧ e.1.txn = [] ∧ e.1.reads = [] := by
      simp only [List.mem_cons, List.not_mem_nil, or_false] at he
      rcases he with rfl | rfl | rfl | rfl | rfl | rfl | rfl | rfl | rfl <;> exact ⟨rfl, rfl, rfl, rfl⟩
    rw [h.1, h.2.1, h.2.2.1, h.2.2.2]
    exact ⟨RdM.nil _, RdR.nil _⟩
  intro w20 hf hs20 hR20
  have hf20 := hf19.trans hf
  have hA20 := hA19.fr hf
  have hR20 : RdE w20 (.slice (some ⟨w19.heap.size, 0, none⟩) 9 9) kL1 := hR20
  have hlt20 : w19.heap.size < w20.heap.size := by omega
  have hlt19 := hA19.lt
  clear hf hf19 hA19
  go_wp2_with fail
  refine gen_w fun W hW => ?_
  have hBw : BoxAt W (w19.heap.size + 1) (kW1.map fun n : Nat => Value.int .i64 (n : Int)).toArray 39 := by rw [hW]; exact BoxAt.new' w20 _ _ _ hs20.symm
  have hfW : Fr w20 W := by rw [hW]; exact (Fr.refl _).alloc _
  have hRW := hR20.keep hfW
  have hAW := hA20.fr hfW
  have hFW := hf20.trans hfW
  obtain ⟨hpl, hbl⟩ := hA20.lt
  have hp19 : p < w19.heap.size := hlt19.1
  have hb19 : bm < w19.heap.size := hlt19.2
  generalize w19.heap.size = N19 at hBw hRW hp19 hb19 hpl hbl hlt20 ⊢
  clear hW hR20 hA20 hf20 hfW hs20 hlt19 hpl hbl
  go_loopw [4] (fun i wr => ∃ k : Nat, k ≤ 9 ∧ i = .int .i64 k ∧ Fr w wr ∧ Aut wr p bm (runFrom [cfgEv 0] (kL1.take k)) ∧ RdE wr (.slice (some ⟨N19, 0, none⟩) 9 9) kL1 ∧ BoxAt wr (N19 + 1) (kW1.map fun n : Nat => Value.int .i64 (n : Int)).toArray 39) (fun i _ => 9 - (intOf i).toNat)
  case atStart => exact ⟨0, Nat.zero_le _, rfl, hFW, hAW, hRW, hBw⟩
  case round =>
    clear hAW hRW hBw hFW
    obtain ⟨k, hk, rfl, hfr, hA, hR, hB⟩ := hrel
    by_cases hlt : k < 9
    · have hlt1 : k < kL1.length := hlt
      have hltw : k < kW1.length := hlt
      obtain ⟨b1, o1, t, r, he, hb1, hx, ht, hr⟩ := RdE.at hR hlt1
      cases he
      have hc2 : wr.cell? ⟨N19 + 1, k, none⟩ = some (.int .i64 (kW1[k] : Nat)) := hB.at k (by simp [hltw])
      have hwk := kA1.2 k hlt1 hltw
      have hok1 := kOk1 _ (List.getElem_mem hlt1)
      have hrt := runFrom_take (M := [cfgEv 0]) hlt1
      have hlen1 : (runFrom [cfgEv 0] (kL1.take k)).length ≤ 100000000 := by have := runFrom_len [cfgEv 0] (kL1.take k); simp at this; omega
      generalize kW1[k] = wk at hc2 hwk
      generalize kL1[k] = x at hx ht hr hwk hok1 hrt
      obtain ⟨ta, tn, tc, rfl⟩ := ht.slice
      obtain ⟨ra, rn, rc, rfl⟩ := hr.slice
      have hst := stepK_c (n := wk) (M := runFrom [cfgEv 0] (kL1.take (k + 1))) wr.drew (hA.fr ((Fr.refl _).drew)) (HE.out.keep hfr.drew) (x := x) (v := x.val (.slice ta tn tc) (.slice ra rn rc)) ⟨_, _, rfl, ht.keep ((Fr.refl _).drew), hr.keep ((Fr.refl _).drew)⟩ hok1 hlen1 hwk.symm hrt.symm
      have sp := hA.shut
      have sb := hA.mapShut
      have HST := Lib.hid hst
      have HR := Lib.hid hR
      have HB := Lib.hid hB
      have HSS : wr.rangeAt N19 (0 + k * 19) (x.cells (.slice ta tn tc) (.slice ra rn rc)).toList ∧ wr.cell? ⟨N19 + 1, 0 + k * 1, none⟩ = some (.int .i64 wk) := ⟨hx, by rw [Nat.mul_one, Nat.zero_add]; exact hc2⟩
      clear hA hR hB hst hwk hrt ht hr hc2 hx
      go_wp2_with fail
      refine wp_region_held (S := fun W' => W'.rangeAt N19 (0 + k * 19) (x.cells (.slice ta tn tc) (.slice ra rn rc)).toList ∧ W'.cell? ⟨N19 + 1, 0 + k * 1, none⟩ = some (.int .i64 wk)) (by kernel_rfl) ?_
      refine takeD 0 66 (v := .pointer (some ⟨p, 0, none⟩)) rfl rfl (by kernel_rfl) (by kernel_rfl) (by kernel_rfl) (fun _ _ _ h => h) (yRun rfl fun _ _ => rfl) HSS ?_
      simp only [List.setIfInBounds_toArray, List.set_cons_succ, List.set_cons_zero]
      refine takeD 1 67 (v := .slice (some ⟨N19, 0, none⟩) 9 9) rfl rfl (by kernel_rfl) (by kernel_rfl) (by kernel_rfl) (fun _ _ _ h => h) (yRun rfl fun _ _ => rfl) HSS ?_
      simp only [List.setIfInBounds_toArray, List.set_cons_succ, List.set_cons_zero]
      refine takeD 2 68 (v := .int .i64 k) rfl rfl (by kernel_rfl) (by kernel_rfl) (by kernel_rfl) (fun _ _ _ h => h) (yRun rfl fun _ _ => rfl) HSS ?_
      simp only [List.setIfInBounds_toArray, List.set_cons_succ, List.set_cons_zero]
      refine takeD 3 69 (v := .pointer (some ⟨N19, 0 + k * 19, none⟩)) rfl rfl (by kernel_rfl) (by kernel_rfl) (by kernel_rfl) (fun _ _ _ h => h) (yRun rfl fun _ _ => run_idx 42 32 (.tmp 67) (.tmp 68) rfl N19 0 9 9 k 19 .i64 rfl rfl Tryd.underlying42 Tryd.infoEv hlt) HSS ?_
      simp only [List.setIfInBounds_toArray, List.set_cons_succ, List.set_cons_zero]
      refine takeD 4 70 (v := .agg (x.cells (.slice ta tn tc) (.slice ra rn rc)).toList.toArray) rfl rfl (by kernel_rfl) (by kernel_rfl) (by kernel_rfl) (fun _ _ _ h => h) (yRun rfl fun _ hS => run_ld_mid 32 (.tmp 69) rfl N19 (0 + k * 19) rfl _ _ hS.1 Tryd.underlying32 rfl Tryd.infoEv) HSS ?_
      simp only [List.setIfInBounds_toArray, List.set_cons_succ, List.set_cons_zero]
      refine takeD 6 72 (v := .slice (some ⟨N19 + 1, 0, none⟩) 9 9) rfl rfl (by kernel_rfl) (by kernel_rfl) (by kernel_rfl) (fun _ _ _ h => h) (yRun rfl fun _ _ => rfl) HSS ?_
      simp only [List.setIfInBounds_toArray, List.set_cons_succ, List.set_cons_zero]
      refine takeD 7 73 (v := .int .i64 k) rfl rfl (by kernel_rfl) (by kernel_rfl) (by kernel_rfl) (fun _ _ _ h => h) (yRun rfl fun _ _ => rfl) HSS ?_
      simp only [List.setIfInBounds_toArray, List.set_cons_succ, List.set_cons_zero]
      refine takeD 8 74 (v := .pointer (some ⟨N19 + 1, 0 + k * 1, none⟩)) rfl rfl (by kernel_rfl) (by kernel_rfl) (by kernel_rfl) (fun _ _ _ h => h) (yRun rfl fun _ _ => run_idx 57 39 (.tmp 72) (.tmp 73) rfl (N19 + 1) 0 9 9 k 1 .i64 rfl rfl Tryd.underlying57 Tryd.infoErr hlt) HSS ?_
      simp only [List.setIfInBounds_toArray, List.set_cons_succ, List.set_cons_zero]
      refine takeD 9 75 (v := .int .i64 wk) rfl rfl (by kernel_rfl) (by kernel_rfl) (by kernel_rfl) (fun _ _ _ h => h) (yRun rfl fun W hS => run_ld 39 (.tmp 74) rfl _ rfl _ (by have := hS.2; rw [Nat.mul_one, Nat.zero_add] at this; simp [go_sem, Instr.loadAt, this, Tryd.underlying39])) HSS ?_
      simp only [List.setIfInBounds_toArray, List.set_cons_succ, List.set_cons_zero]
      refine wpAnyH_all (rs := [5]) (by kernel_rfl) (by simp) (fun i hi => ?_)
      obtain rfl : i = 5 := by simpa using hi
      refine wpOp_enterD 71 rfl rfl rfl 15 #[.pointer (some ⟨p, 0, none⟩), x.val (.slice ta tn tc) (.slice ra rn rc)] (run_call Tryd.func15 (by kernel_rfl) rfl _ _ rfl _ (by simp [Act.eval]; rfl)) (.int .i64 wk) ?_
      refine HST.out.mono ?_
      rintro e w22 ⟨rfl, hA2, hch2⟩
      have hF2 : Fr w w22 := Ch2.fr hfr.drew hch2 hp hbm
      have hbl : wr.drew.heap[N19]? = wr.heap[N19]? := rfl
      have hS2 : w22.rangeAt N19 (0 + k * 19) (x.cells (.slice ta tn tc) (.slice ra rn rc)).toList ∧ w22.cell? ⟨N19 + 1, 0 + k * 1, none⟩ = some (.int .i64 wk) := ⟨rangeAt_keep (w := wr.drew) HSS.1 (hch2.block N19 hb1 (by omega) (by omega)), hch2.keep (w := wr.drew) (by omega) (by omega) HSS.2⟩
      have hR2 := (HR.out.keep ((Fr.refl _).drew)).ch2 (w := wr.drew) sp sb hch2
      have hB2 := BoxAt.ch2 (w := wr.drew) HB.out (by omega) (by omega) hch2
      refine ⟨rfl, hS2, ?_⟩
      simp only [List.setIfInBounds_toArray, List.set_cons_succ, List.set_cons_zero]
      refine wpAnyH_all (rs := [10]) (by kernel_rfl) (by simp) (fun i hi => ?_)
      obtain rfl : i = 10 := by simpa using hi
      refine wpOp_runD 76 rfl rfl rfl (.bool false) w22 ?_ ?_
      · unfold execOp
        simp [go_sem, Act.eval, Act.put, Tryd.underlying39]
      refine ⟨hS2, wpAnyH_done (by kernel_rfl) ?_ _⟩
      have HA2 := Lib.hid hA2
      have HR2 := Lib.hid hR2
      have HB2 := Lib.hid hB2
      clear hA2 hR2 hB2 hch2 hS2 HSS HST
      simp only [List.setIfInBounds_toArray, List.set_cons_succ, List.set_cons_zero]
      go_wp2_with fail
      go_roundw
      case rel => exact ⟨k + 1, by omega, by go_num, hF2, HA2.out, HR2.out, HB2.out⟩
      case measure => simp [intOf]; omega
    · have hk9 : kL1.take k = kL1 := List.take_of_length_le (by simp [kL1]; omega)
      rw [hk9, kR1] at hA
      clear hR hB hk9
      obtain ⟨W23, hW23⟩ : ∃ W23, W23 = wr := ⟨wr, rfl⟩
      subst hW23
      go_wp2_with fail
      refine (open_c _ hA).mono ?_
      rw [kO1]
      rintro e w24 ⟨rfl, hf⟩
      have hf24 := hfr.trans hf
      have hA24 := hA.fr hf
      clear hf hA hfr
      go_wp2_with fail
      refine (last_c _ hA24).mono ?_
      rw [kI1]
      rintro e w25 ⟨rfl, hf⟩
      have hf25 := hf24.trans hf
      have hA25 := hA24.fr hf
      clear hf hA24 hf24
      go_wp2_with fail
      refine (invoke_c 1 7 1 0 _).mono ?_
      rintro e w26 ⟨rfl, hf⟩
      have hf26 := hf25.trans hf
      have hA26 := hA25.fr hf
      clear hf hA25 hf25
      go_wp2_with fail
      refine (stepK_c (M := kM2) _ hA26 (HE.out.keep hf26) (evNil rfl rfl) (invOk (by omega) (by omega) (by omega) (by omega)) (by decide) kS1 (by rw [stepTo_yes kS1]; rfl)).mono ?_
      rintro e w27 ⟨rfl, hA27, hc⟩
      have hf27 := Ch2.fr hf26 hc hp hbm
      clear hc hA26 hf26
      go_wp2_with fail
      refine (open_c _ hA27).mono ?_
      rw [kO2]
      rintro e w28 ⟨rfl, hf⟩
      have hf28 := hf27.trans hf
      clear hf hA27 hf27
      go_wp2_with (first | ((with_reducible refine wpList_here (.store 32 (.tmp 7) (.tmp 98)) rfl ?_); refine wpList_store_new 32 (.tmp 7) (.tmp 98) rfl _ (commEv.cells nil0 nil0) _ (by simp) rfl rfl Tryd.infoEv rfl (Ev.oneCell commEv none none 0 0 0 0) rfl rfl ?_) | ((with_reducible refine wpList_here (.store 32 (.tmp 8) (.tmp 100)) rfl ?_); refine wpList_store_new 32 (.tmp 8) (.tmp 100) rfl _ (fullEv.cells nil0 (.slice (some ⟨w28.heap.size + 3, 0, none⟩) 1 1)) _ (by simp) rfl rfl Tryd.infoEv rfl (Ev.oneCell fullEv none (some ⟨w28.heap.size + 3, 0, none⟩) 0 0 1 1) rfl rfl ?_))
      refine gen_w fun W16 hW16 => ?_
      have h5 : BoxAt W16 w28.heap.size mPut.cells.toArray 34 := by rw [hW16]; exact ((((BoxAt.new w28 _ _).alloc _).alloc _).alloc _).alloc _
      have h6 : BoxAt W16 (w28.heap.size + 1) mGet.cells.toArray 34 := by rw [hW16]; exact (((BoxAt.new' _ _ _ _ (by simp)).alloc _).alloc _).alloc _
      have h7 : BoxAt W16 (w28.heap.size + 1 + 1) (commEv.cells nil0 nil0) 32 := by rw [hW16]; exact ((BoxAt.new' _ _ _ _ (by simp)).alloc _).alloc _
      have h9 : BoxAt W16 (w28.heap.size + 3) #[.slice none 0 0] 35 := by rw [hW16]; exact (BoxAt.new' _ _ _ _ (by simp)).alloc _
      have h8 : BoxAt W16 (w28.heap.size + 1 + 1 + 1 + 1) (fullEv.cells nil0 (.slice (some ⟨w28.heap.size + 3, 0, none⟩) 1 1)) 32 := by rw [hW16]; exact BoxAt.new' _ _ _ _ (by simp)
      have hF16 : Fr w28 W16 := by rw [hW16]; exact (((((Fr.refl _).alloc _).alloc _).alloc _).alloc _).alloc _
      have hrv : RdR W16 (.slice (some ⟨w28.heap.size + 3, 0, none⟩) 1 1) [[]] := by
        refine ⟨[.slice none 0 0], rfl, ⟨_, 1, rfl, Nat.le_refl _, by decide, .inr ⟨w28.heap.size + 3, 0, rfl, trivial, h9.lt, fun j u hj => ?_⟩⟩, fun i l u hl hu => ?_⟩
        · rw [Nat.zero_add, h9.cell]; simpa using hj
        · cases i with
          | zero => simp at hl hu; subst hl hu; exact ⟨none, 0, rfl, Nat.le_refl _, by decide, .inl rfl⟩
          | succ i => simp at hl
      have hFW := hf28.trans hF16
      generalize hN : w28.heap.size = N at h5 h6 h7 h8 hrv ⊢
      generalize hrvv : (Value.slice (some ⟨N + 3, 0, none⟩) 1 1) = rv at h8 hrv ⊢
      clear hW16 h9 hN hf28 hF16
      refine wp_region_preds (n := 29) (d := fun j => 101 + j) (Pr := kPr rv) (by kernel_rfl) rfl (by kernel_rfl) (fun i j hi hj hne h => by have h : 101 + i = 101 + j := h; omega) (fun j hj => by show 101 + j < _; simp only [List.size_toArray, List.length_cons, List.length_nil]; omega) (fun j hj w w' v hf hp => kPr_fr rv j w w' v hf hp) ?hop ?hend
      case hop =>
        intro j hj K a w' hf hw ho hK
        rcases (show j = 0 ∨ j = 1 ∨ j = 2 ∨ j = 3 ∨ j = 4 ∨ j = 5 ∨ j = 6 ∨ j = 7 ∨ j = 8 ∨ j = 9 ∨ j = 10 ∨ j = 11 ∨ j = 12 ∨ j = 13 ∨ j = 14 ∨ j = 15 ∨ j = 16 ∨ j = 17 ∨ j = 18 ∨ j = 19 ∨ j = 20 ∨ j = 21 ∨ j = 22 ∨ j = 23 ∨ j = 24 ∨ j = 25 ∨ j = 26 ∨ j = 27 ∨ j = 28 by omega) with rfl | rfl | rfl | rfl | rfl | rfl | rfl | rfl | rfl | rfl | rfl | rfl | rfl | rfl | rfl | rfl | rfl | rfl | rfl | rfl | rfl | rfl | rfl | rfl | rfl | rfl | rfl | rfl | rfl
        · -- 0
          exact wpOp_enter rfl rfl 21 #[.int .u8 4] (run_call Tryd.func21 (by kernel_rfl) rfl _ _ rfl _ (by simp [Act.eval])) _ ((config_c 4 _).mono fun e w' ⟨he, hf'⟩ => ⟨he, hK _ w' hf' rfl⟩)
        · -- 1
          exact wpOp_run rfl rfl _ w' (run_load_box 34 (.tmp 5) rfl N (evalOf ((ho 5 (fun j hj => by show 5 ≠ 101 + j; omega)).trans rfl)) mPut.cells.toArray (h5.fr hf) _ Tryd.underlying34 rfl Tryd.infoMicZ) (hK _ w' (Fr.refl _) rfl)
        · -- 2
          exact wpOp_run rfl rfl _ w' (run_load_box 34 (.tmp 6) rfl (N + 1) (evalOf ((ho 6 (fun j hj => by show 6 ≠ 101 + j; omega)).trans rfl)) mGet.cells.toArray (h6.fr hf) _ Tryd.underlying34 rfl Tryd.infoMicZ) (hK _ w' (Fr.refl _) rfl)
        · -- 3
          obtain ⟨v1, (e1 : a.tmps[102]? = _), rfl⟩ := hw 1 (by omega) (by kernel_rfl)
          obtain ⟨v2, (e2 : a.tmps[103]? = _), rfl⟩ := hw 2 (by omega) (by kernel_rfl)
          exact wpOp_run rfl rfl _ _ (run_bsMic 2 _ rfl [mPut, mGet] (by simp [evalOf e1, evalOf e2]; try rfl) rfl (by omega) (by omega)) (hK _ _ ((Fr.refl w').alloc _) ⟨_, rfl, rdM_new [mPut, mGet] rfl (by decide)⟩)
        · -- 4
          obtain ⟨v3, (e3 : a.tmps[104]? = _), b, rfl, hm⟩ := hw 3 (by omega) (by kernel_rfl)
          exact wpOp_enter rfl rfl 22 #[.int .u8 0, .int .u16 1, .slice (some ⟨b, 0, none⟩) 2 2] (run_call Tryd.func22 (by kernel_rfl) rfl _ _ rfl _ (by simp [Act.eval, e3]; try rfl)) _ ((begin_c 0 1 _ 2 2 [mPut, mGet] _).mono fun e w2 ⟨he, hf'⟩ => ⟨he, hK _ w2 hf' ⟨_, rfl, hm.keep hf'⟩⟩)
        · -- 5
          exact wpOp_run rfl rfl _ w' (run_load_box 34 (.tmp 5) rfl N (evalOf ((ho 5 (fun j hj => by show 5 ≠ 101 + j; omega)).trans rfl)) mPut.cells.toArray (h5.fr hf) _ Tryd.underlying34 rfl Tryd.infoMicZ) (hK _ w' (Fr.refl _) rfl)
        · -- 6
          exact wpOp_run rfl rfl _ w' (run_load_box 34 (.tmp 5) rfl N (evalOf ((ho 5 (fun j hj => by show 5 ≠ 101 + j; omega)).trans rfl)) mPut.cells.toArray (h5.fr hf) _ Tryd.underlying34 rfl Tryd.infoMicZ) (hK _ w' (Fr.refl _) rfl)
        · -- 7
          obtain ⟨v5, (e5 : a.tmps[106]? = _), rfl⟩ := hw 5 (by omega) (by kernel_rfl)
          obtain ⟨v6, (e6 : a.tmps[107]? = _), rfl⟩ := hw 6 (by omega) (by kernel_rfl)
          exact wpOp_run rfl rfl _ _ (run_bsMic 2 _ rfl [mPut, mPut] (by simp [evalOf e5, evalOf e6]; try rfl) rfl (by omega) (by omega)) (hK _ _ ((Fr.refl w').alloc _) ⟨_, rfl, rdM_new [mPut, mPut] rfl (by decide)⟩)
        · -- 8
          obtain ⟨v7, (e7 : a.tmps[108]? = _), b, rfl, hm⟩ := hw 7 (by omega) (by kernel_rfl)
          exact wpOp_enter rfl rfl 22 #[.int .u8 0, .int .u16 1, .slice (some ⟨b, 0, none⟩) 2 2] (run_call Tryd.func22 (by kernel_rfl) rfl _ _ rfl _ (by simp [Act.eval, e7]; try rfl)) _ ((begin_c 0 1 _ 2 2 [mPut, mPut] _).mono fun e w2 ⟨he, hf'⟩ => ⟨he, hK _ w2 hf' ⟨_, rfl, hm.keep hf'⟩⟩)
        · -- 9
          exact wpOp_run rfl rfl _ w' (run_load_box 34 (.tmp 6) rfl (N + 1) (evalOf ((ho 6 (fun j hj => by show 6 ≠ 101 + j; omega)).trans rfl)) mGet.cells.toArray (h6.fr hf) _ Tryd.underlying34 rfl Tryd.infoMicZ) (hK _ w' (Fr.refl _) rfl)
        · -- 10
          exact wpOp_run rfl rfl _ w' (run_load_box 34 (.tmp 5) rfl N (evalOf ((ho 5 (fun j hj => by show 5 ≠ 101 + j; omega)).trans rfl)) mPut.cells.toArray (h5.fr hf) _ Tryd.underlying34 rfl Tryd.infoMicZ) (hK _ w' (Fr.refl _) rfl)
        · -- 11
          obtain ⟨v9, (e9 : a.tmps[110]? = _), rfl⟩ := hw 9 (by omega) (by kernel_rfl)
          obtain ⟨v10, (e10 : a.tmps[111]? = _), rfl⟩ := hw 10 (by omega) (by kernel_rfl)
          exact wpOp_run rfl rfl _ _ (run_bsMic 2 _ rfl [mGet, mPut] (by simp [evalOf e9, evalOf e10]; try rfl) rfl (by omega) (by omega)) (hK _ _ ((Fr.refl w').alloc _) ⟨_, rfl, rdM_new [mGet, mPut] rfl (by decide)⟩)
        · -- 12
          obtain ⟨v11, (e11 : a.tmps[112]? = _), b, rfl, hm⟩ := hw 11 (by omega) (by kernel_rfl)
          exact wpOp_enter rfl rfl 22 #[.int .u8 0, .int .u16 1, .slice (some ⟨b, 0, none⟩) 2 2] (run_call Tryd.func22 (by kernel_rfl) rfl _ _ rfl _ (by simp [Act.eval, e11]; try rfl)) _ ((begin_c 0 1 _ 2 2 [mGet, mPut] _).mono fun e w2 ⟨he, hf'⟩ => ⟨he, hK _ w2 hf' ⟨_, rfl, hm.keep hf'⟩⟩)
        · -- 13
          exact wpOp_run rfl rfl _ w' (run_load_box 34 (.tmp 5) rfl N (evalOf ((ho 5 (fun j hj => by show 5 ≠ 101 + j; omega)).trans rfl)) mPut.cells.toArray (h5.fr hf) _ Tryd.underlying34 rfl Tryd.infoMicZ) (hK _ w' (Fr.refl _) rfl)
        · -- 14
          obtain ⟨v13, (e13 : a.tmps[114]? = _), rfl⟩ := hw 13 (by omega) (by kernel_rfl)
          exact wpOp_run rfl rfl _ _ (run_bsMic 1 _ rfl [mPut] (by simp [evalOf e13]; try rfl) rfl (by omega) (by omega)) (hK _ _ ((Fr.refl w').alloc _) ⟨_, rfl, rdM_new [mPut] rfl (by decide)⟩)
        · -- 15
          obtain ⟨v14, (e14 : a.tmps[115]? = _), b, rfl, hm⟩ := hw 14 (by omega) (by kernel_rfl)
          exact wpOp_enter rfl rfl 22 #[.int .u8 1, .int .u16 2, .slice (some ⟨b, 0, none⟩) 1 1] (run_call Tryd.func22 (by kernel_rfl) rfl _ _ rfl _ (by simp [Act.eval, e14]; try rfl)) _ ((begin_c 1 2 _ 1 1 [mPut] _).mono fun e w2 ⟨he, hf'⟩ => ⟨he, hK _ w2 hf' ⟨_, rfl, hm.keep hf'⟩⟩)
        · -- 16
          exact wpOp_run rfl rfl _ w' (run_load_box 32 (.tmp 7) rfl (N + 1 + 1) (evalOf ((ho 7 (fun j hj => by show 7 ≠ 101 + j; omega)).trans rfl)) (commEv.cells nil0 nil0) (h7.fr hf) _ Tryd.underlying32 rfl Tryd.infoEv) (hK _ w' (Fr.refl _) rfl)
        · -- 17
          exact wpOp_run rfl rfl _ w' (run_load_box 32 (.tmp 8) rfl (N + 1 + 1 + 1 + 1) (evalOf ((ho 8 (fun j hj => by show 8 ≠ 101 + j; omega)).trans rfl)) (fullEv.cells nil0 rv) (h8.fr hf) _ Tryd.underlying32 rfl Tryd.infoEv) (hK _ w' (Fr.refl _) ⟨rfl, hrv.keep hf⟩)
        · -- 18
          exact wpOp_run rfl rfl _ w' (run_load_box 34 (.tmp 6) rfl (N + 1) (evalOf ((ho 6 (fun j hj => by show 6 ≠ 101 + j; omega)).trans rfl)) mGet.cells.toArray (h6.fr hf) _ Tryd.underlying34 rfl Tryd.infoMicZ) (hK _ w' (Fr.refl _) rfl)
        · -- 19
          exact wpOp_run rfl rfl _ w' (run_load_box 34 (.tmp 6) rfl (N + 1) (evalOf ((ho 6 (fun j hj => by show 6 ≠ 101 + j; omega)).trans rfl)) mGet.cells.toArray (h6.fr hf) _ Tryd.underlying34 rfl Tryd.infoMicZ) (hK _ w' (Fr.refl _) rfl)
        · -- 20
          obtain ⟨v18, (e18 : a.tmps[119]? = _), rfl⟩ := hw 18 (by omega) (by kernel_rfl)
          obtain ⟨v19, (e19 : a.tmps[120]? = _), rfl⟩ := hw 19 (by omega) (by kernel_rfl)
          exact wpOp_run rfl rfl _ _ (run_bsMic 2 _ rfl [mGet, mGet] (by simp [evalOf e18, evalOf e19]; try rfl) rfl (by omega) (by omega)) (hK _ _ ((Fr.refl w').alloc _) ⟨_, rfl, rdM_new [mGet, mGet] rfl (by decide)⟩)
        · -- 21
          obtain ⟨v20, (e20 : a.tmps[121]? = _), b, rfl, hm⟩ := hw 20 (by omega) (by kernel_rfl)
          exact wpOp_enter rfl rfl 22 #[.int .u8 1, .int .u16 2, .slice (some ⟨b, 0, none⟩) 2 2] (run_call Tryd.func22 (by kernel_rfl) rfl _ _ rfl _ (by simp [Act.eval, e20]; try rfl)) _ ((begin_c 1 2 _ 2 2 [mGet, mGet] _).mono fun e w2 ⟨he, hf'⟩ => ⟨he, hK _ w2 hf' ⟨_, rfl, hm.keep hf'⟩⟩)
        · -- 22
          exact wpOp_enter rfl rfl 24 #[.int .u8 7, .int .u8 1, .int .u16 2] (run_call Tryd.func24 (by kernel_rfl) rfl _ _ rfl _ (by simp [Act.eval])) _ ((plain_c 7 1 2 _).mono fun e w2 ⟨he, hf'⟩ => ⟨he, hK _ w2 hf' rfl⟩)
        · -- 23
          exact wpOp_enter rfl rfl 24 #[.int .u8 7, .int .u8 1, .int .u16 2] (run_call Tryd.func24 (by kernel_rfl) rfl _ _ rfl _ (by simp [Act.eval])) _ ((plain_c 7 1 2 _).mono fun e w2 ⟨he, hf'⟩ => ⟨he, hK _ w2 hf' rfl⟩)
        · -- 24
          exact wpOp_enter rfl rfl 20 #[.int .u8 0, .int .u16 9, .int .u8 1, .int .u16 0] (run_call Tryd.func20 (by kernel_rfl) rfl _ _ rfl _ (by simp [Act.eval])) _ ((invoke_c 0 9 1 0 _).mono fun e w2 ⟨he, hf'⟩ => ⟨he, hK _ w2 hf' rfl⟩)
        · -- 25
          obtain ⟨_, (e0 : a.tmps[101]? = _), rfl⟩ := hw 0 (by omega) (by kernel_rfl)
          obtain ⟨_, (e4 : a.tmps[105]? = _), t4, rfl, m4⟩ := hw 4 (by omega) (by kernel_rfl)
          obtain ⟨_, (e8 : a.tmps[109]? = _), t8, rfl, m8⟩ := hw 8 (by omega) (by kernel_rfl)
          obtain ⟨_, (e12 : a.tmps[113]? = _), t12, rfl, m12⟩ := hw 12 (by omega) (by kernel_rfl)
          obtain ⟨_, (e15 : a.tmps[116]? = _), t15, rfl, m15⟩ := hw 15 (by omega) (by kernel_rfl)
          obtain ⟨_, (e16 : a.tmps[117]? = _), rfl⟩ := hw 16 (by omega) (by kernel_rfl)
          obtain ⟨_, (e17 : a.tmps[118]? = _), rfl, m17⟩ := hw 17 (by omega) (by kernel_rfl)
          obtain ⟨_, (e21 : a.tmps[122]? = _), t21, rfl, m21⟩ := hw 21 (by omega) (by kernel_rfl)
          obtain ⟨_, (e22 : a.tmps[123]? = _), rfl⟩ := hw 22 (by omega) (by kernel_rfl)
          obtain ⟨_, (e23 : a.tmps[124]? = _), rfl⟩ := hw 23 (by omega) (by kernel_rfl)
          obtain ⟨_, (e24 : a.tmps[125]? = _), rfl⟩ := hw 24 (by omega) (by kernel_rfl)
          refine wpOp_run rfl rfl _ _ (run_bsEv 11 _ rfl [(cfgEv 4, nil0, nil0), (beginEv 0 1 [mPut, mGet], t4, nil0), (beginEv 0 1 [mPut, mPut], t8, nil0), (beginEv 0 1 [mGet, mPut], t12, nil0), (beginEv 1 2 [mPut], t15, nil0), (commEv, nil0, nil0), (fullEv, nil0, rv), (beginEv 1 2 [mGet, mGet], t21, nil0), (plainEv 7 1 2, nil0, nil0), (plainEv 7 1 2, nil0, nil0), (invEv 0 9 1 0, nil0, nil0)] (by simp [evalOf e0, evalOf e4, evalOf e8, evalOf e12, evalOf e15, evalOf e16, evalOf e17, evalOf e21, evalOf e22, evalOf e23, evalOf e24]) rfl (by omega) (by omega)) (hK _ _ ((Fr.refl w').alloc _) ⟨_, rfl, rdE_new [(cfgEv 4, nil0, nil0), (beginEv 0 1 [mPut, mGet], t4, nil0), (beginEv 0 1 [mPut, mPut], t8, nil0), (beginEv 0 1 [mGet, mPut], t12, nil0), (beginEv 1 2 [mPut], t15, nil0), (commEv, nil0, nil0), (fullEv, nil0, rv), (beginEv 1 2 [mGet, mGet], t21, nil0), (plainEv 7 1 2, nil0, nil0), (plainEv 7 1 2, nil0, nil0), (invEv 0 9 1 0, nil0, nil0)] rfl (by simp) ?_⟩)
          intro e he
          simp only [List.mem_cons, List.not_mem_nil, or_false] at he
          rcases he with rfl | rfl | rfl | rfl | rfl | rfl | rfl | rfl | rfl | rfl | rfl
          all_goals first | exact ⟨m4, RdR.nil _⟩ | exact ⟨m8, RdR.nil _⟩ | exact ⟨m12, RdR.nil _⟩ | exact ⟨m15, RdR.nil _⟩ | exact ⟨m21, RdR.nil _⟩ | exact ⟨RdM.nil _, m17⟩ | exact ⟨RdM.nil _, RdR.nil _⟩
        · -- 26
          exact wpOp_run rfl rfl _ _ (run_bsInt 11 _ rfl kW2 (by simp [Act.eval, kW2]) rfl (by omega) (by omega)) (hK _ _ ((Fr.refl w').alloc _) ⟨_, rfl, RdI.new w' kW2 _ _ rfl (by decide)⟩)
        · -- 27
          obtain ⟨_, (e25 : a.tmps[126]? = _), b, rfl, hR⟩ := hw 25 (by omega) (by kernel_rfl)
          obtain ⟨_, (e26 : a.tmps[127]? = _), c, rfl, hI⟩ := hw 26 (by omega) (by kernel_rfl)
          exact wpOp_enter rfl rfl 25 #[.slice (some ⟨b, 0, none⟩) 11 11, .slice (some ⟨c, 0, none⟩) 11 11] (run_call Tryd.func25 (by kernel_rfl) rfl _ _ rfl _ (by simp [Act.eval, e25, e26])) _ ((steps_c kL2 kW2 _ _ w' (HE.out.keep (hFW.trans hf)) hR hI kOk2 (by decide) kA2).mono fun e w2 ⟨he, hf'⟩ => ⟨he, hK _ w2 hf' rfl⟩)
        · -- 28
          obtain ⟨_, (e27 : a.tmps[128]? = _), rfl⟩ := hw 27 (by omega) (by kernel_rfl)
          exact wpOp_run rfl rfl (.bool false) w' (by unfold execOp; simp [go_sem, e27]) (hK _ w' (Fr.refl _) rfl)
      case hend =>
        intro f W17 hf17 hP
        have p28 : f 28 = .bool false := hP 28 (by omega)
        have hF17 := hFW.trans hf17
        clear hP h5 h6 h7 h8 hrv hFW hf17
        simp only [laidS, List.setIfInBounds_toArray, List.set_cons_succ, List.set_cons_zero, p28]
        go_wp2_with fail
        refine (config_c 3 _).mono ?_
        rintro e w18 ⟨rfl, hf⟩
        have hf18 := hF17.trans hf
        clear hf hF17
        go_wp2_with fail
        refine (invoke_c 0 1 10 0 _).mono ?_
        rintro e w19' ⟨rfl, hf⟩
        have hf19 := hf18.trans hf
        clear hf hf18
        go_wp2_with fail
        refine (invoke_c 1 1 10 0 _).mono ?_
        rintro e w20' ⟨rfl, hf⟩
        have hf20 := hf19.trans hf
        clear hf hf19
        go_wp2_with (refine wpList_buildEvs 3 _ rfl [(cfgEv 3, nil0, nil0), (invEv 0 1 10 0, nil0, nil0), (invEv 1 1 10 0, nil0, nil0)] ?hev3 rfl (by decide) (by decide) ?hr3 rfl ?_)
        case hr3 =>
          intro e he
          have h : e.2.1 = nil0 ∧ e.2.2 = nil0 ∧ e.1.txn = [] ∧ e.1.reads = [] := by
            simp only [List.mem_cons, List.not_mem_nil, or_false] at he
            rcases he with rfl | rfl | rfl <;> exact ⟨rfl, rfl, rfl, rfl⟩
          rw [h.1, h.2.1, h.2.2.1, h.2.2.2]
          exact ⟨RdM.nil _, RdR.nil _⟩
        intro w21 hf hs21 hR21
        have hf21 := hf20.trans hf
        have hR21 : RdE w21 (.slice (some ⟨w20'.heap.size, 0, none⟩) 3 3) kL3 := hR21
        clear hf hf20 hs21
        go_wp2_with fail
        refine (all_c kL3 _ _ (HE.out.keep hf21) hR21 kOk3 (by decide)).mono ?_
        rw [kT3]
        rintro e w22 ⟨rfl, hf⟩
        have hf22 := hf21.trans hf
        clear hf hf21 hR21
        go_wp2_with fail
        refine (configNot_c (.pointer none) _ (.inl rfl)).mono ?_
        rintro e w23 ⟨rfl, hf⟩
        have hB : BoxAt w23 w22.heap.size notCells 64 := (BoxAt.new w22 _ _).fr hf
        have hf23 : Fr w w23 := hf22.trans (((Fr.refl _).alloc _).trans hf)
        clear hf hf22
        generalize w22.heap.size = z at hB ⊢
        go_wp2_with ((with_reducible refine wpList_here (.store 30 (.tmp 13) (.tmp 143)) rfl ?_); refine wpList_store_new 30 (.tmp 13) (.tmp 143) rfl _ Cfg.zero.cells.toArray _ rfl rfl rfl Tryd.infoCfgK rfl cfgZ_one rfl rfl ?_)
        have hB2 := hB.alloc (.cells Cfg.zero.cells.toArray 30)
        have hf23' : Fr w (w23.alloc (.cells Cfg.zero.cells.toArray 30)) := hf23.trans ((Fr.refl _).alloc _)
        refine (pendingNot_c _ _ (.inr ⟨z, rfl, hB2⟩) 0).mono ?_
        rintro e w24' ⟨rfl, hf⟩
        have hB3 := hB2.fr hf
        have hf24 := hf23'.trans hf
        clear hf hf23' hf23 hB2 hB
        go_wp2_with ((with_reducible refine wpList_here (.store 32 (.tmp 15) (.tmp 148)) rfl ?_); refine wpList_store_new 32 (.tmp 15) (.tmp 148) rfl _ (Ev.zero.cells nil0 nil0) _ rfl rfl rfl Tryd.infoEv rfl zero_one rfl rfl ?_)
        have hB4 : BoxAt (w24'.alloc (.cells (Ev.zero.cells nil0 nil0) 32)) z notCells 64 := hB3.alloc _
        have hfZ : Fr w (w24'.alloc (.cells (Ev.zero.cells nil0 nil0) 32)) := hf24.trans ((Fr.refl _).alloc _)
        clear hB3 hf24
        refine (config_c 0 _).mono ?_
        rintro e y0 ⟨rfl, hf⟩
        have hB50 := hB4.fr hf
        have hf50 := hfZ.trans hf
        clear hf hB4 hfZ
        go_wp2_with fail
        refine (stepNot_c _ _ (.inl rfl) (cfgEv 0) nil0 nil0).mono ?_
        rintro e y1 ⟨rfl, hf⟩
        have hB51 := hB50.fr hf
        have hf51 := hf50.trans hf
        clear hf hB50 hf50
        go_wp2_with fail
        refine (config_c 0 _).mono ?_
        rintro e y2 ⟨rfl, hf⟩
        have hB52 := hB51.fr hf
        have hf52 := hf51.trans hf
        clear hf hB51 hf51
        go_wp2_with fail
        refine (stepNot_c _ _ (.inr ⟨z, rfl, hB52⟩) (cfgEv 0) nil0 nil0).mono ?_
        rintro e y3 ⟨rfl, hf⟩
        have hB53 := hB52.fr hf
        have hf53 := hf52.trans hf
        clear hf hB52 hf52
        go_wp2_with fail
        refine (openNot_c _ _ (.inl rfl)).mono ?_
        rintro e y4 ⟨rfl, hf⟩
        have hB54 := hB53.fr hf
        have hf54 := hf53.trans hf
        clear hf hB53 hf53
        go_wp2_with fail
        refine (lastNot_c _ _ (.inr ⟨z, rfl, hB54⟩)).mono ?_
        rintro e y5 ⟨rfl, hf⟩
        have hB55 := hB54.fr hf
        have hf55 := hf54.trans hf
        clear hf hB54 hf54
        go_wp2_with fail
        refine (copyNot_c _ _ (.inl rfl)).mono ?_
        rintro e y6 ⟨rfl, hf⟩
        have hB56 := hB55.fr hf
        have hf56 := hf55.trans hf
        clear hf hB55 hf55
        go_wp2_with fail
        refine (copyNot_c _ _ (.inr ⟨z, rfl, hB56⟩)).mono ?_
        rintro e y7 ⟨rfl, hf⟩
        have hB57 := hB56.fr hf
        have hf57 := hf56.trans hf
        clear hf hB56 hf56
        go_wp2_with fail
        refine (awake7_c _ (HE.out.keep hf57)).mono ?_
        rintro e y8 ⟨rfl, hf⟩
        have hB58 := hB57.fr hf
        have hf58 := hf57.trans hf
        clear hf hB57 hf57
        go_wp2_with fail
        go_ret
        exact ⟨rfl, hf58⟩
end Go.Proofs.YtdjjjnoecfbjeaaDoor
