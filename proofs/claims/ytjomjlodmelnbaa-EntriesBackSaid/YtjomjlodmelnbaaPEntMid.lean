/- The library's merge in place, of entries: the middle way. No condition but the indices' bounds. -/
import Derived.Test.YtjomjlodmelnbaaPEntBase
set_option linter.all false
set_option linter.unusedVariables false
set_option linter.unusedSimpArgs false
set_option linter.unnecessarySimpa false
/- The library's merge in place, of entries: the middle way. No condition but the indices' bounds. -/
namespace Go.Proofs.Ytjomjlodmelnbaa
open Go.RowKit Go.Sort
attribute [local go_sem] Oper.semAt_some
set_option maxRecDepth 100000 in
set_option maxHeartbeats 16000000 in
theorem symMid_c (blk cap kb : Nat) (d : Array Ent) (w : World) (hD : DataAt w blk d) (hK : CmpAt w kb) (hne : kb ≠ blk) (a m b : Nat) (ham : a + 1 < m) (hmb : m + 1 < b) (hb : b ≤ d.size) (hsz : d.size ≤ 1152921504606846976)
    (IH : ∀ (d : Array Ent) (w : World) (a' m' b' : Nat), b' - a' < b - a → DataAt w blk d → CmpAt w kb → a' < m' → m' < b' → b' ≤ d.size → d.size ≤ 1152921504606846976 → SymAt blk cap kb d w a' m' b') : SymAt blk cap kb d w a m b := by
  unfold SymAt at *
  have HD := Lib.hid hD
  have HK := Lib.hid hK
  have HN := Lib.hid hne
  have HIH := Lib.hid IH
  clear hD hK hne IH
  have hq1 : ((m : Int) - (a : Int) == 1) = false := by simp; omega
  have hq2 : ((b : Int) - (m : Int) == 1) = false := by simp; omega
  obtain ⟨mid, hmid⟩ : ∃ mid, mid = (a + b) / 2 := ⟨_, rfl⟩
  have emid : ((a : Int) + (b : Int)) / 2 = (mid : Int) := by omega
  have hm1 : a < mid := by omega
  have hm2 : mid < b := by omega
  have HMID := Lib.hid hmid
  clear hmid
  by_cases hgm : mid < m
  · have hgz : (mid : Int) < (m : Int) := by omega
    have elo : (mid : Int) + (m : Int) - (b : Int) = ((mid + m - b : Nat) : Int) := by have := HMID.out; omega
    have hlo : mid + m - b ≤ mid := by have := HMID.out; omega
    have hlo2 : mid + m ≤ b + (mid + m - b) := by have := HMID.out; omega
    go_enter Try.func53, Try.ntmps53
    go_wp2_with fail
    go_loopw [20, 21] (fun vs vr wr => ∃ (s r : Nat), vs = .int .i64 s ∧ vr = .int .i64 r ∧ mid + m - b ≤ s ∧ s ≤ r ∧ r ≤ mid ∧ Hid ((s = mid + m - b ∨ entLt d[mid + m - s]! d[s - 1]! = false) ∧ (r = mid ∨ entLt d[mid + m - r - 1]! d[r]! = true)) ∧ Fr w wr) (fun vs vr _ => (intOf vr).toNat - (intOf vs).toNat)
    case atStart => exact ⟨mid + m - b, mid, by first | rfl | go_num, by first | rfl | go_num, Nat.le_refl _, hlo, Nat.le_refl _, ⟨.inl rfl, .inl rfl⟩, Fr.refl _⟩
    case round =>
      obtain ⟨s, r, rfl, rfl, hs, hsr, hr, HS, hfr⟩ := hrel
      have HDr : Hid (DataAt wr blk d) := HD.out.fr hfr
      have hkr := HK.out.fr hfr
      by_cases hlt : s < r
      · have hltz : (s : Int) < (r : Int) := by omega
        obtain ⟨c, hh⟩ : ∃ c, c = (s + r) / 2 := ⟨_, rfl⟩
        have eh : ((s : Int) + (r : Int)) / 2 = (c : Int) := by omega
        have hh1 : s ≤ c := by omega
        have hh2 : c < r := by omega
        clear hh
        obtain ⟨q, hq⟩ : ∃ q, q = mid + m - c - 1 := ⟨_, rfl⟩
        have hqm := HMID.out
        have eq1 : (mid : Int) + (m : Int) - 1 - (c : Int) = (q : Int) := by omega
        have b1 : (q : Int) < (d.size : Int) := by omega
        have b1n : q < d.size := by omega
        have b2 : (c : Int) < (d.size : Int) := by omega
        have HQ := Lib.hid hq
        clear hq hqm
        cases hlv : entLt d[q]! d[c]! with
        | true =>
          obtain ⟨x0, x1, x2⟩ := HDr.out.cells (i := q) (by omega)
          obtain ⟨y0, y1, y2⟩ := HDr.out.cells (i := c) (by omega)
          have hcm := fun (z : FrW wr) => entCmp_c d[q]! d[c]! kb z.val (z.fr.keep (hkr))
          unfold Ent.val at hcm
          have hdc := entLt_dec (hlv)
          obtain ⟨x, hx⟩ : ∃ x, x = d[q]! := ⟨_, rfl⟩
          obtain ⟨y, hy⟩ : ∃ y, y = d[c]! := ⟨_, rfl⟩
          rw [← hx] at x0 x1 x2 hcm hdc
          rw [← hy] at y0 y1 y2 hcm hdc
          obtain ⟨cxy, hc⟩ : ∃ c, c = entCmp x y := ⟨_, rfl⟩
          rw [← hc] at hcm hdc
          clear hx hy hc
          have X0 := FrW.cell x0
          have X1 := FrW.cell x1
          have X2 := FrW.cell x2
          have Y0 := FrW.cell y0
          have Y1 := FrW.cell y1
          have Y2 := FrW.cell y2
          have hlz : ∀ z : FrW wr, blk < z.val.heap.size := fun z => Nat.lt_of_lt_of_le HDr.out.lt z.fr.size
          have HCM := Lib.hid hcm
          have HDC := Lib.hid hdc
          clear x0 x1 x2 y0 y1 y2 hcm hdc
          go_wp2_with fail
          refine wp_region_fr (by kernel_rfl) (by kernel_rfl) ?_
          repeat (go_big_quiet_step ((go_at_call 45; exact frq (HCM.out _))))
          refine wpQuiet_nil ?_
          rintro w5 ⟨⟨_, hf5⟩, rfl⟩
          have hdc := HDC.out
          have hlp := of_decide_eq_true hdc
          (try rw [hdc])
          (try rw [Bool.not_true])
          clear X0 X1 X2 Y0 Y1 Y2 hlz HCM HDC
          have HX : Hid ((s = mid + m - b ∨ entLt d[mid + m - s]! d[s - 1]! = false) ∧ (c = mid ∨ entLt d[mid + m - c - 1]! d[c]! = true)) := ⟨HS.out.1, .inr (by rw [← HQ.out]; exact hlv)⟩
          have hf6 := hfr.trans hf5
          clear hkr hfr hf5 hlv HS HDr HQ
          go_wp2_with fail
          go_roundw
          case rel => exact ⟨s, c, rfl, rfl, hs, by omega, by omega, HX, hf6⟩
          case measure => first | (simp [intOf]; done) | (simp [intOf]; omega)
        | false =>
          obtain ⟨x0, x1, x2⟩ := HDr.out.cells (i := q) (by omega)
          obtain ⟨y0, y1, y2⟩ := HDr.out.cells (i := c) (by omega)
          have hcm := fun (z : FrW wr) => entCmp_c d[q]! d[c]! kb z.val (z.fr.keep (hkr))
          unfold Ent.val at hcm
          have hdc := entLt_dec (hlv)
          obtain ⟨x, hx⟩ : ∃ x, x = d[q]! := ⟨_, rfl⟩
          obtain ⟨y, hy⟩ : ∃ y, y = d[c]! := ⟨_, rfl⟩
          rw [← hx] at x0 x1 x2 hcm hdc
          rw [← hy] at y0 y1 y2 hcm hdc
          obtain ⟨cxy, hc⟩ : ∃ c, c = entCmp x y := ⟨_, rfl⟩
          rw [← hc] at hcm hdc
          clear hx hy hc
          have X0 := FrW.cell x0
          have X1 := FrW.cell x1
          have X2 := FrW.cell x2
          have Y0 := FrW.cell y0
          have Y1 := FrW.cell y1
          have Y2 := FrW.cell y2
          have hlz : ∀ z : FrW wr, blk < z.val.heap.size := fun z => Nat.lt_of_lt_of_le HDr.out.lt z.fr.size
          have HCM := Lib.hid hcm
          have HDC := Lib.hid hdc
          clear x0 x1 x2 y0 y1 y2 hcm hdc
          go_wp2_with fail
          refine wp_region_fr (by kernel_rfl) (by kernel_rfl) ?_
          repeat (go_big_quiet_step ((go_at_call 45; exact frq (HCM.out _))))
          refine wpQuiet_nil ?_
          rintro w5 ⟨⟨_, hf5⟩, rfl⟩
          have hdc := HDC.out
          have hlp := of_decide_eq_false hdc
          (try rw [hdc])
          (try rw [Bool.not_false])
          clear X0 X1 X2 Y0 Y1 Y2 hlz HCM HDC
          have HX : Hid ((c + 1 = mid + m - b ∨ entLt d[mid + m - (c + 1)]! d[c + 1 - 1]! = false) ∧ (r = mid ∨ entLt d[mid + m - r - 1]! d[r]! = true)) := ⟨.inr (by rw [show mid + m - (c + 1) = q by rw [HQ.out]; omega]; exact hlv), HS.out.2⟩
          have hf6 := hfr.trans hf5
          clear hkr hfr hf5 hlv HS HDr HQ
          go_wp2_with fail
          go_roundw
          case rel => exact ⟨c + 1, r, by go_num, rfl, by omega, by omega, hr, HX, hf6⟩
          case measure => first | (simp [intOf]; done) | (simp [intOf]; omega)
      · obtain rfl : s = r := by omega
        have hltz : ¬ (s : Int) < (s : Int) := by omega
        obtain ⟨E, hE⟩ : ∃ E, E = mid + m - s := ⟨_, rfl⟩
        have hsm : s ≤ mid := by omega
        have hsm2 : s ≤ m := by omega
        have hE0 : (mid : Int) + (m : Int) - (s : Int) = (E : Int) := by omega
        have hE1 : m ≤ E := by omega
        have hE2 : E ≤ b := by omega
        have hE3 : mid ≤ E := by omega
        have has : a ≤ s := by have := HMID.out; omega
        have HE := Lib.hid hE
        have main : ∀ d1 d2 d3 : Array Ent, Rot d s m E d1 → PermIn s E d d1 → MergeOk entLt a s mid d1 d2 → MergeOk entLt mid E b d2 d3 → MergeOk entLt a m b d d3 := fun d1 d2 d3 h1 h2 h3 h4 => by
          rw [HE.out] at h1 h2 h4
          refine merge_main swo_ent (by omega) (by omega) hb HMID.out (fun _ => ⟨by omega, hsm⟩) (fun h => absurd hgm (by omega)) ?_ ?_ h1 h2 h3 h4
          · rw [if_pos hgm]; exact HS.out.1.imp (fun h => by omega) id
          · rw [if_pos hgm]; exact HS.out.2
        have MAIN := Lib.hid main
        clear main hE HS hkr HE
        by_cases hc1 : s < m
        · have hz1 : (s : Int) < (m : Int) := by omega
          by_cases hc2 : m < E
          · have hz2 : (m : Int) < (E : Int) := by omega
            have HR := Lib.hid (rotate_c blk cap d wr HDr.out s m E (.func (.func 45) #[] #[.pointer (some ⟨kb, 0, none⟩)]) hc1 hc2 (by omega) hsz)
            go_wp2_with fail
            refine HR.out.mono ?_
            rintro e w1 ⟨rfl, d1, ⟨hR1, hP1⟩, hD1, hc1h⟩
            have hg1 := (hfr.chg (S := (· = blk))).trans hc1h
            have hs1 : d1.size ≤ 1152921504606846976 := by rw [hR1.1]; exact hsz
            have hb1 : b ≤ d1.size := by rw [hR1.1]; exact hb
            have HS1 := Lib.hid hR1.1
            have HD1 := Lib.hid hD1
            have HA := Lib.hid (⟨hR1, hP1⟩ : _ ∧ _)
            have hk1 := HK.out.chg hg1 HN.out
            clear hR1 hP1 hD1 hc1h HR hfr HDr
            by_cases hc3 : a < s
            · have hz3 : (a : Int) < (s : Int) := by omega
              by_cases hc4 : s < mid
              · have hz4 : (s : Int) < (mid : Int) := by omega
                have hr := HIH.out d1 w1 a s mid (by omega) HD1.out hk1 hc3 hc4 (by omega) hs1
                rw [HS1.out] at hr
                have HR2 := Lib.hid hr
                clear hr
                go_wp2_with fail
                refine HR2.out.mono ?_
                rintro e w2 ⟨rfl, d2, hM2, hD2, hc2h⟩
                have hg2 := hg1.trans hc2h
                have HS2 : Hid (d2.size = d.size) := hM2.1.1.trans HS1.out
                have hs2 : d2.size ≤ 1152921504606846976 := by rw [HS2.out]; exact hsz
                have hb2 : b ≤ d2.size := by rw [HS2.out]; exact hb
                have HD2 := Lib.hid hD2
                have HB := Lib.hid hM2
                have hk2 := HK.out.chg hg2 HN.out
                clear hM2 hD2 hc2h HR2 hg1 hk1
                by_cases hc5 : mid < E
                · have hz5 : (mid : Int) < (E : Int) := by omega
                  by_cases hc6 : E < b
                  · have hz6 : (E : Int) < (b : Int) := by omega
                    have hr := HIH.out d2 w2 mid E b (by omega) HD2.out hk2 hc5 hc6 hb2 hs2
                    rw [HS2.out] at hr
                    have HR3 := Lib.hid hr
                    clear hr
                    go_wp2_with fail
                    refine HR3.out.mono ?_
                    rintro e w3 ⟨rfl, d3, hM3, hD3, hc3h⟩
                    have hg3 := hg2.trans hc3h
                    have hM := MAIN.out d1 d2 d3 HA.out.1 HA.out.2 HB.out hM3
                    clear hc3h HR3 hg2 hk2 hM3
                    go_wp2_with fail
                    exact bodyPost_ret (results_none rfl _ _ _) rfl ⟨rfl, d3, hM, hD3, hg3⟩
                  · have hz6 : ¬ (E : Int) < (b : Int) := by omega
                    have hM := MAIN.out d1 d2 d2 HA.out.1 HA.out.2 HB.out (MergeOk.none (by omega))
                    clear hk2
                    go_wp2_with fail
                    exact bodyPost_ret (results_none rfl _ _ _) rfl ⟨rfl, d2, hM, HD2.out, hg2⟩
                · have hz5 : ¬ (mid : Int) < (E : Int) := by omega
                  have hM := MAIN.out d1 d2 d2 HA.out.1 HA.out.2 HB.out (MergeOk.none (by omega))
                  clear hk2
                  go_wp2_with fail
                  exact bodyPost_ret (results_none rfl _ _ _) rfl ⟨rfl, d2, hM, HD2.out, hg2⟩
              · have hz4 : ¬ (s : Int) < (mid : Int) := by omega
                obtain ⟨d2, hd2⟩ : ∃ d2, d2 = d1 := ⟨_, rfl⟩
                have HB : Hid (MergeOk entLt a s mid d1 d2) := by rw [hd2]; exact MergeOk.none (by omega)
                have HS2 : Hid (d2.size = d.size) := by rw [hd2]; exact HS1.out
                have hs2 : d2.size ≤ 1152921504606846976 := by rw [hd2]; exact hs1
                have hb2 : b ≤ d2.size := by rw [hd2]; exact hb1
                have HD2 : Hid (DataAt w1 blk d2) := by rw [hd2]; exact HD1.out
                have hg2 := hg1
                have hk2 := hk1
                clear hd2 hg1 hk1
                by_cases hc5 : mid < E
                · have hz5 : (mid : Int) < (E : Int) := by omega
                  by_cases hc6 : E < b
                  · have hz6 : (E : Int) < (b : Int) := by omega
                    have hr := HIH.out d2 w1 mid E b (by omega) HD2.out hk2 hc5 hc6 hb2 hs2
                    rw [HS2.out] at hr
                    have HR3 := Lib.hid hr
                    clear hr
                    go_wp2_with fail
                    refine HR3.out.mono ?_
                    rintro e w3 ⟨rfl, d3, hM3, hD3, hc3h⟩
                    have hg3 := hg2.trans hc3h
                    have hM := MAIN.out d1 d2 d3 HA.out.1 HA.out.2 HB.out hM3
                    clear hc3h HR3 hg2 hk2 hM3
                    go_wp2_with fail
                    exact bodyPost_ret (results_none rfl _ _ _) rfl ⟨rfl, d3, hM, hD3, hg3⟩
                  · have hz6 : ¬ (E : Int) < (b : Int) := by omega
                    have hM := MAIN.out d1 d2 d2 HA.out.1 HA.out.2 HB.out (MergeOk.none (by omega))
                    clear hk2
                    go_wp2_with fail
                    exact bodyPost_ret (results_none rfl _ _ _) rfl ⟨rfl, d2, hM, HD2.out, hg2⟩
                · have hz5 : ¬ (mid : Int) < (E : Int) := by omega
                  have hM := MAIN.out d1 d2 d2 HA.out.1 HA.out.2 HB.out (MergeOk.none (by omega))
                  clear hk2
                  go_wp2_with fail
                  exact bodyPost_ret (results_none rfl _ _ _) rfl ⟨rfl, d2, hM, HD2.out, hg2⟩
            · have hz3 : ¬ (a : Int) < (s : Int) := by omega
              obtain ⟨d2, hd2⟩ : ∃ d2, d2 = d1 := ⟨_, rfl⟩
              have HB : Hid (MergeOk entLt a s mid d1 d2) := by rw [hd2]; exact MergeOk.none (by omega)
              have HS2 : Hid (d2.size = d.size) := by rw [hd2]; exact HS1.out
              have hs2 : d2.size ≤ 1152921504606846976 := by rw [hd2]; exact hs1
              have hb2 : b ≤ d2.size := by rw [hd2]; exact hb1
              have HD2 : Hid (DataAt w1 blk d2) := by rw [hd2]; exact HD1.out
              have hg2 := hg1
              have hk2 := hk1
              clear hd2 hg1 hk1
              by_cases hc5 : mid < E
              · have hz5 : (mid : Int) < (E : Int) := by omega
                by_cases hc6 : E < b
                · have hz6 : (E : Int) < (b : Int) := by omega
                  have hr := HIH.out d2 w1 mid E b (by omega) HD2.out hk2 hc5 hc6 hb2 hs2
                  rw [HS2.out] at hr
                  have HR3 := Lib.hid hr
                  clear hr
                  go_wp2_with fail
                  refine HR3.out.mono ?_
                  rintro e w3 ⟨rfl, d3, hM3, hD3, hc3h⟩
                  have hg3 := hg2.trans hc3h
                  have hM := MAIN.out d1 d2 d3 HA.out.1 HA.out.2 HB.out hM3
                  clear hc3h HR3 hg2 hk2 hM3
                  go_wp2_with fail
                  exact bodyPost_ret (results_none rfl _ _ _) rfl ⟨rfl, d3, hM, hD3, hg3⟩
                · have hz6 : ¬ (E : Int) < (b : Int) := by omega
                  have hM := MAIN.out d1 d2 d2 HA.out.1 HA.out.2 HB.out (MergeOk.none (by omega))
                  clear hk2
                  go_wp2_with fail
                  exact bodyPost_ret (results_none rfl _ _ _) rfl ⟨rfl, d2, hM, HD2.out, hg2⟩
              · have hz5 : ¬ (mid : Int) < (E : Int) := by omega
                have hM := MAIN.out d1 d2 d2 HA.out.1 HA.out.2 HB.out (MergeOk.none (by omega))
                clear hk2
                go_wp2_with fail
                exact bodyPost_ret (results_none rfl _ _ _) rfl ⟨rfl, d2, hM, HD2.out, hg2⟩
          · have hz2 : ¬ (m : Int) < (E : Int) := by omega
            have HA : Hid (Rot d s m E d ∧ PermIn s E d d) := ⟨Rot.none (by omega) (by omega), permIn_refl _ _ _⟩
            obtain ⟨d1, hd1⟩ : ∃ d1, d1 = d := ⟨_, rfl⟩
            have HA2 : Hid (Rot d s m E d1 ∧ PermIn s E d d1) := by rw [hd1]; exact HA.out
            have hs1 : d1.size ≤ 1152921504606846976 := by rw [hd1]; exact hsz
            have hb1 : b ≤ d1.size := by rw [hd1]; exact hb
            have HS1 : Hid (d1.size = d.size) := by rw [hd1]; exact (rfl : d.size = d.size)
            have HD1 : Hid (DataAt wr blk d1) := by rw [hd1]; exact HDr.out
            have hg1 := hfr.chg (S := (· = blk))
            have hk1 := HK.out.chg hg1 HN.out
            clear HA hd1 hfr HDr
            have HA := HA2
            clear HA2
            by_cases hc3 : a < s
            · have hz3 : (a : Int) < (s : Int) := by omega
              by_cases hc4 : s < mid
              · have hz4 : (s : Int) < (mid : Int) := by omega
                have hr := HIH.out d1 wr a s mid (by omega) HD1.out hk1 hc3 hc4 (by omega) hs1
                rw [HS1.out] at hr
                have HR2 := Lib.hid hr
                clear hr
                go_wp2_with fail
                refine HR2.out.mono ?_
                rintro e w2 ⟨rfl, d2, hM2, hD2, hc2h⟩
                have hg2 := hg1.trans hc2h
                have HS2 : Hid (d2.size = d.size) := hM2.1.1.trans HS1.out
                have hs2 : d2.size ≤ 1152921504606846976 := by rw [HS2.out]; exact hsz
                have hb2 : b ≤ d2.size := by rw [HS2.out]; exact hb
                have HD2 := Lib.hid hD2
                have HB := Lib.hid hM2
                have hk2 := HK.out.chg hg2 HN.out
                clear hM2 hD2 hc2h HR2 hg1 hk1
                by_cases hc5 : mid < E
                · have hz5 : (mid : Int) < (E : Int) := by omega
                  by_cases hc6 : E < b
                  · have hz6 : (E : Int) < (b : Int) := by omega
                    have hr := HIH.out d2 w2 mid E b (by omega) HD2.out hk2 hc5 hc6 hb2 hs2
                    rw [HS2.out] at hr
                    have HR3 := Lib.hid hr
                    clear hr
                    go_wp2_with fail
                    refine HR3.out.mono ?_
                    rintro e w3 ⟨rfl, d3, hM3, hD3, hc3h⟩
                    have hg3 := hg2.trans hc3h
                    have hM := MAIN.out d1 d2 d3 HA.out.1 HA.out.2 HB.out hM3
                    clear hc3h HR3 hg2 hk2 hM3
                    go_wp2_with fail
                    exact bodyPost_ret (results_none rfl _ _ _) rfl ⟨rfl, d3, hM, hD3, hg3⟩
                  · have hz6 : ¬ (E : Int) < (b : Int) := by omega
                    have hM := MAIN.out d1 d2 d2 HA.out.1 HA.out.2 HB.out (MergeOk.none (by omega))
                    clear hk2
                    go_wp2_with fail
                    exact bodyPost_ret (results_none rfl _ _ _) rfl ⟨rfl, d2, hM, HD2.out, hg2⟩
                · have hz5 : ¬ (mid : Int) < (E : Int) := by omega
                  have hM := MAIN.out d1 d2 d2 HA.out.1 HA.out.2 HB.out (MergeOk.none (by omega))
                  clear hk2
                  go_wp2_with fail
                  exact bodyPost_ret (results_none rfl _ _ _) rfl ⟨rfl, d2, hM, HD2.out, hg2⟩
              · have hz4 : ¬ (s : Int) < (mid : Int) := by omega
                obtain ⟨d2, hd2⟩ : ∃ d2, d2 = d1 := ⟨_, rfl⟩
                have HB : Hid (MergeOk entLt a s mid d1 d2) := by rw [hd2]; exact MergeOk.none (by omega)
                have HS2 : Hid (d2.size = d.size) := by rw [hd2]; exact HS1.out
                have hs2 : d2.size ≤ 1152921504606846976 := by rw [hd2]; exact hs1
                have hb2 : b ≤ d2.size := by rw [hd2]; exact hb1
                have HD2 : Hid (DataAt wr blk d2) := by rw [hd2]; exact HD1.out
                have hg2 := hg1
                have hk2 := hk1
                clear hd2 hg1 hk1
                by_cases hc5 : mid < E
                · have hz5 : (mid : Int) < (E : Int) := by omega
                  by_cases hc6 : E < b
                  · have hz6 : (E : Int) < (b : Int) := by omega
                    have hr := HIH.out d2 wr mid E b (by omega) HD2.out hk2 hc5 hc6 hb2 hs2
                    rw [HS2.out] at hr
                    have HR3 := Lib.hid hr
                    clear hr
                    go_wp2_with fail
                    refine HR3.out.mono ?_
                    rintro e w3 ⟨rfl, d3, hM3, hD3, hc3h⟩
                    have hg3 := hg2.trans hc3h
                    have hM := MAIN.out d1 d2 d3 HA.out.1 HA.out.2 HB.out hM3
                    clear hc3h HR3 hg2 hk2 hM3
                    go_wp2_with fail
                    exact bodyPost_ret (results_none rfl _ _ _) rfl ⟨rfl, d3, hM, hD3, hg3⟩
                  · have hz6 : ¬ (E : Int) < (b : Int) := by omega
                    have hM := MAIN.out d1 d2 d2 HA.out.1 HA.out.2 HB.out (MergeOk.none (by omega))
                    clear hk2
                    go_wp2_with fail
                    exact bodyPost_ret (results_none rfl _ _ _) rfl ⟨rfl, d2, hM, HD2.out, hg2⟩
                · have hz5 : ¬ (mid : Int) < (E : Int) := by omega
                  have hM := MAIN.out d1 d2 d2 HA.out.1 HA.out.2 HB.out (MergeOk.none (by omega))
                  clear hk2
                  go_wp2_with fail
                  exact bodyPost_ret (results_none rfl _ _ _) rfl ⟨rfl, d2, hM, HD2.out, hg2⟩
            · have hz3 : ¬ (a : Int) < (s : Int) := by omega
              obtain ⟨d2, hd2⟩ : ∃ d2, d2 = d1 := ⟨_, rfl⟩
              have HB : Hid (MergeOk entLt a s mid d1 d2) := by rw [hd2]; exact MergeOk.none (by omega)
              have HS2 : Hid (d2.size = d.size) := by rw [hd2]; exact HS1.out
              have hs2 : d2.size ≤ 1152921504606846976 := by rw [hd2]; exact hs1
              have hb2 : b ≤ d2.size := by rw [hd2]; exact hb1
              have HD2 : Hid (DataAt wr blk d2) := by rw [hd2]; exact HD1.out
              have hg2 := hg1
              have hk2 := hk1
              clear hd2 hg1 hk1
              by_cases hc5 : mid < E
              · have hz5 : (mid : Int) < (E : Int) := by omega
                by_cases hc6 : E < b
                · have hz6 : (E : Int) < (b : Int) := by omega
                  have hr := HIH.out d2 wr mid E b (by omega) HD2.out hk2 hc5 hc6 hb2 hs2
                  rw [HS2.out] at hr
                  have HR3 := Lib.hid hr
                  clear hr
                  go_wp2_with fail
                  refine HR3.out.mono ?_
                  rintro e w3 ⟨rfl, d3, hM3, hD3, hc3h⟩
                  have hg3 := hg2.trans hc3h
                  have hM := MAIN.out d1 d2 d3 HA.out.1 HA.out.2 HB.out hM3
                  clear hc3h HR3 hg2 hk2 hM3
                  go_wp2_with fail
                  exact bodyPost_ret (results_none rfl _ _ _) rfl ⟨rfl, d3, hM, hD3, hg3⟩
                · have hz6 : ¬ (E : Int) < (b : Int) := by omega
                  have hM := MAIN.out d1 d2 d2 HA.out.1 HA.out.2 HB.out (MergeOk.none (by omega))
                  clear hk2
                  go_wp2_with fail
                  exact bodyPost_ret (results_none rfl _ _ _) rfl ⟨rfl, d2, hM, HD2.out, hg2⟩
              · have hz5 : ¬ (mid : Int) < (E : Int) := by omega
                have hM := MAIN.out d1 d2 d2 HA.out.1 HA.out.2 HB.out (MergeOk.none (by omega))
                clear hk2
                go_wp2_with fail
                exact bodyPost_ret (results_none rfl _ _ _) rfl ⟨rfl, d2, hM, HD2.out, hg2⟩
        · have hz1 : ¬ (s : Int) < (m : Int) := by omega
          have HA : Hid (Rot d s m E d ∧ PermIn s E d d) := ⟨Rot.none (by omega) (by omega), permIn_refl _ _ _⟩
          obtain ⟨d1, hd1⟩ : ∃ d1, d1 = d := ⟨_, rfl⟩
          have HA2 : Hid (Rot d s m E d1 ∧ PermIn s E d d1) := by rw [hd1]; exact HA.out
          have hs1 : d1.size ≤ 1152921504606846976 := by rw [hd1]; exact hsz
          have hb1 : b ≤ d1.size := by rw [hd1]; exact hb
          have HS1 : Hid (d1.size = d.size) := by rw [hd1]; exact (rfl : d.size = d.size)
          have HD1 : Hid (DataAt wr blk d1) := by rw [hd1]; exact HDr.out
          have hg1 := hfr.chg (S := (· = blk))
          have hk1 := HK.out.chg hg1 HN.out
          clear HA hd1 hfr HDr
          have HA := HA2
          clear HA2
          by_cases hc3 : a < s
          · have hz3 : (a : Int) < (s : Int) := by omega
            by_cases hc4 : s < mid
            · have hz4 : (s : Int) < (mid : Int) := by omega
              have hr := HIH.out d1 wr a s mid (by omega) HD1.out hk1 hc3 hc4 (by omega) hs1
              rw [HS1.out] at hr
              have HR2 := Lib.hid hr
              clear hr
              go_wp2_with fail
              refine HR2.out.mono ?_
              rintro e w2 ⟨rfl, d2, hM2, hD2, hc2h⟩
              have hg2 := hg1.trans hc2h
              have HS2 : Hid (d2.size = d.size) := hM2.1.1.trans HS1.out
              have hs2 : d2.size ≤ 1152921504606846976 := by rw [HS2.out]; exact hsz
              have hb2 : b ≤ d2.size := by rw [HS2.out]; exact hb
              have HD2 := Lib.hid hD2
              have HB := Lib.hid hM2
              have hk2 := HK.out.chg hg2 HN.out
              clear hM2 hD2 hc2h HR2 hg1 hk1
              by_cases hc5 : mid < E
              · have hz5 : (mid : Int) < (E : Int) := by omega
                by_cases hc6 : E < b
                · have hz6 : (E : Int) < (b : Int) := by omega
                  have hr := HIH.out d2 w2 mid E b (by omega) HD2.out hk2 hc5 hc6 hb2 hs2
                  rw [HS2.out] at hr
                  have HR3 := Lib.hid hr
                  clear hr
                  go_wp2_with fail
                  refine HR3.out.mono ?_
                  rintro e w3 ⟨rfl, d3, hM3, hD3, hc3h⟩
                  have hg3 := hg2.trans hc3h
                  have hM := MAIN.out d1 d2 d3 HA.out.1 HA.out.2 HB.out hM3
                  clear hc3h HR3 hg2 hk2 hM3
                  go_wp2_with fail
                  exact bodyPost_ret (results_none rfl _ _ _) rfl ⟨rfl, d3, hM, hD3, hg3⟩
                · have hz6 : ¬ (E : Int) < (b : Int) := by omega
                  have hM := MAIN.out d1 d2 d2 HA.out.1 HA.out.2 HB.out (MergeOk.none (by omega))
                  clear hk2
                  go_wp2_with fail
                  exact bodyPost_ret (results_none rfl _ _ _) rfl ⟨rfl, d2, hM, HD2.out, hg2⟩
              · have hz5 : ¬ (mid : Int) < (E : Int) := by omega
                have hM := MAIN.out d1 d2 d2 HA.out.1 HA.out.2 HB.out (MergeOk.none (by omega))
                clear hk2
                go_wp2_with fail
                exact bodyPost_ret (results_none rfl _ _ _) rfl ⟨rfl, d2, hM, HD2.out, hg2⟩
            · have hz4 : ¬ (s : Int) < (mid : Int) := by omega
              obtain ⟨d2, hd2⟩ : ∃ d2, d2 = d1 := ⟨_, rfl⟩
              have HB : Hid (MergeOk entLt a s mid d1 d2) := by rw [hd2]; exact MergeOk.none (by omega)
              have HS2 : Hid (d2.size = d.size) := by rw [hd2]; exact HS1.out
              have hs2 : d2.size ≤ 1152921504606846976 := by rw [hd2]; exact hs1
              have hb2 : b ≤ d2.size := by rw [hd2]; exact hb1
              have HD2 : Hid (DataAt wr blk d2) := by rw [hd2]; exact HD1.out
              have hg2 := hg1
              have hk2 := hk1
              clear hd2 hg1 hk1
              by_cases hc5 : mid < E
              · have hz5 : (mid : Int) < (E : Int) := by omega
                by_cases hc6 : E < b
                · have hz6 : (E : Int) < (b : Int) := by omega
                  have hr := HIH.out d2 wr mid E b (by omega) HD2.out hk2 hc5 hc6 hb2 hs2
                  rw [HS2.out] at hr
                  have HR3 := Lib.hid hr
                  clear hr
                  go_wp2_with fail
                  refine HR3.out.mono ?_
                  rintro e w3 ⟨rfl, d3, hM3, hD3, hc3h⟩
                  have hg3 := hg2.trans hc3h
                  have hM := MAIN.out d1 d2 d3 HA.out.1 HA.out.2 HB.out hM3
                  clear hc3h HR3 hg2 hk2 hM3
                  go_wp2_with fail
                  exact bodyPost_ret (results_none rfl _ _ _) rfl ⟨rfl, d3, hM, hD3, hg3⟩
                · have hz6 : ¬ (E : Int) < (b : Int) := by omega
                  have hM := MAIN.out d1 d2 d2 HA.out.1 HA.out.2 HB.out (MergeOk.none (by omega))
                  clear hk2
                  go_wp2_with fail
                  exact bodyPost_ret (results_none rfl _ _ _) rfl ⟨rfl, d2, hM, HD2.out, hg2⟩
              · have hz5 : ¬ (mid : Int) < (E : Int) := by omega
                have hM := MAIN.out d1 d2 d2 HA.out.1 HA.out.2 HB.out (MergeOk.none (by omega))
                clear hk2
                go_wp2_with fail
                exact bodyPost_ret (results_none rfl _ _ _) rfl ⟨rfl, d2, hM, HD2.out, hg2⟩
          · have hz3 : ¬ (a : Int) < (s : Int) := by omega
            obtain ⟨d2, hd2⟩ : ∃ d2, d2 = d1 := ⟨_, rfl⟩
            have HB : Hid (MergeOk entLt a s mid d1 d2) := by rw [hd2]; exact MergeOk.none (by omega)
            have HS2 : Hid (d2.size = d.size) := by rw [hd2]; exact HS1.out
            have hs2 : d2.size ≤ 1152921504606846976 := by rw [hd2]; exact hs1
            have hb2 : b ≤ d2.size := by rw [hd2]; exact hb1
            have HD2 : Hid (DataAt wr blk d2) := by rw [hd2]; exact HD1.out
            have hg2 := hg1
            have hk2 := hk1
            clear hd2 hg1 hk1
            by_cases hc5 : mid < E
            · have hz5 : (mid : Int) < (E : Int) := by omega
              by_cases hc6 : E < b
              · have hz6 : (E : Int) < (b : Int) := by omega
                have hr := HIH.out d2 wr mid E b (by omega) HD2.out hk2 hc5 hc6 hb2 hs2
                rw [HS2.out] at hr
                have HR3 := Lib.hid hr
                clear hr
                go_wp2_with fail
                refine HR3.out.mono ?_
                rintro e w3 ⟨rfl, d3, hM3, hD3, hc3h⟩
                have hg3 := hg2.trans hc3h
                have hM := MAIN.out d1 d2 d3 HA.out.1 HA.out.2 HB.out hM3
                clear hc3h HR3 hg2 hk2 hM3
                go_wp2_with fail
                exact bodyPost_ret (results_none rfl _ _ _) rfl ⟨rfl, d3, hM, hD3, hg3⟩
              · have hz6 : ¬ (E : Int) < (b : Int) := by omega
                have hM := MAIN.out d1 d2 d2 HA.out.1 HA.out.2 HB.out (MergeOk.none (by omega))
                clear hk2
                go_wp2_with fail
                exact bodyPost_ret (results_none rfl _ _ _) rfl ⟨rfl, d2, hM, HD2.out, hg2⟩
            · have hz5 : ¬ (mid : Int) < (E : Int) := by omega
              have hM := MAIN.out d1 d2 d2 HA.out.1 HA.out.2 HB.out (MergeOk.none (by omega))
              clear hk2
              go_wp2_with fail
              exact bodyPost_ret (results_none rfl _ _ _) rfl ⟨rfl, d2, hM, HD2.out, hg2⟩
  · have hgz : ¬ (mid : Int) < (m : Int) := by omega
    have hlo : a ≤ m := by have := HMID.out; omega
    have hlo2 : mid + m ≤ b + (a) := by have := HMID.out; omega
    go_enter Try.func53, Try.ntmps53
    go_wp2_with fail
    go_loopw [20, 21] (fun vs vr wr => ∃ (s r : Nat), vs = .int .i64 s ∧ vr = .int .i64 r ∧ a ≤ s ∧ s ≤ r ∧ r ≤ m ∧ Hid ((s = a ∨ entLt d[mid + m - s]! d[s - 1]! = false) ∧ (r = m ∨ entLt d[mid + m - r - 1]! d[r]! = true)) ∧ Fr w wr) (fun vs vr _ => (intOf vr).toNat - (intOf vs).toNat)
    case atStart => exact ⟨a, m, by first | rfl | go_num, by first | rfl | go_num, Nat.le_refl _, hlo, Nat.le_refl _, ⟨.inl rfl, .inl rfl⟩, Fr.refl _⟩
    case round =>
      obtain ⟨s, r, rfl, rfl, hs, hsr, hr, HS, hfr⟩ := hrel
      have HDr : Hid (DataAt wr blk d) := HD.out.fr hfr
      have hkr := HK.out.fr hfr
      by_cases hlt : s < r
      · have hltz : (s : Int) < (r : Int) := by omega
        obtain ⟨c, hh⟩ : ∃ c, c = (s + r) / 2 := ⟨_, rfl⟩
        have eh : ((s : Int) + (r : Int)) / 2 = (c : Int) := by omega
        have hh1 : s ≤ c := by omega
        have hh2 : c < r := by omega
        clear hh
        obtain ⟨q, hq⟩ : ∃ q, q = mid + m - c - 1 := ⟨_, rfl⟩
        have hqm := HMID.out
        have eq1 : (mid : Int) + (m : Int) - 1 - (c : Int) = (q : Int) := by omega
        have b1 : (q : Int) < (d.size : Int) := by omega
        have b1n : q < d.size := by omega
        have b2 : (c : Int) < (d.size : Int) := by omega
        have HQ := Lib.hid hq
        clear hq hqm
        cases hlv : entLt d[q]! d[c]! with
        | true =>
          obtain ⟨x0, x1, x2⟩ := HDr.out.cells (i := q) (by omega)
          obtain ⟨y0, y1, y2⟩ := HDr.out.cells (i := c) (by omega)
          have hcm := fun (z : FrW wr) => entCmp_c d[q]! d[c]! kb z.val (z.fr.keep (hkr))
          unfold Ent.val at hcm
          have hdc := entLt_dec (hlv)
          obtain ⟨x, hx⟩ : ∃ x, x = d[q]! := ⟨_, rfl⟩
          obtain ⟨y, hy⟩ : ∃ y, y = d[c]! := ⟨_, rfl⟩
          rw [← hx] at x0 x1 x2 hcm hdc
          rw [← hy] at y0 y1 y2 hcm hdc
          obtain ⟨cxy, hc⟩ : ∃ c, c = entCmp x y := ⟨_, rfl⟩
          rw [← hc] at hcm hdc
          clear hx hy hc
          have X0 := FrW.cell x0
          have X1 := FrW.cell x1
          have X2 := FrW.cell x2
          have Y0 := FrW.cell y0
          have Y1 := FrW.cell y1
          have Y2 := FrW.cell y2
          have hlz : ∀ z : FrW wr, blk < z.val.heap.size := fun z => Nat.lt_of_lt_of_le HDr.out.lt z.fr.size
          have HCM := Lib.hid hcm
          have HDC := Lib.hid hdc
          clear x0 x1 x2 y0 y1 y2 hcm hdc
          go_wp2_with fail
          refine wp_region_fr (by kernel_rfl) (by kernel_rfl) ?_
          repeat (go_big_quiet_step ((go_at_call 45; exact frq (HCM.out _))))
          refine wpQuiet_nil ?_
          rintro w5 ⟨⟨_, hf5⟩, rfl⟩
          have hdc := HDC.out
          have hlp := of_decide_eq_true hdc
          (try rw [hdc])
          (try rw [Bool.not_true])
          clear X0 X1 X2 Y0 Y1 Y2 hlz HCM HDC
          have HX : Hid ((s = a ∨ entLt d[mid + m - s]! d[s - 1]! = false) ∧ (c = m ∨ entLt d[mid + m - c - 1]! d[c]! = true)) := ⟨HS.out.1, .inr (by rw [← HQ.out]; exact hlv)⟩
          have hf6 := hfr.trans hf5
          clear hkr hfr hf5 hlv HS HDr HQ
          go_wp2_with fail
          go_roundw
          case rel => exact ⟨s, c, rfl, rfl, hs, by omega, by omega, HX, hf6⟩
          case measure => first | (simp [intOf]; done) | (simp [intOf]; omega)
        | false =>
          obtain ⟨x0, x1, x2⟩ := HDr.out.cells (i := q) (by omega)
          obtain ⟨y0, y1, y2⟩ := HDr.out.cells (i := c) (by omega)
          have hcm := fun (z : FrW wr) => entCmp_c d[q]! d[c]! kb z.val (z.fr.keep (hkr))
          unfold Ent.val at hcm
          have hdc := entLt_dec (hlv)
          obtain ⟨x, hx⟩ : ∃ x, x = d[q]! := ⟨_, rfl⟩
          obtain ⟨y, hy⟩ : ∃ y, y = d[c]! := ⟨_, rfl⟩
          rw [← hx] at x0 x1 x2 hcm hdc
          rw [← hy] at y0 y1 y2 hcm hdc
          obtain ⟨cxy, hc⟩ : ∃ c, c = entCmp x y := ⟨_, rfl⟩
          rw [← hc] at hcm hdc
          clear hx hy hc
          have X0 := FrW.cell x0
          have X1 := FrW.cell x1
          have X2 := FrW.cell x2
          have Y0 := FrW.cell y0
          have Y1 := FrW.cell y1
          have Y2 := FrW.cell y2
          have hlz : ∀ z : FrW wr, blk < z.val.heap.size := fun z => Nat.lt_of_lt_of_le HDr.out.lt z.fr.size
          have HCM := Lib.hid hcm
          have HDC := Lib.hid hdc
          clear x0 x1 x2 y0 y1 y2 hcm hdc
          go_wp2_with fail
          refine wp_region_fr (by kernel_rfl) (by kernel_rfl) ?_
          repeat (go_big_quiet_step ((go_at_call 45; exact frq (HCM.out _))))
          refine wpQuiet_nil ?_
          rintro w5 ⟨⟨_, hf5⟩, rfl⟩
          have hdc := HDC.out
          have hlp := of_decide_eq_false hdc
          (try rw [hdc])
          (try rw [Bool.not_false])
          clear X0 X1 X2 Y0 Y1 Y2 hlz HCM HDC
          have HX : Hid ((c + 1 = a ∨ entLt d[mid + m - (c + 1)]! d[c + 1 - 1]! = false) ∧ (r = m ∨ entLt d[mid + m - r - 1]! d[r]! = true)) := ⟨.inr (by rw [show mid + m - (c + 1) = q by rw [HQ.out]; omega]; exact hlv), HS.out.2⟩
          have hf6 := hfr.trans hf5
          clear hkr hfr hf5 hlv HS HDr HQ
          go_wp2_with fail
          go_roundw
          case rel => exact ⟨c + 1, r, by go_num, rfl, by omega, by omega, hr, HX, hf6⟩
          case measure => first | (simp [intOf]; done) | (simp [intOf]; omega)
      · obtain rfl : s = r := by omega
        have hltz : ¬ (s : Int) < (s : Int) := by omega
        obtain ⟨E, hE⟩ : ∃ E, E = mid + m - s := ⟨_, rfl⟩
        have hsm : s ≤ mid := by omega
        have hsm2 : s ≤ m := by omega
        have hE0 : (mid : Int) + (m : Int) - (s : Int) = (E : Int) := by omega
        have hE1 : m ≤ E := by omega
        have hE2 : E ≤ b := by omega
        have hE3 : mid ≤ E := by omega
        have has : a ≤ s := by have := HMID.out; omega
        have HE := Lib.hid hE
        have main : ∀ d1 d2 d3 : Array Ent, Rot d s m E d1 → PermIn s E d d1 → MergeOk entLt a s mid d1 d2 → MergeOk entLt mid E b d2 d3 → MergeOk entLt a m b d d3 := fun d1 d2 d3 h1 h2 h3 h4 => by
          rw [HE.out] at h1 h2 h4
          refine merge_main swo_ent (by omega) (by omega) hb HMID.out (fun h => absurd h hgm) (fun _ => ⟨has, hsm2⟩) ?_ ?_ h1 h2 h3 h4
          · rw [if_neg hgm]; exact HS.out.1
          · rw [if_neg hgm]; exact HS.out.2
        have MAIN := Lib.hid main
        clear main hE HS hkr HE
        by_cases hc1 : s < m
        · have hz1 : (s : Int) < (m : Int) := by omega
          by_cases hc2 : m < E
          · have hz2 : (m : Int) < (E : Int) := by omega
            have HR := Lib.hid (rotate_c blk cap d wr HDr.out s m E (.func (.func 45) #[] #[.pointer (some ⟨kb, 0, none⟩)]) hc1 hc2 (by omega) hsz)
            go_wp2_with fail
            refine HR.out.mono ?_
            rintro e w1 ⟨rfl, d1, ⟨hR1, hP1⟩, hD1, hc1h⟩
            have hg1 := (hfr.chg (S := (· = blk))).trans hc1h
            have hs1 : d1.size ≤ 1152921504606846976 := by rw [hR1.1]; exact hsz
            have hb1 : b ≤ d1.size := by rw [hR1.1]; exact hb
            have HS1 := Lib.hid hR1.1
            have HD1 := Lib.hid hD1
            have HA := Lib.hid (⟨hR1, hP1⟩ : _ ∧ _)
            have hk1 := HK.out.chg hg1 HN.out
            clear hR1 hP1 hD1 hc1h HR hfr HDr
            by_cases hc3 : a < s
            · have hz3 : (a : Int) < (s : Int) := by omega
              by_cases hc4 : s < mid
              · have hz4 : (s : Int) < (mid : Int) := by omega
                have hr := HIH.out d1 w1 a s mid (by omega) HD1.out hk1 hc3 hc4 (by omega) hs1
                rw [HS1.out] at hr
                have HR2 := Lib.hid hr
                clear hr
                go_wp2_with fail
                refine HR2.out.mono ?_
                rintro e w2 ⟨rfl, d2, hM2, hD2, hc2h⟩
                have hg2 := hg1.trans hc2h
                have HS2 : Hid (d2.size = d.size) := hM2.1.1.trans HS1.out
                have hs2 : d2.size ≤ 1152921504606846976 := by rw [HS2.out]; exact hsz
                have hb2 : b ≤ d2.size := by rw [HS2.out]; exact hb
                have HD2 := Lib.hid hD2
                have HB := Lib.hid hM2
                have hk2 := HK.out.chg hg2 HN.out
                clear hM2 hD2 hc2h HR2 hg1 hk1
                by_cases hc5 : mid < E
                · have hz5 : (mid : Int) < (E : Int) := by omega
                  by_cases hc6 : E < b
                  · have hz6 : (E : Int) < (b : Int) := by omega
                    have hr := HIH.out d2 w2 mid E b (by omega) HD2.out hk2 hc5 hc6 hb2 hs2
                    rw [HS2.out] at hr
                    have HR3 := Lib.hid hr
                    clear hr
                    go_wp2_with fail
                    refine HR3.out.mono ?_
                    rintro e w3 ⟨rfl, d3, hM3, hD3, hc3h⟩
                    have hg3 := hg2.trans hc3h
                    have hM := MAIN.out d1 d2 d3 HA.out.1 HA.out.2 HB.out hM3
                    clear hc3h HR3 hg2 hk2 hM3
                    go_wp2_with fail
                    exact bodyPost_ret (results_none rfl _ _ _) rfl ⟨rfl, d3, hM, hD3, hg3⟩
                  · have hz6 : ¬ (E : Int) < (b : Int) := by omega
                    have hM := MAIN.out d1 d2 d2 HA.out.1 HA.out.2 HB.out (MergeOk.none (by omega))
                    clear hk2
                    go_wp2_with fail
                    exact bodyPost_ret (results_none rfl _ _ _) rfl ⟨rfl, d2, hM, HD2.out, hg2⟩
                · have hz5 : ¬ (mid : Int) < (E : Int) := by omega
                  have hM := MAIN.out d1 d2 d2 HA.out.1 HA.out.2 HB.out (MergeOk.none (by omega))
                  clear hk2
                  go_wp2_with fail
                  exact bodyPost_ret (results_none rfl _ _ _) rfl ⟨rfl, d2, hM, HD2.out, hg2⟩
              · have hz4 : ¬ (s : Int) < (mid : Int) := by omega
                obtain ⟨d2, hd2⟩ : ∃ d2, d2 = d1 := ⟨_, rfl⟩
                have HB : Hid (MergeOk entLt a s mid d1 d2) := by rw [hd2]; exact MergeOk.none (by omega)
                have HS2 : Hid (d2.size = d.size) := by rw [hd2]; exact HS1.out
                have hs2 : d2.size ≤ 1152921504606846976 := by rw [hd2]; exact hs1
                have hb2 : b ≤ d2.size := by rw [hd2]; exact hb1
                have HD2 : Hid (DataAt w1 blk d2) := by rw [hd2]; exact HD1.out
                have hg2 := hg1
                have hk2 := hk1
                clear hd2 hg1 hk1
                by_cases hc5 : mid < E
                · have hz5 : (mid : Int) < (E : Int) := by omega
                  by_cases hc6 : E < b
                  · have hz6 : (E : Int) < (b : Int) := by omega
                    have hr := HIH.out d2 w1 mid E b (by omega) HD2.out hk2 hc5 hc6 hb2 hs2
                    rw [HS2.out] at hr
                    have HR3 := Lib.hid hr
                    clear hr
                    go_wp2_with fail
                    refine HR3.out.mono ?_
                    rintro e w3 ⟨rfl, d3, hM3, hD3, hc3h⟩
                    have hg3 := hg2.trans hc3h
                    have hM := MAIN.out d1 d2 d3 HA.out.1 HA.out.2 HB.out hM3
                    clear hc3h HR3 hg2 hk2 hM3
                    go_wp2_with fail
                    exact bodyPost_ret (results_none rfl _ _ _) rfl ⟨rfl, d3, hM, hD3, hg3⟩
                  · have hz6 : ¬ (E : Int) < (b : Int) := by omega
                    have hM := MAIN.out d1 d2 d2 HA.out.1 HA.out.2 HB.out (MergeOk.none (by omega))
                    clear hk2
                    go_wp2_with fail
                    exact bodyPost_ret (results_none rfl _ _ _) rfl ⟨rfl, d2, hM, HD2.out, hg2⟩
                · have hz5 : ¬ (mid : Int) < (E : Int) := by omega
                  have hM := MAIN.out d1 d2 d2 HA.out.1 HA.out.2 HB.out (MergeOk.none (by omega))
                  clear hk2
                  go_wp2_with fail
                  exact bodyPost_ret (results_none rfl _ _ _) rfl ⟨rfl, d2, hM, HD2.out, hg2⟩
            · have hz3 : ¬ (a : Int) < (s : Int) := by omega
              obtain ⟨d2, hd2⟩ : ∃ d2, d2 = d1 := ⟨_, rfl⟩
              have HB : Hid (MergeOk entLt a s mid d1 d2) := by rw [hd2]; exact MergeOk.none (by omega)
              have HS2 : Hid (d2.size = d.size) := by rw [hd2]; exact HS1.out
              have hs2 : d2.size ≤ 1152921504606846976 := by rw [hd2]; exact hs1
              have hb2 : b ≤ d2.size := by rw [hd2]; exact hb1
              have HD2 : Hid (DataAt w1 blk d2) := by rw [hd2]; exact HD1.out
              have hg2 := hg1
              have hk2 := hk1
              clear hd2 hg1 hk1
              by_cases hc5 : mid < E
              · have hz5 : (mid : Int) < (E : Int) := by omega
                by_cases hc6 : E < b
                · have hz6 : (E : Int) < (b : Int) := by omega
                  have hr := HIH.out d2 w1 mid E b (by omega) HD2.out hk2 hc5 hc6 hb2 hs2
                  rw [HS2.out] at hr
                  have HR3 := Lib.hid hr
                  clear hr
                  go_wp2_with fail
                  refine HR3.out.mono ?_
                  rintro e w3 ⟨rfl, d3, hM3, hD3, hc3h⟩
                  have hg3 := hg2.trans hc3h
                  have hM := MAIN.out d1 d2 d3 HA.out.1 HA.out.2 HB.out hM3
                  clear hc3h HR3 hg2 hk2 hM3
                  go_wp2_with fail
                  exact bodyPost_ret (results_none rfl _ _ _) rfl ⟨rfl, d3, hM, hD3, hg3⟩
                · have hz6 : ¬ (E : Int) < (b : Int) := by omega
                  have hM := MAIN.out d1 d2 d2 HA.out.1 HA.out.2 HB.out (MergeOk.none (by omega))
                  clear hk2
                  go_wp2_with fail
                  exact bodyPost_ret (results_none rfl _ _ _) rfl ⟨rfl, d2, hM, HD2.out, hg2⟩
              · have hz5 : ¬ (mid : Int) < (E : Int) := by omega
                have hM := MAIN.out d1 d2 d2 HA.out.1 HA.out.2 HB.out (MergeOk.none (by omega))
                clear hk2
                go_wp2_with fail
                exact bodyPost_ret (results_none rfl _ _ _) rfl ⟨rfl, d2, hM, HD2.out, hg2⟩
          · have hz2 : ¬ (m : Int) < (E : Int) := by omega
            have HA : Hid (Rot d s m E d ∧ PermIn s E d d) := ⟨Rot.none (by omega) (by omega), permIn_refl _ _ _⟩
            obtain ⟨d1, hd1⟩ : ∃ d1, d1 = d := ⟨_, rfl⟩
            have HA2 : Hid (Rot d s m E d1 ∧ PermIn s E d d1) := by rw [hd1]; exact HA.out
            have hs1 : d1.size ≤ 1152921504606846976 := by rw [hd1]; exact hsz
            have hb1 : b ≤ d1.size := by rw [hd1]; exact hb
            have HS1 : Hid (d1.size = d.size) := by rw [hd1]; exact (rfl : d.size = d.size)
            have HD1 : Hid (DataAt wr blk d1) := by rw [hd1]; exact HDr.out
            have hg1 := hfr.chg (S := (· = blk))
            have hk1 := HK.out.chg hg1 HN.out
            clear HA hd1 hfr HDr
            have HA := HA2
            clear HA2
            by_cases hc3 : a < s
            · have hz3 : (a : Int) < (s : Int) := by omega
              by_cases hc4 : s < mid
              · have hz4 : (s : Int) < (mid : Int) := by omega
                have hr := HIH.out d1 wr a s mid (by omega) HD1.out hk1 hc3 hc4 (by omega) hs1
                rw [HS1.out] at hr
                have HR2 := Lib.hid hr
                clear hr
                go_wp2_with fail
                refine HR2.out.mono ?_
                rintro e w2 ⟨rfl, d2, hM2, hD2, hc2h⟩
                have hg2 := hg1.trans hc2h
                have HS2 : Hid (d2.size = d.size) := hM2.1.1.trans HS1.out
                have hs2 : d2.size ≤ 1152921504606846976 := by rw [HS2.out]; exact hsz
                have hb2 : b ≤ d2.size := by rw [HS2.out]; exact hb
                have HD2 := Lib.hid hD2
                have HB := Lib.hid hM2
                have hk2 := HK.out.chg hg2 HN.out
                clear hM2 hD2 hc2h HR2 hg1 hk1
                by_cases hc5 : mid < E
                · have hz5 : (mid : Int) < (E : Int) := by omega
                  by_cases hc6 : E < b
                  · have hz6 : (E : Int) < (b : Int) := by omega
                    have hr := HIH.out d2 w2 mid E b (by omega) HD2.out hk2 hc5 hc6 hb2 hs2
                    rw [HS2.out] at hr
                    have HR3 := Lib.hid hr
                    clear hr
                    go_wp2_with fail
                    refine HR3.out.mono ?_
                    rintro e w3 ⟨rfl, d3, hM3, hD3, hc3h⟩
                    have hg3 := hg2.trans hc3h
                    have hM := MAIN.out d1 d2 d3 HA.out.1 HA.out.2 HB.out hM3
                    clear hc3h HR3 hg2 hk2 hM3
                    go_wp2_with fail
                    exact bodyPost_ret (results_none rfl _ _ _) rfl ⟨rfl, d3, hM, hD3, hg3⟩
                  · have hz6 : ¬ (E : Int) < (b : Int) := by omega
                    have hM := MAIN.out d1 d2 d2 HA.out.1 HA.out.2 HB.out (MergeOk.none (by omega))
                    clear hk2
                    go_wp2_with fail
                    exact bodyPost_ret (results_none rfl _ _ _) rfl ⟨rfl, d2, hM, HD2.out, hg2⟩
                · have hz5 : ¬ (mid : Int) < (E : Int) := by omega
                  have hM := MAIN.out d1 d2 d2 HA.out.1 HA.out.2 HB.out (MergeOk.none (by omega))
                  clear hk2
                  go_wp2_with fail
                  exact bodyPost_ret (results_none rfl _ _ _) rfl ⟨rfl, d2, hM, HD2.out, hg2⟩
              · have hz4 : ¬ (s : Int) < (mid : Int) := by omega
                obtain ⟨d2, hd2⟩ : ∃ d2, d2 = d1 := ⟨_, rfl⟩
                have HB : Hid (MergeOk entLt a s mid d1 d2) := by rw [hd2]; exact MergeOk.none (by omega)
                have HS2 : Hid (d2.size = d.size) := by rw [hd2]; exact HS1.out
                have hs2 : d2.size ≤ 1152921504606846976 := by rw [hd2]; exact hs1
                have hb2 : b ≤ d2.size := by rw [hd2]; exact hb1
                have HD2 : Hid (DataAt wr blk d2) := by rw [hd2]; exact HD1.out
                have hg2 := hg1
                have hk2 := hk1
                clear hd2 hg1 hk1
                by_cases hc5 : mid < E
                · have hz5 : (mid : Int) < (E : Int) := by omega
                  by_cases hc6 : E < b
                  · have hz6 : (E : Int) < (b : Int) := by omega
                    have hr := HIH.out d2 wr mid E b (by omega) HD2.out hk2 hc5 hc6 hb2 hs2
                    rw [HS2.out] at hr
                    have HR3 := Lib.hid hr
                    clear hr
                    go_wp2_with fail
                    refine HR3.out.mono ?_
                    rintro e w3 ⟨rfl, d3, hM3, hD3, hc3h⟩
                    have hg3 := hg2.trans hc3h
                    have hM := MAIN.out d1 d2 d3 HA.out.1 HA.out.2 HB.out hM3
                    clear hc3h HR3 hg2 hk2 hM3
                    go_wp2_with fail
                    exact bodyPost_ret (results_none rfl _ _ _) rfl ⟨rfl, d3, hM, hD3, hg3⟩
                  · have hz6 : ¬ (E : Int) < (b : Int) := by omega
                    have hM := MAIN.out d1 d2 d2 HA.out.1 HA.out.2 HB.out (MergeOk.none (by omega))
                    clear hk2
                    go_wp2_with fail
                    exact bodyPost_ret (results_none rfl _ _ _) rfl ⟨rfl, d2, hM, HD2.out, hg2⟩
                · have hz5 : ¬ (mid : Int) < (E : Int) := by omega
                  have hM := MAIN.out d1 d2 d2 HA.out.1 HA.out.2 HB.out (MergeOk.none (by omega))
                  clear hk2
                  go_wp2_with fail
                  exact bodyPost_ret (results_none rfl _ _ _) rfl ⟨rfl, d2, hM, HD2.out, hg2⟩
            · have hz3 : ¬ (a : Int) < (s : Int) := by omega
              obtain ⟨d2, hd2⟩ : ∃ d2, d2 = d1 := ⟨_, rfl⟩
              have HB : Hid (MergeOk entLt a s mid d1 d2) := by rw [hd2]; exact MergeOk.none (by omega)
              have HS2 : Hid (d2.size = d.size) := by rw [hd2]; exact HS1.out
              have hs2 : d2.size ≤ 1152921504606846976 := by rw [hd2]; exact hs1
              have hb2 : b ≤ d2.size := by rw [hd2]; exact hb1
              have HD2 : Hid (DataAt wr blk d2) := by rw [hd2]; exact HD1.out
              have hg2 := hg1
              have hk2 := hk1
              clear hd2 hg1 hk1
              by_cases hc5 : mid < E
              · have hz5 : (mid : Int) < (E : Int) := by omega
                by_cases hc6 : E < b
                · have hz6 : (E : Int) < (b : Int) := by omega
                  have hr := HIH.out d2 wr mid E b (by omega) HD2.out hk2 hc5 hc6 hb2 hs2
                  rw [HS2.out] at hr
                  have HR3 := Lib.hid hr
                  clear hr
                  go_wp2_with fail
                  refine HR3.out.mono ?_
                  rintro e w3 ⟨rfl, d3, hM3, hD3, hc3h⟩
                  have hg3 := hg2.trans hc3h
                  have hM := MAIN.out d1 d2 d3 HA.out.1 HA.out.2 HB.out hM3
                  clear hc3h HR3 hg2 hk2 hM3
                  go_wp2_with fail
                  exact bodyPost_ret (results_none rfl _ _ _) rfl ⟨rfl, d3, hM, hD3, hg3⟩
                · have hz6 : ¬ (E : Int) < (b : Int) := by omega
                  have hM := MAIN.out d1 d2 d2 HA.out.1 HA.out.2 HB.out (MergeOk.none (by omega))
                  clear hk2
                  go_wp2_with fail
                  exact bodyPost_ret (results_none rfl _ _ _) rfl ⟨rfl, d2, hM, HD2.out, hg2⟩
              · have hz5 : ¬ (mid : Int) < (E : Int) := by omega
                have hM := MAIN.out d1 d2 d2 HA.out.1 HA.out.2 HB.out (MergeOk.none (by omega))
                clear hk2
                go_wp2_with fail
                exact bodyPost_ret (results_none rfl _ _ _) rfl ⟨rfl, d2, hM, HD2.out, hg2⟩
        · have hz1 : ¬ (s : Int) < (m : Int) := by omega
          have HA : Hid (Rot d s m E d ∧ PermIn s E d d) := ⟨Rot.none (by omega) (by omega), permIn_refl _ _ _⟩
          obtain ⟨d1, hd1⟩ : ∃ d1, d1 = d := ⟨_, rfl⟩
          have HA2 : Hid (Rot d s m E d1 ∧ PermIn s E d d1) := by rw [hd1]; exact HA.out
          have hs1 : d1.size ≤ 1152921504606846976 := by rw [hd1]; exact hsz
          have hb1 : b ≤ d1.size := by rw [hd1]; exact hb
          have HS1 : Hid (d1.size = d.size) := by rw [hd1]; exact (rfl : d.size = d.size)
          have HD1 : Hid (DataAt wr blk d1) := by rw [hd1]; exact HDr.out
          have hg1 := hfr.chg (S := (· = blk))
          have hk1 := HK.out.chg hg1 HN.out
          clear HA hd1 hfr HDr
          have HA := HA2
          clear HA2
          by_cases hc3 : a < s
          · have hz3 : (a : Int) < (s : Int) := by omega
            by_cases hc4 : s < mid
            · have hz4 : (s : Int) < (mid : Int) := by omega
              have hr := HIH.out d1 wr a s mid (by omega) HD1.out hk1 hc3 hc4 (by omega) hs1
              rw [HS1.out] at hr
              have HR2 := Lib.hid hr
              clear hr
              go_wp2_with fail
              refine HR2.out.mono ?_
              rintro e w2 ⟨rfl, d2, hM2, hD2, hc2h⟩
              have hg2 := hg1.trans hc2h
              have HS2 : Hid (d2.size = d.size) := hM2.1.1.trans HS1.out
              have hs2 : d2.size ≤ 1152921504606846976 := by rw [HS2.out]; exact hsz
              have hb2 : b ≤ d2.size := by rw [HS2.out]; exact hb
              have HD2 := Lib.hid hD2
              have HB := Lib.hid hM2
              have hk2 := HK.out.chg hg2 HN.out
              clear hM2 hD2 hc2h HR2 hg1 hk1
              by_cases hc5 : mid < E
              · have hz5 : (mid : Int) < (E : Int) := by omega
                by_cases hc6 : E < b
                · have hz6 : (E : Int) < (b : Int) := by omega
                  have hr := HIH.out d2 w2 mid E b (by omega) HD2.out hk2 hc5 hc6 hb2 hs2
                  rw [HS2.out] at hr
                  have HR3 := Lib.hid hr
                  clear hr
                  go_wp2_with fail
                  refine HR3.out.mono ?_
                  rintro e w3 ⟨rfl, d3, hM3, hD3, hc3h⟩
                  have hg3 := hg2.trans hc3h
                  have hM := MAIN.out d1 d2 d3 HA.out.1 HA.out.2 HB.out hM3
                  clear hc3h HR3 hg2 hk2 hM3
                  go_wp2_with fail
                  exact bodyPost_ret (results_none rfl _ _ _) rfl ⟨rfl, d3, hM, hD3, hg3⟩
                · have hz6 : ¬ (E : Int) < (b : Int) := by omega
                  have hM := MAIN.out d1 d2 d2 HA.out.1 HA.out.2 HB.out (MergeOk.none (by omega))
                  clear hk2
                  go_wp2_with fail
                  exact bodyPost_ret (results_none rfl _ _ _) rfl ⟨rfl, d2, hM, HD2.out, hg2⟩
              · have hz5 : ¬ (mid : Int) < (E : Int) := by omega
                have hM := MAIN.out d1 d2 d2 HA.out.1 HA.out.2 HB.out (MergeOk.none (by omega))
                clear hk2
                go_wp2_with fail
                exact bodyPost_ret (results_none rfl _ _ _) rfl ⟨rfl, d2, hM, HD2.out, hg2⟩
            · have hz4 : ¬ (s : Int) < (mid : Int) := by omega
              obtain ⟨d2, hd2⟩ : ∃ d2, d2 = d1 := ⟨_, rfl⟩
              have HB : Hid (MergeOk entLt a s mid d1 d2) := by rw [hd2]; exact MergeOk.none (by omega)
              have HS2 : Hid (d2.size = d.size) := by rw [hd2]; exact HS1.out
              have hs2 : d2.size ≤ 1152921504606846976 := by rw [hd2]; exact hs1
              have hb2 : b ≤ d2.size := by rw [hd2]; exact hb1
              have HD2 : Hid (DataAt wr blk d2) := by rw [hd2]; exact HD1.out
              have hg2 := hg1
              have hk2 := hk1
              clear hd2 hg1 hk1
              by_cases hc5 : mid < E
              · have hz5 : (mid : Int) < (E : Int) := by omega
                by_cases hc6 : E < b
                · have hz6 : (E : Int) < (b : Int) := by omega
                  have hr := HIH.out d2 wr mid E b (by omega) HD2.out hk2 hc5 hc6 hb2 hs2
                  rw [HS2.out] at hr
                  have HR3 := Lib.hid hr
                  clear hr
                  go_wp2_with fail
                  refine HR3.out.mono ?_
                  rintro e w3 ⟨rfl, d3, hM3, hD3, hc3h⟩
                  have hg3 := hg2.trans hc3h
                  have hM := MAIN.out d1 d2 d3 HA.out.1 HA.out.2 HB.out hM3
                  clear hc3h HR3 hg2 hk2 hM3
                  go_wp2_with fail
                  exact bodyPost_ret (results_none rfl _ _ _) rfl ⟨rfl, d3, hM, hD3, hg3⟩
                · have hz6 : ¬ (E : Int) < (b : Int) := by omega
                  have hM := MAIN.out d1 d2 d2 HA.out.1 HA.out.2 HB.out (MergeOk.none (by omega))
                  clear hk2
                  go_wp2_with fail
                  exact bodyPost_ret (results_none rfl _ _ _) rfl ⟨rfl, d2, hM, HD2.out, hg2⟩
              · have hz5 : ¬ (mid : Int) < (E : Int) := by omega
                have hM := MAIN.out d1 d2 d2 HA.out.1 HA.out.2 HB.out (MergeOk.none (by omega))
                clear hk2
                go_wp2_with fail
                exact bodyPost_ret (results_none rfl _ _ _) rfl ⟨rfl, d2, hM, HD2.out, hg2⟩
          · have hz3 : ¬ (a : Int) < (s : Int) := by omega
            obtain ⟨d2, hd2⟩ : ∃ d2, d2 = d1 := ⟨_, rfl⟩
            have HB : Hid (MergeOk entLt a s mid d1 d2) := by rw [hd2]; exact MergeOk.none (by omega)
            have HS2 : Hid (d2.size = d.size) := by rw [hd2]; exact HS1.out
            have hs2 : d2.size ≤ 1152921504606846976 := by rw [hd2]; exact hs1
            have hb2 : b ≤ d2.size := by rw [hd2]; exact hb1
            have HD2 : Hid (DataAt wr blk d2) := by rw [hd2]; exact HD1.out
            have hg2 := hg1
            have hk2 := hk1
            clear hd2 hg1 hk1
            by_cases hc5 : mid < E
            · have hz5 : (mid : Int) < (E : Int) := by omega
              by_cases hc6 : E < b
              · have hz6 : (E : Int) < (b : Int) := by omega
                have hr := HIH.out d2 wr mid E b (by omega) HD2.out hk2 hc5 hc6 hb2 hs2
                rw [HS2.out] at hr
                have HR3 := Lib.hid hr
                clear hr
                go_wp2_with fail
                refine HR3.out.mono ?_
                rintro e w3 ⟨rfl, d3, hM3, hD3, hc3h⟩
                have hg3 := hg2.trans hc3h
                have hM := MAIN.out d1 d2 d3 HA.out.1 HA.out.2 HB.out hM3
                clear hc3h HR3 hg2 hk2 hM3
                go_wp2_with fail
                exact bodyPost_ret (results_none rfl _ _ _) rfl ⟨rfl, d3, hM, hD3, hg3⟩
              · have hz6 : ¬ (E : Int) < (b : Int) := by omega
                have hM := MAIN.out d1 d2 d2 HA.out.1 HA.out.2 HB.out (MergeOk.none (by omega))
                clear hk2
                go_wp2_with fail
                exact bodyPost_ret (results_none rfl _ _ _) rfl ⟨rfl, d2, hM, HD2.out, hg2⟩
            · have hz5 : ¬ (mid : Int) < (E : Int) := by omega
              have hM := MAIN.out d1 d2 d2 HA.out.1 HA.out.2 HB.out (MergeOk.none (by omega))
              clear hk2
              go_wp2_with fail
              exact bodyPost_ret (results_none rfl _ _ _) rfl ⟨rfl, d2, hM, HD2.out, hg2⟩
theorem symMerge_c (blk cap kb : Nat) (hne : kb ≠ blk) : ∀ (n : Nat) (d : Array Ent) (w : World) (a m b : Nat), b - a ≤ n → DataAt w blk d → CmpAt w kb → a < m → m < b → b ≤ d.size → d.size ≤ 1152921504606846976 → SymAt blk cap kb d w a m b
  | 0, d, w, a, m, b, h, _, _, h1, h2, _, _ => by omega
  | n + 1, d, w, a, m, b, h, hD, hK, h1, h2, hb, hs => by
    by_cases c1 : m = a + 1
    · subst c1; exact symUp_c blk cap kb d w hD hK hne a b h2 hb hs
    · by_cases c2 : b = m + 1
      · subst c2; exact symDn_c blk cap kb d w hD hK hne a m (by omega) hb hs
      · exact symMid_c blk cap kb d w hD hK hne a m b (by omega) (by omega) hb hs fun d' w' a' m' b' h' hD' hK' g1 g2 g3 g4 => symMerge_c blk cap kb hne n d' w' a' m' b' (by omega) hD' hK' g1 g2 g3 g4
end Go.Proofs.Ytjomjlodmelnbaa
