/- umpirelaw03.ResultForms: the law's walk. No condition but what the tables hold and the numbers' bounds. -/
import Derived.Test.YthaocbmkkgeomaaDoorPLawRes
import Derived.Test.YthaocbmkkgeomaaDoorPResRefParse
import Derived.Test.YthaocbmkkgeomaaDoorPArms
set_option linter.all false
set_option linter.unusedVariables false
set_option linter.unusedSimpArgs false
set_option linter.unnecessarySimpa false
/- umpirelaw03.ResultForms: the law's walk. No condition but what the tables hold and the numbers' bounds. -/
namespace Go.Proofs.YthaocbmkkgeomaaDoor
open Go.RowKit

theorem RdAt.chp {w w' : World} {p q e at_ : Nat} {s : List UInt8} (h : RdAt w p e s at_) (k : Chp q w w') (hne : p ≠ q) : RdAt w' p e s at_ :=
  ⟨(k.cell h.lt hne).trans h.c0, (k.cell h.lt hne).trans h.c1, (k.cell h.lt hne).trans h.c2, (k.frozen h.lt hne).trans h.f0, (k.frozen h.lt hne).trans h.f1, (k.frozen h.lt hne).trans h.f2, h.le, h.big⟩
theorem RfAt.chp {w w' : World} {p q e at_ : Nat} {s : List UInt8} (h : RfAt w p e s at_) (k : Chp q w w') (hne : p ≠ q) : RfAt w' p e s at_ :=
  ⟨(k.cell h.lt hne).trans h.c0, (k.cell h.lt hne).trans h.c1, (k.cell h.lt hne).trans h.c2, (k.frozen h.lt hne).trans h.f0, (k.frozen h.lt hne).trans h.f1, (k.frozen h.lt hne).trans h.f2, h.le, h.big⟩
set_option maxRecDepth 100000 in
set_option maxHeartbeats 4000000 in
theorem resForms_c (K V : Nat) (s t : List UInt8) (w : World) (hE : EnvR w) (hK : K < 256) (hV : V < 65536) :
    Calls Tryd.prog 5 #[.agg #[.int .u8 K, .int .u16 V], .string ⟨s.toArray⟩, .string ⟨t.toArray⟩] w fun e w' => e = .returned (.bool true) ∧ Fr w w' := by
  have hs := size_mk s
  have htz := size_mk t
  have HAW := Lib.hid (fun W (f : Fr w W) => awake3_c W (hE.keep f))
  by_cases h3 : 300 < s.length ∨ 300 < t.length
  · clear hE
    by_cases h4 : 300 < s.length
    · have h4i : (300 : Int) < s.length := by omega
      go_enter Tryd.func5, Tryd.ntmps5
      go_wp2_with fail
      refine (HAW.out _ ((Fr.refl w).alloc _)).mono ?_
      rintro e w1 ⟨rfl, hb⟩
      go_wp2_with fail
      go_ret
      exact ⟨rfl, Fr.trans ((Fr.refl w).alloc (.cells #[.int .u8 K, .int .u16 V] 24)) hb⟩
    · have h4i : ¬ (300 : Int) < s.length := by omega
      have h5i : (300 : Int) < t.length := by omega
      go_enter Tryd.func5, Tryd.ntmps5
      go_wp2_with fail
      refine (HAW.out _ ((Fr.refl w).alloc _)).mono ?_
      rintro e w1 ⟨rfl, hb⟩
      go_wp2_with fail
      go_ret
      exact ⟨rfl, Fr.trans ((Fr.refl w).alloc (.cells #[.int .u8 K, .int .u16 V] 24)) hb⟩
  · have hs3 : s.length ≤ 300 := by omega
    have ht3 : t.length ≤ 300 := by omega
    have hsi : ¬ (300 : Int) < s.length := by omega
    have hti : ¬ (300 : Int) < t.length := by omega
    have H1 := fun W => resPut_c K V W hK hV
    have H2 := fun W => rResPut_c K V W hK hV
    have H3 := fun W (f : Fr w W) => resText_c K V W (hE.keep f) hV
    have H4 := fun W => rText_c K V W hV
    have H5 := fun W => resCheck_c K V W
    have H6 := fun W => rGood_c K V W
    have H7 := fun W (f : Fr w W) => resParse_c t W (hE.keep f) (by omega)
    have H8 := fun W => rParse3_c t W (by omega)
    obtain ⟨⟨B, eb⟩, hB⟩ : ∃ T, putRes K V = T := ⟨_, rfl⟩
    obtain ⟨⟨X, ex⟩, hX⟩ : ∃ T, textRes K V = T := ⟨_, rfl⟩
    obtain ⟨⟨K4, V4, e4⟩, hP4⟩ : ∃ T, parseRes t = T := ⟨_, rfl⟩
    obtain ⟨c, hc⟩ : ∃ c, checkRes K V = c := ⟨_, rfl⟩
    obtain ⟨g, hg⟩ : ∃ g, goodB K V = g := ⟨_, rfl⟩
    have hcg : ((c : Int) == 0) = g := by
      rw [← hc, ← hg]
      unfold checkRes
      cases goodB K V <;> rfl
    rw [hB] at H1 H2
    rw [hX] at H3 H4
    rw [hc] at H5
    rw [hg] at H6
    rw [hP4] at H7 H8
    have hne4 := fun W => resD_neq K4 V4 K4 V4 W
    rw [decide_eq_true ⟨rfl, rfl⟩] at hne4
    have H1 := Lib.hid H1
    have H2 := Lib.hid H2
    have H3 := Lib.hid H3
    have H4 := Lib.hid H4
    have H5 := Lib.hid H5
    have H6 := Lib.hid H6
    have H7 := Lib.hid H7
    have H8 := Lib.hid H8
    clear h3 hB hX hc hg hP4 hE
    go_enter Tryd.func5, Tryd.ntmps5
    have hf0 : Fr w (w.alloc (.cells #[.int .u8 K, .int .u16 V] 24)) := (Fr.refl w).alloc _
    go_wp2_with fail
    refine (H1.out _).mono ?_
    rintro e w1 ⟨rfl, hb1⟩
    have hf1 := hf0.trans hb1
    have a0 := hb1.keep (p := ⟨w.heap.size, 0, none⟩) (v := .int .u8 K) (by simp)
    have a1 := hb1.keep (p := ⟨w.heap.size, 1, none⟩) (v := .int .u16 V) (by simp)
    clear hb1 hf0
    go_wp2_with fail
    refine (H2.out _).mono ?_
    rintro e w2 ⟨rfl, hb2⟩
    have hf2 := hf1.trans hb2
    have a0 := hb2.keep a0
    have a1 := hb2.keep a1
    clear hb2 hf1
    go_wp2_with fail
    refine (H3.out _ hf2).mono ?_
    rintro e w3 ⟨rfl, hb3⟩
    have hf3 := hf2.trans hb3
    have a0 := hb3.keep a0
    have a1 := hb3.keep a1
    clear hb3 hf2
    go_wp2_with fail
    refine (H4.out _).mono ?_
    rintro e w4 ⟨rfl, hb4⟩
    have hf4 := hf3.trans hb4
    have a0 := hb4.keep a0
    have a1 := hb4.keep a1
    have hz := lt_of_cell a0
    simp only at hz
    clear hb4 hf3
    simp only
    go_wp2_with fail
    have e0 := FrW.cell a0
    have e1 := FrW.cell a1
    refine wp_region_fr (by kernel_rfl) (by kernel_rfl) ?_
    repeat (go_big_quiet_step ((first | (go_at_call 26; exact frq (H5.out _)) | (go_at_call 27; exact frq (H6.out _)))))
    refine wpQuiet_nil ?_
    rintro w5 ⟨⟨_, hf5'⟩, rfl⟩
    have hf5 : Fr w w5 := hf4.trans hf5'
    clear e0 e1 a0 a1 hf4 hf5'
    go_wp2_with fail
    refine (H7.out _ hf5).mono ?_
    rintro e w6 ⟨rfl, hb6⟩
    have hf6 := hf5.trans hb6
    clear hb6 hf5
    go_wp2_with fail
    refine (H8.out _).mono ?_
    rintro e w7 ⟨rfl, hb7⟩
    have hf7 := (hf6.alloc (.cells #[.int .u8 K4, .int .u16 V4] 24)).trans hb7
    have a0 := hb7.keep (p := ⟨w6.heap.size, 0, none⟩) (v := .int .u8 K4) (by simp)
    have a1 := hb7.keep (p := ⟨w6.heap.size, 1, none⟩) (v := .int .u16 V4) (by simp)
    have hz := hb7.size1
    clear hb7 hf6
    simp only
    go_wp2_with fail
    have hf7a := hf7.alloc (.cells #[.int .u8 K4, .int .u16 V4] 24)
    refine (Over_c s _ (by omega)).mono ?_
    rintro e w8 ⟨p, rfl, hrd, hb8, hp⟩
    have hf8 := hf7a.trans hb8
    have hpw : w.heap.size ≤ p := Nat.le_trans hf7a.size hp
    clear a0 a1 hb8 hf7 hf7a hp hz
    go_wp2_with fail
    have hq0 : RfAt (w8.alloc (.cells #[.string ⟨s.toArray⟩, .int .i64 0, .int .i64 0] 54)) w8.heap.size 0 s 0 := ⟨by simp, by simp, by simp, by simp, by simp, by simp, by omega, by omega⟩
    have hrd0 := hrd.keep ((Fr.refl w8).alloc (.cells #[.string ⟨s.toArray⟩, .int .i64 0, .int .i64 0] 54))
    have hpq : p < w8.heap.size := hrd.lt
    have hf9 := hf8.alloc (.cells #[.string ⟨s.toArray⟩, .int .i64 0, .int .i64 0] 54)
    have hqw : w.heap.size ≤ w8.heap.size := hf8.size
    generalize w8.heap.size = q at hq0 hpq hqw ⊢
    go_loopw [21] (fun i wr => ∃ k e at_ : Nat, k ≤ 5 ∧ i = .int .i64 k ∧ Fr w wr ∧ RdAt wr p e s at_ ∧ RfAt wr q e s at_) (fun i _ => 5 - (intOf i).toNat)
    case atStart => exact ⟨0, 0, 0, by omega, rfl, hf9, hrd0, hq0⟩
    case round =>
      clear hq0 hrd0 hf9 hf8 hrd
      obtain ⟨k, e, at_, hk, rfl, hfr, hrd, hrf⟩ := hrel
      by_cases hlt : k < 5
      · have hlti : (k : Int) < 5 := by omega
        have HA := Lib.hid (fun W h => resTake_c p e at_ s W h)
        have HB := Lib.hid (fun W h => rResTake_c q e at_ s W h)
        obtain ⟨⟨⟨K2, V2, e2⟩, e3, at2⟩, hT⟩ : ∃ T, takeRes e s at_ = T := ⟨_, rfl⟩
        rw [hT] at HA HB
        have hne2 := fun W => resD_neq K2 V2 K2 V2 W
        rw [decide_eq_true ⟨rfl, rfl⟩] at hne2
        clear hT
        go_wp2_with fail
        refine (HA.out _ hrd).mono ?_
        rintro e wA ⟨rfl, hrdA, hchA⟩
        simp only at hrdA hchA ⊢
        have hfA : Fr w wA := Chp.fr hfr hchA hpw
        have hrfA := (hrf.chp hchA (by omega)).keep ((Fr.refl wA).alloc (.cells #[.int .u8 K2, .int .u16 V2] 24))
        have hrdA1 := hrdA.keep ((Fr.refl wA).alloc (.cells #[.int .u8 K2, .int .u16 V2] 24))
        have hqA : q < wA.heap.size := by have := hrf.lt; have := hchA.size; omega
        have hfA1 := hfA.alloc (.cells #[.int .u8 K2, .int .u16 V2] 24)
        clear hfr hrd hrf hchA hrdA hfA HA
        go_wp2_with fail
        refine (HB.out _ hrfA).mono ?_
        rintro e wB ⟨rfl, hrfB, hchB⟩
        simp only at hrfB hchB ⊢
        have hfB : Fr w wB := Chp.fr hfA1 hchB hqw
        have hrdB := hrdA1.chp hchB (by omega)
        have a0 := (hchB.cell (b := wA.heap.size) (o := 0) (by simp) (by omega)).trans (show _ = some (.int .u8 K2) by simp)
        have a1 := (hchB.cell (b := wA.heap.size) (o := 1) (by simp) (by omega)).trans (show _ = some (.int .u16 V2) by simp)
        have hzB : wA.heap.size < wB.heap.size := by have := hchB.size; simp at this; omega
        have hrfC := hrfB.keep ((Fr.refl wB).alloc (.cells #[.int .u8 K2, .int .u16 V2] 24))
        have hrdC := hrdB.keep ((Fr.refl wB).alloc (.cells #[.int .u8 K2, .int .u16 V2] 24))
        have hfC := hfB.alloc (.cells #[.int .u8 K2, .int .u16 V2] 24)
        clear hrfA hrdA1 hfA1 hchB hfB hrdB hrfB HB
        have b0 := cell_al (.cells #[.int .u8 K2, .int .u16 V2] 24) a0
        have b1 := cell_al (.cells #[.int .u8 K2, .int .u16 V2] 24) a1
        go_wp2_with fail
        have d0 := FrW.cell b0
        have d1 := FrW.cell b1
        have d2 := FrW.cell (show (wB.alloc (.cells #[.int .u8 K2, .int .u16 V2] 24)).cell? ⟨wB.heap.size, 0, none⟩ = some (.int .u8 K2) by simp)
        have d3 := FrW.cell (show (wB.alloc (.cells #[.int .u8 K2, .int .u16 V2] 24)).cell? ⟨wB.heap.size, 1, none⟩ = some (.int .u16 V2) by simp)
        have d4 := FrW.cell hrfC.c1
        have HD := Lib.hid hrdC
        have HF := Lib.hid hrfC
        clear a0 a1 b0 b1 hrfC hrdC
        refine wp_region_fr (by kernel_rfl) (by kernel_rfl) ?_
        repeat (go_big_quiet_step ((go_at_call 31; exact frq' (At_c p e3 at2 s _ (HD.out.keep (FrW.fr _))))))
        refine wpQuiet_nil ?_
        rintro wD ⟨⟨_, hfD'⟩, rfl⟩
        have hfD : Fr w wD := hfC.trans hfD'
        have hrdD := HD.out.keep hfD'
        have hrfD := HF.out.keep hfD'
        clear d0 d1 d2 d3 d4 hfC hfD' HD HF
        go_wp2_with fail
        go_roundw
        case rel => exact ⟨k + 1, e3, at2, by omega, by go_num, hfD, hrdD, hrfD⟩
        case measure => simp [intOf]; omega
      · obtain rfl : k = 5 := by omega
        go_wp2_with fail
        refine (HAW.out _ hfr).mono ?_
        rintro e wE ⟨rfl, hbE⟩
        go_wp2_with fail
        go_ret
        exact ⟨rfl, hfr.trans hbE⟩
end Go.Proofs.YthaocbmkkgeomaaDoor
