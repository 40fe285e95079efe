/- umpirelaw03.of, text, none, awake. No condition but what the tables hold and the numbers' bounds. -/
import Derived.Test.YthaocbmkkgeomaaDoorPResParse
import Derived.Test.YthaocbmkkgeomaaDoorPResMay
import Derived.Test.YthaocbmkkgeomaaDoorPTake
import Derived.Test.YthaocbmkkgeomaaDoorPRange
import Derived.Test.YthaocbmkkgeomaaDoorPArms
set_option linter.all false
set_option linter.unusedVariables false
set_option linter.unusedSimpArgs false
set_option linter.unnecessarySimpa false
/- umpirelaw03.of, text, none, awake. No condition but what the tables hold and the numbers' bounds. -/
namespace Go.Proofs.YthaocbmkkgeomaaDoor
open Go.RowKit

theorem resD_eql (a b a' b' : Nat) (W : World) : (binOp .eql 24 (.agg #[.int .u8 a, .int .u16 b]) (.agg #[.int .u8 a', .int .u16 b'])).run Tryd.prog W = .ok (.bool (decide (a = a' ∧ b = b'))) W := by
  by_cases h1 : a = a' <;> by_cases h2 : b = b' <;> simp [go_sem, Tryd.eqGuardType24, Tryd.stoodInHeld24, Tryd.underlying24, h1, h2] <;> omega
theorem resD_neq (a b a' b' : Nat) (W : World) : (binOp .neq 24 (.agg #[.int .u8 a, .int .u16 b]) (.agg #[.int .u8 a', .int .u16 b'])).run Tryd.prog W = .ok (.bool (!decide (a = a' ∧ b = b'))) W := by
  by_cases h1 : a = a' <;> by_cases h2 : b = b' <;> simp [go_sem, Tryd.eqGuardType24, Tryd.stoodInHeld24, Tryd.underlying24, h1, h2] <;> omega
theorem of_c (K V : Nat) (w : World) : Calls Tryd.prog 18 #[.int .u8 K, .int .u16 V] w fun e w' => e = .returned (.agg #[.int .u8 K, .int .u16 V]) ∧ Fr w w' := by
  go_enter Tryd.func18, Tryd.ntmps18
  go_wp2
  exact bodyPost_ret (v := .agg #[.int .u8 K, .int .u16 V]) (by simp [results, Tryd.results18, go_sem]) rfl ⟨rfl, (Fr.refl _).alloc _⟩
set_option maxRecDepth 100000 in
theorem text_yes (K V : Nat) (want : List UInt8) (w : World) (hE : EnvR w) (hV : V < 65536) (hs : want.length < 1000000) (hT : textRes K V = (want, 0)) (hP : parseRes want = (K, V, 0)) :
    Calls Tryd.prog 17 #[.agg #[.int .u8 K, .int .u16 V], .string ⟨want.toArray⟩] w fun e w' => e = .returned (.bool true) ∧ Fr w w' := by
  have ht := fun W (f : Fr w W) => resText_c K V W (hE.keep f) hV
  have hp := fun W (f : Fr w W) => resParse_c want W (hE.keep f) hs
  rw [hT] at ht
  rw [hP] at hp
  have he := fun W => resD_eql K V K V W
  rw [decide_eq_true ⟨rfl, rfl⟩] at he
  have HT := Lib.hid ht
  have HP := Lib.hid hp
  clear ht hp hE hT hP
  go_enter Tryd.func17, Tryd.ntmps17
  go_wp2_with fail
  have hf0 : Fr w (w.alloc (.cells #[.int .u8 K, .int .u16 V] 24)) := (Fr.refl w).alloc _
  refine (HT.out _ hf0).mono ?_
  rintro e w1 ⟨rfl, hb1⟩
  have hf1 := hf0.trans hb1
  have a0 := hb1.keep (p := ⟨w.heap.size, 0, none⟩) (v := .int .u8 K) (by simp)
  have a1 := hb1.keep (p := ⟨w.heap.size, 1, none⟩) (v := .int .u16 V) (by simp)
  go_wp2_with fail
  refine (HP.out _ hf1).mono ?_
  rintro e w2 ⟨rfl, hb2⟩
  have hf2 := hf1.trans hb2
  have b0 := hb2.keep a0
  have b1 := hb2.keep a1
  have hz := lt_of_cell b0
  simp only at hz
  clear a0 a1 hb1 hb2
  go_wp2_with fail
  go_ret
  exact ⟨rfl, hf2.alloc _⟩
set_option maxRecDepth 100000 in
theorem none_yes (s : List UInt8) (w : World) (hE : EnvR w) (hs : s.length < 1000000) (hP : parseRes s = (0, 0, 4)) :
    Calls Tryd.prog 19 #[.string ⟨s.toArray⟩] w fun e w' => e = .returned (.bool true) ∧ Fr w w' := by
  have hp := resParse_c s w hE hs
  rw [hP] at hp
  have he := fun W => resD_eql 0 0 0 0 W
  rw [decide_eq_true ⟨rfl, rfl⟩] at he
  have HP := Lib.hid hp
  clear hp hE hP
  go_enter Tryd.func19, Tryd.ntmps19
  go_wp2_with fail
  refine HP.out.mono ?_
  rintro e w2 ⟨rfl, hb2⟩
  go_wp2_with fail
  go_ret
  exact ⟨rfl, hb2.alloc _⟩
set_option maxRecDepth 100000 in
theorem awake3_c (w : World) (hE : EnvR w) : Calls Tryd.prog 16 #[] w fun e w' => e = .returned (.bool true) ∧ Fr w w' := by
  have h1 := Lib.hid (fun W (_ : Fr w W) => resPut_c 1 258 W (by decide) (by decide))
  have h2 := Lib.hid (fun W (f : Fr w W) => text_yes 1 7 [118, 97, 108, 117, 101, 32, 55] W (hE.keep f) (by decide) (by decide) (by decide +kernel) (by decide +kernel))
  have h3 := Lib.hid (fun W (f : Fr w W) => text_yes 3 0 [121, 101, 115] W (hE.keep f) (by decide) (by decide) (by decide +kernel) (by decide +kernel))
  have h4 := Lib.hid (fun W (f : Fr w W) => none_yes [89, 101, 115] W (hE.keep f) (by decide) (by decide +kernel))
  have h5 := Lib.hid (fun W (_ : Fr w W) => show Calls Tryd.prog 14 #[.int .u8 1, .agg #[.int .u8 2, .int .u16 0]] W (NumRet W 10) by
    have := resMay_c 1 2 0 W
    rw [show mayRes 1 2 0 = 10 by decide] at this
    exact this)
  have o1 := Lib.hid (fun W => of_c 1 258 W)
  have o2 := Lib.hid (fun W => of_c 1 7 W)
  have o3 := Lib.hid (fun W => of_c 3 0 W)
  have o4 := Lib.hid (fun W => of_c 2 0 W)
  clear hE
  go_enter Tryd.func16, Tryd.ntmps16
  go_wp2_with fail
  refine (o1.out _).mono ?_
  rintro e w1 ⟨rfl, hb1⟩
  go_wp2_with fail
  refine (h1.out _ hb1).mono ?_
  rintro e w2 ⟨rfl, hb2⟩
  have hf2 := hb1.trans hb2
  rw [show putRes 1 258 = ([1, 1, 2], 0) by decide]
  go_wp2_with fail
  refine (o2.out _).mono ?_
  rintro e w3 ⟨rfl, hb3⟩
  have hf3 := hf2.trans hb3
  go_wp2_with fail
  refine (h2.out _ hf3).mono ?_
  rintro e w4 ⟨rfl, hb4⟩
  have hf4 := hf3.trans hb4
  go_wp2_with fail
  refine (o3.out _).mono ?_
  rintro e w5 ⟨rfl, hb5⟩
  have hf5 := hf4.trans hb5
  go_wp2_with fail
  refine (h3.out _ hf5).mono ?_
  rintro e w6 ⟨rfl, hb6⟩
  have hf6 := hf5.trans hb6
  go_wp2_with fail
  refine (h4.out _ hf6).mono ?_
  rintro e w7 ⟨rfl, hb7⟩
  have hf7 := hf6.trans hb7
  go_wp2_with fail
  refine (o4.out _).mono ?_
  rintro e w8 ⟨rfl, hb8⟩
  have hf8 := hf7.trans hb8
  go_wp2_with fail
  refine (h5.out _ hf8).mono ?_
  rintro e w9 ⟨rfl, hb9⟩
  have hf9 := hf8.trans hb9
  go_wp2_with fail
  go_ret
  exact ⟨rfl, hf9⟩
end Go.Proofs.YthaocbmkkgeomaaDoor

/- umpirelaw03.ResultBack: the law's walk. No condition but what the tables hold and the numbers' bounds. -/
namespace Go.Proofs.YthaocbmkkgeomaaDoor
open Go.RowKit

theorem be_two (V : Nat) : be V 2 = [UInt8.ofNat (V / 256), UInt8.ofNat V] := by simp [be]
theorem ofBe_be2 {V : Nat} (h : V < 65536) : ofBe (be V 2) = V := by
  rw [be_two]
  simp [ofBe]
  omega
theorem resBytes_len (K V : Nat) : (resBytes K V).length = if K = 1 then 3 else 1 := by
  unfold resBytes
  split <;> simp [be_len]
/-- An answer's bytes are read as the answer. -/
theorem takeRes_put {K V : Nat} (hg : goodB K V = true) (hV : V < 65536) (s : List UInt8) : takeRes 0 (resBytes K V ++ s) 0 = ((K, V, 0), (0, (resBytes K V).length)) := by
  obtain ⟨hK, h0⟩ := good_lt hg
  unfold takeRes
  by_cases h1 : K = 1
  · subst h1
    have e1 : resBytes 1 V = [1, UInt8.ofNat (V / 256), UInt8.ofNat V] := by rw [show resBytes 1 V = be 1 1 ++ be V 2 from rfl, be_two]; rfl
    rw [e1]
    have e2 := ofBe_be2 hV
    rw [be_two] at e2
    have hn : ¬ (s.length + 2 < 2) := by omega
    have e3 : V / 256 % 256 * 256 + V % 256 = V := by omega
    simp [rdRaw, ofBe, hn, e3, hg]
  · have hv := h0 h1
    subst hv
    have e1 : resBytes K 0 = [UInt8.ofNat K] := by unfold resBytes; rw [if_neg h1]; simp [be]
    rw [e1]
    have hk : (UInt8.ofNat K).toNat = K := by simp; omega
    generalize UInt8.ofNat K = c at hk
    subst hk
    simp [rdRaw, ofBe, h1, hg]
/-- What is read of bytes has these bytes. -/
theorem takeRes_back {s : List UInt8} {K V e at_ : Nat} (h : takeRes 0 s 0 = ((K, V, 0), (e, at_))) : goodB K V = true ∧ V < 65536 ∧ K < 256 ∧ resBytes K V = s.take at_ ∧ at_ ≤ s.length := by
  cases s with
  | nil => simp [takeRes, rdRaw, ofBe] at h
  | cons c r =>
    by_cases h1 : c.toNat = 1
    · have hc : c = 1 := by apply UInt8.toNat_inj.1; simpa using h1
      subst hc
      match r, h with
      | [], h => simp [takeRes, rdRaw, ofBe] at h
      | [d], h => simp [takeRes, rdRaw, ofBe] at h
      | d :: q :: r, h =>
        have hn : ¬ (r.length + 1 + 1 < 2) := by omega
        have hg : ∀ V, goodB 1 V = true := fun V => by simp [goodB]
        have hd := d.toNat_lt
        have hq := q.toNat_lt
        simp [takeRes, rdRaw, ofBe, hn, hg] at h
        obtain ⟨⟨rfl, rfl⟩, rfl, rfl⟩ := h
        refine ⟨hg _, by omega, by omega, ?_, by simp⟩
        rw [show resBytes 1 (d.toNat * 256 + q.toNat) = be 1 1 ++ be (d.toNat * 256 + q.toNat) 2 from rfl, be_two]
        have e1 : UInt8.ofNat ((d.toNat * 256 + q.toNat) / 256) = d := by apply UInt8.toNat_inj.1; first | (simp; done) | (simp; omega)
        have e2 : UInt8.ofNat (d.toNat * 256 + q.toNat) = q := by apply UInt8.toNat_inj.1; first | (simp; done) | (simp; omega)
        rw [e1, e2]
        rfl
    · have hc := c.toNat_lt
      have hh : takeRes 0 (c :: r) 0 = (if goodB c.toNat 0 then (c.toNat, 0, 0) else (0, 0, 4), (0, 1)) := by simp [takeRes, rdRaw, ofBe, h1]
      rw [hh] at h
      cases hg : goodB c.toNat 0
      · rw [hg] at h; simp at h
      · rw [hg] at h
        simp at h
        obtain ⟨⟨rfl, rfl⟩, rfl, rfl⟩ := h
        refine ⟨hg, by omega, by omega, ?_, by simp⟩
        unfold resBytes
        rw [if_neg h1]
        simp [be]
theorem At_c (p e at_ : Nat) (s : List UInt8) (w : World) (h : RdAt w p e s at_) :
    Calls Tryd.prog 31 #[.pointer (some ⟨p, 0, none⟩)] w fun e' w' => e' = .returned (.int .i64 at_) ∧ w = w' := by
  obtain ⟨h0, h1, h2, _, _, _, hle, hbig⟩ := h
  go_enter Tryd.func31, Tryd.ntmps31
  go_wp2
  go_ret
  exact ⟨rfl, rfl⟩
theorem parse_text {t : List UInt8} {K V : Nat} (h : parseRes t = (K, V, 0)) : textRes K V = (t, 0) ∧ V < 65536 := by
  obtain ⟨hg, hV, ht⟩ := (parseRes_iff t K V).1 h
  exact ⟨by unfold textRes; rw [if_pos hg, ht], hV⟩
set_option maxRecDepth 100000 in
set_option maxHeartbeats 4000000 in
theorem resBack_c (K V : Nat) (s t : List UInt8) (w : World) (hE : EnvR w) (hK : K < 256) (hV : V < 65536) :
    Calls Tryd.prog 6 #[.agg #[.int .u8 K, .int .u16 V], .string ⟨s.toArray⟩, .string ⟨t.toArray⟩] w fun e w' => e = .returned (.bool true) ∧ Fr w w' := by
  have hs := size_mk s
  have htz := size_mk t
  have HAW := Lib.hid (fun W (f : Fr w W) => awake3_c W (hE.keep f))
  by_cases h3 : 300 < s.length ∨ 300 < t.length
  · clear hE
    by_cases h4 : 300 < s.length
    · have h4i : (300 : Int) < s.length := by omega
      go_enter Tryd.func6, Tryd.ntmps6
      go_wp2_with fail
      refine (HAW.out _ ((Fr.refl w).alloc _)).mono ?_
      rintro e w1 ⟨rfl, hb⟩
      go_wp2_with fail
      go_ret
      exact ⟨rfl, Fr.trans ((Fr.refl w).alloc (.cells #[.int .u8 K, .int .u16 V] 24)) hb⟩
    · have h4i : ¬ (300 : Int) < s.length := by omega
      have h5i : (300 : Int) < t.length := by omega
      go_enter Tryd.func6, Tryd.ntmps6
      go_wp2_with fail
      refine (HAW.out _ ((Fr.refl w).alloc _)).mono ?_
      rintro e w1 ⟨rfl, hb⟩
      go_wp2_with fail
      go_ret
      exact ⟨rfl, Fr.trans ((Fr.refl w).alloc (.cells #[.int .u8 K, .int .u16 V] 24)) hb⟩
  · have hs3 : s.length ≤ 300 := by omega
    have ht3 : t.length ≤ 300 := by omega
    have hsi : ¬ (300 : Int) < s.length := by omega
    have hti : ¬ (300 : Int) < t.length := by omega
    have hput := fun W => resPut_c K V W hK hV
    have htxt := fun W (f : Fr w W) => resText_c K V W (hE.keep f) hV
    have hchk := fun W => resCheck_c K V W
    have hpa := fun W (f : Fr w W) => resParse_c t W (hE.keep f) (by omega)
    obtain ⟨⟨K4, V4, e4⟩, hP4⟩ : ∃ T, parseRes t = T := ⟨_, rfl⟩
    have HTY := Lib.hid (fun (h : e4 = 0) W (f : Fr w W) => text_yes K4 V4 t W (hE.keep f) (parse_text (h ▸ hP4)).2 (by omega) (parse_text (h ▸ hP4)).1 (h ▸ hP4))
    rw [hP4] at hpa
    have HPA := Lib.hid hpa
    clear h3 hpa hP4
    cases hg : goodB K V
    · unfold putRes at hput
      unfold textRes at htxt
      unfold checkRes at hchk
      rw [hg] at hput htxt hchk
      have H1 := Lib.hid hput
      have H2 := Lib.hid htxt
      have H3 := Lib.hid hchk
      clear hput htxt hchk hg hE
      go_enter Tryd.func6, Tryd.ntmps6
      have hf0 : Fr w (w.alloc (.cells #[.int .u8 K, .int .u16 V] 24)) := (Fr.refl w).alloc _
      go_wp2_with fail
      refine (H1.out _).mono ?_
      rintro e w1 ⟨rfl, hb1⟩
      have hf1 := hf0.trans hb1
      have a0 := hb1.keep (p := ⟨w.heap.size, 0, none⟩) (v := .int .u8 K) (by simp)
      have a1 := hb1.keep (p := ⟨w.heap.size, 1, none⟩) (v := .int .u16 V) (by simp)
      go_wp2_with fail
      refine (H2.out _ hf1).mono ?_
      rintro e w2 ⟨rfl, hb2⟩
      have hf2 := hf1.trans hb2
      have b0 := hb2.keep a0
      have b1 := hb2.keep a1
      clear a0 a1 hb1 hb2
      go_wp2_with fail
      refine (H3.out _).mono ?_
      rintro e w3 ⟨rfl, hb3⟩
      have hf3 := hf2.trans hb3
      clear b0 b1 hb3 hf0 hf1 hf2 H1 H2 H3
      go_wp2_with fail
      refine (Over_c s _ (by omega)).mono ?_
      rintro e wB ⟨p, rfl, hrd, hbB, hpB⟩
      have hfB := hf3.trans hbB
      go_wp2_with fail
      refine (resTake_c p 0 0 s _ hrd).mono ?_
      obtain ⟨⟨⟨K2, V2, e2⟩, e3, at_⟩, hTR⟩ : ∃ T, takeRes 0 s 0 = T := ⟨_, rfl⟩
      have htb : e2 = 0 → goodB K2 V2 = true ∧ V2 < 65536 ∧ K2 < 256 ∧ resBytes K2 V2 = s.take at_ ∧ at_ ≤ s.length := fun h => takeRes_back (by rw [hTR, h])
      rw [hTR]
      rintro e wC ⟨rfl, hrdC, hchC⟩
      simp only at hrdC hchC
      have hfC : Fr w wC := Chp.fr hfB hchC (Nat.le_trans hf3.size hpB)
      have hzC := hrdC.lt
      simp only
      clear hbB hchC hrd hTR
      by_cases he2 : e2 = 0
      · subst he2
        obtain ⟨hg2, hV2, hK2, hrb, hat⟩ := htb rfl
        have hpt := fun W => resPut_c K2 V2 W hK2 hV2
        unfold putRes at hpt
        rw [if_pos hg2, hrb] at hpt
        have HPT := Lib.hid hpt
        have hx : ((⟨s.toArray⟩ : ByteArray).extract 0 at_) = ⟨(s.take at_).toArray⟩ := by
          apply ByteArray.ext
          simp
        have hxl : (at_ : Int) ≤ s.length := by omega
        clear hg2 hK2 hrb hpt htb
        go_wp2_with fail
        refine (HPT.out _).mono ?_
        rintro e wD ⟨rfl, hbD⟩
        have hfD := (hfC.alloc (.cells #[.int .u8 K2, .int .u16 V2] 24)).trans hbD
        have hrdD := (hrdC.keep ((Fr.refl wC).alloc (.cells #[.int .u8 K2, .int .u16 V2] 24))).keep hbD
        clear hbD hfC hrdC hzC
        go_wp2_with fail
        refine (At_c p e3 at_ s _ hrdD).mono ?_
        rintro e wE ⟨rfl, rfl⟩
        go_wp2_with fail
        refine (HPA.out _ hfD).mono ?_
        rintro e wF ⟨rfl, hbF⟩
        have hfF := hfD.trans hbF
        clear hbF hfD hrdD
        by_cases h4 : e4 = 0
        · subst h4
          have HTx := Lib.hid (HTY.out rfl)
          go_wp2_with fail
          refine (HTx.out _ (hfF.alloc _)).mono ?_
          rintro e wG ⟨rfl, hbG⟩
          have hfG := (hfF.alloc (.cells #[.int .u8 K4, .int .u16 V4] 24)).trans hbG
          go_wp2_with fail
          refine (HAW.out _ hfG).mono ?_
          rintro e wH ⟨rfl, hbH⟩
          go_wp2_with fail
          go_ret
          exact ⟨rfl, hfG.trans hbH⟩
        · have h4i : ((e4 : Int) != 0) = true := by simp; omega
          go_wp2_with fail
          refine (HAW.out _ (hfF.alloc _)).mono ?_
          rintro e wH ⟨rfl, hbH⟩
          go_wp2_with fail
          go_ret
          exact ⟨rfl, Fr.trans (hfF.alloc (.cells #[.int .u8 K4, .int .u16 V4] 24)) hbH⟩
      · have h2i : ((e2 : Int) == 0) = false := by simp; omega
        clear htb he2
        go_wp2_with fail
        refine (HPA.out _ (hfC.alloc _)).mono ?_
        rintro e wF ⟨rfl, hbF⟩
        have hfF := (hfC.alloc (.cells #[.int .u8 K2, .int .u16 V2] 24)).trans hbF
        clear hbF hfC hrdC hzC
        by_cases h4 : e4 = 0
        · subst h4
          have HTx := Lib.hid (HTY.out rfl)
          go_wp2_with fail
          refine (HTx.out _ (hfF.alloc _)).mono ?_
          rintro e wG ⟨rfl, hbG⟩
          have hfG := (hfF.alloc (.cells #[.int .u8 K4, .int .u16 V4] 24)).trans hbG
          go_wp2_with fail
          refine (HAW.out _ hfG).mono ?_
          rintro e wH ⟨rfl, hbH⟩
          go_wp2_with fail
          go_ret
          exact ⟨rfl, hfG.trans hbH⟩
        · have h4i : ((e4 : Int) != 0) = true := by simp; omega
          go_wp2_with fail
          refine (HAW.out _ (hfF.alloc _)).mono ?_
          rintro e wH ⟨rfl, hbH⟩
          go_wp2_with fail
          go_ret
          exact ⟨rfl, Fr.trans (hfF.alloc (.cells #[.int .u8 K4, .int .u16 V4] 24)) hbH⟩
    · obtain ⟨B, hB⟩ : ∃ B, B = resBytes K V := ⟨_, rfl⟩
      obtain ⟨X, hX⟩ : ∃ X, X = resText K V := ⟨_, rfl⟩
      have hty := fun W (f : Fr w W) => text_yes K V X W (hE.keep f) hV (by rw [hX]; unfold resText; have h1 := decDigits_len5 hV; have h2 : (resWord K).length ≤ 5 := by { unfold resWord; (repeat' split) <;> decide }; rw [List.length_append]; split <;> simp <;> omega) (by rw [hX]; unfold textRes; rw [if_pos hg]) (by rw [hX]; exact (parseRes_iff _ K V).2 ⟨hg, hV, rfl⟩)
      have htk := takeRes_put hg hV s
      have hBl : B.length ≤ 3 := by rw [hB, resBytes_len]; split <;> omega
      unfold putRes at hput
      unfold textRes at htxt
      unfold checkRes at hchk
      rw [hg] at hput htxt hchk
      rw [if_pos rfl, ← hB] at hput
      rw [if_pos rfl, ← hX] at htxt
      rw [← hB] at htk
      have htke := fun p W (h : RdAt W p 0 (B ++ s) 0) => resTake_c p 0 0 (B ++ s) W h
      rw [htk] at htke
      have he := fun W => resD_neq K V K V W
      rw [decide_eq_true ⟨rfl, rfl⟩] at he
      have hcat : (⟨B.toArray⟩ : ByteArray) ++ ⟨s.toArray⟩ = ⟨(B ++ s).toArray⟩ := mk_append B s
      have hbl2 : (⟨B.toArray⟩ : ByteArray).size = B.length := size_mk B
      have H1 := Lib.hid hput
      have H2 := Lib.hid htxt
      have H3 := Lib.hid hchk
      have H4 := Lib.hid hty
      have H5 := Lib.hid htke
      clear hput htxt hchk hg hE hty htke htk hB hX
      go_enter Tryd.func6, Tryd.ntmps6
      have hf0 : Fr w (w.alloc (.cells #[.int .u8 K, .int .u16 V] 24)) := (Fr.refl w).alloc _
      go_wp2_with fail
      refine (H1.out _).mono ?_
      rintro e w1 ⟨rfl, hb1⟩
      have hf1 := hf0.trans hb1
      have a0 := hb1.keep (p := ⟨w.heap.size, 0, none⟩) (v := .int .u8 K) (by simp)
      have a1 := hb1.keep (p := ⟨w.heap.size, 1, none⟩) (v := .int .u16 V) (by simp)
      go_wp2_with fail
      refine (H2.out _ hf1).mono ?_
      rintro e w2 ⟨rfl, hb2⟩
      have hf2 := hf1.trans hb2
      have b0 := hb2.keep a0
      have b1 := hb2.keep a1
      clear a0 a1 hb1 hb2
      go_wp2_with fail
      refine (H3.out _).mono ?_
      rintro e w3 ⟨rfl, hb3⟩
      have hf3 := hf2.trans hb3
      have c0 := hb3.keep b0
      have c1 := hb3.keep b1
      clear b0 b1 hb3 hf0 hf1 hf2 H1 H2 H3
      go_wp2_with fail
      refine (Over_c (B ++ s) _ (by simp; omega)).mono ?_
      rintro e w4 ⟨q, rfl, hrd, hb4, hq⟩
      have hf4 := hf3.trans hb4
      have d0 := hb4.keep c0
      have d1 := hb4.keep c1
      have hzd := lt_of_cell c0
      simp only at hzd
      clear c0 c1 hb4
      go_wp2_with fail
      refine (H5.out q _ hrd).mono ?_
      rintro e w5 ⟨rfl, hrd5, hch5⟩
      have hf5 : Fr w w5 := Chp.fr hf4 hch5 (Nat.le_trans hf3.size hq)
      simp only at hrd5 hch5 ⊢
      have e0 := (hch5.cell (lt_of_cell d0) (by simp only; omega)).trans d0
      have e1 := (hch5.cell (lt_of_cell d1) (by simp only; omega)).trans d1
      have hze := lt_of_cell e0
      have hzq := hrd5.lt
      have g0 := cell_al (.cells #[.int .u8 K, .int .u16 V] 24) e0
      have g1 := cell_al (.cells #[.int .u8 K, .int .u16 V] 24) e1
      simp only at hze
      clear d0 d1 hch5 hrd
      have hrd6 := hrd5.keep ((Fr.refl w5).alloc (.cells #[.int .u8 K, .int .u16 V] 24))
      have hll : ((B ++ s).length : Int) - (B.length : Int) = s.length := by simp; omega
      have HL := Lib.hid (Left_c q 0 B.length (B ++ s) _ hrd6)
      rw [hll] at HL
      clear hll hrd6
      go_wp2_with fail
      refine HL.out.mono ?_
      rintro e w6 ⟨rfl, hb6⟩
      have hf6 := (hf5.alloc (.cells #[.int .u8 K, .int .u16 V] 24)).trans hb6
      have i0 := hb6.keep g0
      have i1 := hb6.keep g1
      have hzi := lt_of_cell i0
      simp only at hzi
      clear g0 g1 e0 e1 hb6 hf5 HL hrd5
      go_wp2_with fail
      refine (H4.out _ hf6).mono ?_
      rintro e w7 ⟨rfl, hb7⟩
      have hf7 := hf6.trans hb7
      clear i0 i1 hb7 hf6 hf3 hf4 H4 H5 hcat hq he
      go_wp2_with fail
      refine (Over_c s _ (by omega)).mono ?_
      rintro e wB ⟨p, rfl, hrd, hbB, hpB⟩
      have hfB := hf7.trans hbB
      go_wp2_with fail
      refine (resTake_c p 0 0 s _ hrd).mono ?_
      obtain ⟨⟨⟨K2, V2, e2⟩, e3, at_⟩, hTR⟩ : ∃ T, takeRes 0 s 0 = T := ⟨_, rfl⟩
      have htb : e2 = 0 → goodB K2 V2 = true ∧ V2 < 65536 ∧ K2 < 256 ∧ resBytes K2 V2 = s.take at_ ∧ at_ ≤ s.length := fun h => takeRes_back (by rw [hTR, h])
      rw [hTR]
      rintro e wC ⟨rfl, hrdC, hchC⟩
      simp only at hrdC hchC
      have hfC : Fr w wC := Chp.fr hfB hchC (Nat.le_trans hf7.size hpB)
      have hzC := hrdC.lt
      simp only
      clear hbB hchC hrd hTR
      by_cases he2 : e2 = 0
      · subst he2
        obtain ⟨hg2, hV2, hK2, hrb, hat⟩ := htb rfl
        have hpt := fun W => resPut_c K2 V2 W hK2 hV2
        unfold putRes at hpt
        rw [if_pos hg2, hrb] at hpt
        have HPT := Lib.hid hpt
        have hx : ((⟨s.toArray⟩ : ByteArray).extract 0 at_) = ⟨(s.take at_).toArray⟩ := by
          apply ByteArray.ext
          simp
        have hxl : (at_ : Int) ≤ s.length := by omega
        clear hg2 hK2 hrb hpt htb
        go_wp2_with fail
        refine (HPT.out _).mono ?_
        rintro e wD ⟨rfl, hbD⟩
        have hfD := (hfC.alloc (.cells #[.int .u8 K2, .int .u16 V2] 24)).trans hbD
        have hrdD := (hrdC.keep ((Fr.refl wC).alloc (.cells #[.int .u8 K2, .int .u16 V2] 24))).keep hbD
        clear hbD hfC hrdC hzC
        go_wp2_with fail
        refine (At_c p e3 at_ s _ hrdD).mono ?_
        rintro e wE ⟨rfl, rfl⟩
        go_wp2_with fail
        refine (HPA.out _ hfD).mono ?_
        rintro e wF ⟨rfl, hbF⟩
        have hfF := hfD.trans hbF
        clear hbF hfD hrdD
        by_cases h4 : e4 = 0
        · subst h4
          have HTx := Lib.hid (HTY.out rfl)
          go_wp2_with fail
          refine (HTx.out _ (hfF.alloc _)).mono ?_
          rintro e wG ⟨rfl, hbG⟩
          have hfG := (hfF.alloc (.cells #[.int .u8 K4, .int .u16 V4] 24)).trans hbG
          go_wp2_with fail
          refine (HAW.out _ hfG).mono ?_
          rintro e wH ⟨rfl, hbH⟩
          go_wp2_with fail
          go_ret
          exact ⟨rfl, hfG.trans hbH⟩
        · have h4i : ((e4 : Int) != 0) = true := by simp; omega
          go_wp2_with fail
          refine (HAW.out _ (hfF.alloc _)).mono ?_
          rintro e wH ⟨rfl, hbH⟩
          go_wp2_with fail
          go_ret
          exact ⟨rfl, Fr.trans (hfF.alloc (.cells #[.int .u8 K4, .int .u16 V4] 24)) hbH⟩
      · have h2i : ((e2 : Int) == 0) = false := by simp; omega
        clear htb he2
        go_wp2_with fail
        refine (HPA.out _ (hfC.alloc _)).mono ?_
        rintro e wF ⟨rfl, hbF⟩
        have hfF := (hfC.alloc (.cells #[.int .u8 K2, .int .u16 V2] 24)).trans hbF
        clear hbF hfC hrdC hzC
        by_cases h4 : e4 = 0
        · subst h4
          have HTx := Lib.hid (HTY.out rfl)
          go_wp2_with fail
          refine (HTx.out _ (hfF.alloc _)).mono ?_
          rintro e wG ⟨rfl, hbG⟩
          have hfG := (hfF.alloc (.cells #[.int .u8 K4, .int .u16 V4] 24)).trans hbG
          go_wp2_with fail
          refine (HAW.out _ hfG).mono ?_
          rintro e wH ⟨rfl, hbH⟩
          go_wp2_with fail
          go_ret
          exact ⟨rfl, hfG.trans hbH⟩
        · have h4i : ((e4 : Int) != 0) = true := by simp; omega
          go_wp2_with fail
          refine (HAW.out _ (hfF.alloc _)).mono ?_
          rintro e wH ⟨rfl, hbH⟩
          go_wp2_with fail
          go_ret
          exact ⟨rfl, Fr.trans (hfF.alloc (.cells #[.int .u8 K4, .int .u16 V4] 24)) hbH⟩
end Go.Proofs.YthaocbmkkgeomaaDoor

/- umpirelaw03.ResultKinds: the law's walk. No condition but what the tables hold and the numbers' bounds. -/
namespace Go.Proofs.YthaocbmkkgeomaaDoor
open Go.RowKit Go.Shelf

attribute [local go_sem] Oper.semAt_some
theorem RdK.own {W W' : World} {v : Value} {l : List Nat} {row : Option Nat} (h : RdK W v l) (hg : W.grownBy W' row) (hr : ∀ r, row = some r → ∃ o : Obj, W.heap[r]? = some o ∧ o.isCells = false) : RdK W' v l := by
  obtain ⟨a, cap, rfl, h1, h2, h3⟩ := h
  refine ⟨a, cap, rfl, h1, h2, ?_⟩
  rcases h3 with h3 | ⟨b, off, rfl, hz, hlt, hc⟩
  · exact .inl h3
  · exact .inr ⟨b, off, rfl, hz, Nat.lt_of_lt_of_le hlt hg.size, fun j u hj => cell_kept (hc j u hj) hg hr⟩
/-- A list of small numbers in a block below 'B'. -/
def RdB (B : Nat) (W : World) (a : Option Addr) (l : List Nat) : Prop := u8Cells l = [] ∨ ∃ b o, a = some ⟨b, o, none⟩ ∧ b < B ∧ ∀ j u, (u8Cells l)[j]? = some u → W.cell? ⟨b, o + j, none⟩ = some u
theorem RdB.own {B : Nat} {W W' : World} {a : Option Addr} {l : List Nat} {row : Option Nat} (h : RdB B W a l) (hg : W.grownBy W' row) (hr : ∀ r, row = some r → ∃ o : Obj, W.heap[r]? = some o ∧ o.isCells = false) : RdB B W' a l := by
  rcases h with h | ⟨b, o, rfl, hb, hc⟩
  · exact .inl h
  · exact .inr ⟨b, o, rfl, hb, fun j u hj => cell_kept (hc j u hj) hg hr⟩
theorem RdB.set {B : Nat} {W : World} {a : Option Addr} {l : List Nat} (h : RdB B W a l) {c : Nat} (hB : B ≤ c) (p : Nat) (u : Value) : RdB B (W.setCell ⟨c, p, none⟩ u) a l := by
  rcases h with h | ⟨b, o, rfl, hb, hc⟩
  · exact .inl h
  · exact .inr ⟨b, o, rfl, hb, fun j v hj => (World.cell?_of_block (a := ⟨b, o + j, none⟩) (Below.heap_setCell W _ u b (fun e => by subst e; omega))).trans (hc j v hj)⟩
theorem prefix_next {l pre : List Nat} {x : Nat} (h : pre <+: l) : pre ++ [x] <+: l ↔ l[pre.length]? = some x := by
  obtain ⟨t, rfl⟩ := h
  rw [List.getElem?_append_right (Nat.le_refl _)]
  simp only [Nat.sub_self]
  constructor
  · rintro ⟨r, hr⟩
    rw [List.append_assoc] at hr
    have := List.append_cancel_left hr
    rw [← this]
    rfl
  · intro h
    cases t with
    | nil => simp at h
    | cons y t =>
      simp at h
      subst h
      exact ⟨t, by simp⟩
theorem Cel.box {W : World} {b : Nat} {c : Array Value} {t : TypeId} (h : BoxAt W b c t) (j : Nat) {v : Value} (hv : c[j]? = some v) : Cel W b j v := ⟨h.at j hv, h.free j⟩
set_option maxRecDepth 100000 in
set_option maxHeartbeats 4000000 in
theorem resKinds_c (f K V : Nat) (w : World) (hE : EnvR w) (hK : K < 256) (hV : V < 65536) :
    Calls Tryd.prog 3 #[.int .u8 f, .agg #[.int .u8 K, .int .u16 V]] w fun e w' => e = .returned (.bool true) ∧ Fr w w' := by
  have HAW := Lib.hid (fun W (f : Fr w W) => awake3_c W (hE.keep f))
  have H1 := Lib.hid (fun W => rKinds_c f W)
  have H2 := Lib.hid (fun W => kinds_c f W)
  obtain ⟨m, hm⟩ : ∃ m, mayRes f K V = m := ⟨_, rfl⟩
  have H3 := fun W => resMay_c f K V W
  have H4 := fun W => rMay3_c f K V W
  rw [hm] at H3 H4
  have H3 := Lib.hid H3
  have H4 := Lib.hid H4
  have HS := Lib.hid (fun (Bn : Nat) (W : World) => kinds_stops f 8 Bn w.heap.size W (by omega))
  clear hm hE
  refine calls_of_marks Tryd.func3 rfl ?_
  simp only [Tryd.ntmps3, List.size_toArray, List.length_cons, List.length_nil, Nat.reduceAdd, Nat.reduceSub, Array.replicate_succ, Array.replicate_zero, List.push_toArray, List.append_toArray, List.nil_append, List.cons_append]
  go_wp2_with fail
  refine (H1.out _).mono ?_
  rintro e w1 ⟨v, rfl, ⟨a, cap, rfl, hca, hma, hxa⟩, hb1⟩
  have hf1 : Fr w w1 := (((Fr.refl w).alloc _).alloc _).trans hb1
  have a0 : Cel w1 w.heap.size 0 (.int .u8 K) := Cel.fr ⟨by simp, by simp⟩ hb1
  have a1 : Cel w1 w.heap.size 1 (.int .u16 V) := Cel.fr ⟨by simp, by simp⟩ hb1
  have a2 : Cel w1 (w.heap.size + 1) 0 (.bool false) := Cel.fr ⟨by simp, by simp⟩ hb1
  have hz1 := hb1.size2
  have hxB : RdB w1.heap.size w1 a (kindsOf f) := hxa.imp id (fun ⟨b, o, h1, _, h2, h3⟩ => ⟨b, o, h1, h2, h3⟩)
  unfold maxLen at hma
  clear hb1 hxa
  go_wp2_with fail
  refine (H2.out _).mono ?_
  rintro e w2 ⟨rfl, rfl⟩
  have hnil := fun W => run_eql_fnil Tryd.underlying28 (.func 51) #[] #[.pointer (some ⟨w1.heap.size + 1, 0, none⟩)] W
  go_wp2_with fail
  have hSo := HS.out (w1.heap.size + 1) (((w1.alloc (.cells #[.slice a (kindsOf f).length cap] 25)).alloc (.cells #[.int .u8 f] 5)).alloc (.cells #[.int .i64 0] 3)) (by simp) (by simp; omega) (((BoxAt.new' _ _ _ (w1.heap.size + 1) (by simp)).alloc _).at 0 rfl)
  have hl2 : (kindsOf f).length ≤ 2 := by unfold kindsOf; (repeat' split) <;> decide
  generalize kindsOf f = l at hSo hca hxB hl2 ⊢
  have hf3 : Fr w (((w1.alloc (.cells #[.slice a l.length cap] 25)).alloc (.cells #[.int .u8 f] 5)).alloc (.cells #[.int .i64 0] 3)) := ((hf1.alloc _).alloc _).alloc _
  have b0 := ((a0.al (.cells #[.slice a l.length cap] 25)).al (.cells #[.int .u8 f] 5)).al (.cells #[.int .i64 0] 3)
  have b1 := ((a1.al (.cells #[.slice a l.length cap] 25)).al (.cells #[.int .u8 f] 5)).al (.cells #[.int .i64 0] 3)
  have b2 := ((a2.al (.cells #[.slice a l.length cap] 25)).al (.cells #[.int .u8 f] 5)).al (.cells #[.int .i64 0] 3)
  have b3 : Cel (((w1.alloc (.cells #[.slice a l.length cap] 25)).alloc (.cells #[.int .u8 f] 5)).alloc (.cells #[.int .i64 0] 3)) w1.heap.size 0 (.slice a l.length cap) := Cel.box (((BoxAt.new _ _ _).alloc _).alloc _) 0 rfl
  have b5 : Cel (((w1.alloc (.cells #[.slice a l.length cap] 25)).alloc (.cells #[.int .u8 f] 5)).alloc (.cells #[.int .i64 0] 3)) (w1.heap.size + 1) 0 (.int .u8 f) := Cel.box ((BoxAt.new' _ _ _ (w1.heap.size + 1) (by simp)).alloc _) 0 rfl
  have b4 : Cel (((w1.alloc (.cells #[.slice a l.length cap] 25)).alloc (.cells #[.int .u8 f] 5)).alloc (.cells #[.int .i64 0] 3)) (w1.heap.size + 1 + 1) 0 (.int .i64 (0 : Nat)) := Cel.box (BoxAt.new' _ _ _ (w1.heap.size + 1 + 1) (by simp)) 0 rfl
  have hxB3 : RdB w1.heap.size (((w1.alloc (.cells #[.slice a l.length cap] 25)).alloc (.cells #[.int .u8 f] 5)).alloc (.cells #[.int .i64 0] 3)) a l := hxB.imp id (fun ⟨b, o, h1, h2, h3⟩ => ⟨b, o, h1, h2, fun j u hj => cell_al _ (cell_al _ (cell_al _ (h3 j u hj)))⟩)
  have hZ : (((w1.alloc (.cells #[.slice a l.length cap] 25)).alloc (.cells #[.int .u8 f] 5)).alloc (.cells #[.int .i64 0] 3)).heap.size = w1.heap.size + 3 := by simp
  generalize (((w1.alloc (.cells #[.slice a l.length cap] 25)).alloc (.cells #[.int .u8 f] 5)).alloc (.cells #[.int .i64 0] 3)) = w3 at hSo hf3 b0 b1 b2 b3 b4 b5 hxB3 hZ ⊢
  clear a0 a1 a2 hxB hf1
  refine wp_rangeFunc (α := Nat) (encs := fun x : Nat => #[Value.int .u8 x]) (gf := 51) (lb := #[.pointer (some ⟨w1.heap.size + 1, 0, none⟩)]) (n₀ := w.heap.size) rfl (enters_of Tryd.func51 (by kernel_rfl) rfl)
    hSo (by omega) (fun _ => rfl)
    (fun pre W => (pre <+: l ∧ Cel W w.heap.size 0 (.int .u8 K) ∧ Cel W w.heap.size 1 (.int .u16 V) ∧ Cel W (w.heap.size + 1) 0 (.bool false) ∧ Cel W w1.heap.size 0 (.slice a l.length cap) ∧ Cel W (w1.heap.size + 1) 0 (.int .u8 f) ∧ Cel W (w1.heap.size + 1 + 1) 0 (.int .i64 (pre.length : Nat)) ∧ RdB w1.heap.size W a l) ∧ Below w.heap.size w W)
    (fun c pre W => ¬ pre <+: l)
    (OwnFrom.and (Own.from (fun s A B row ⟨h1, h2, h3, h4, h5, h6, h7, h8⟩ hg hr => ⟨h1, h2.own hg hr, h3.own hg hr, h4.own hg hr, h5.own hg hr, h6.own hg hr, h7.own hg hr, h8.own hg hr⟩) _) (ownFrom_below (Nat.le_refl _) (by omega)))
    (fun c => ownFrom_pure)
    ⟨⟨List.nil_prefix, b0, b1, b2, b3, b5, b4, hxB3⟩, hf3⟩
    (fun x => { tmps := (#[.int .u8 f, .agg #[.int .u8 K, .int .u16 V], undef, .pointer (some ⟨w.heap.size, 0, none⟩), .pointer (some ⟨w.heap.size + 1, 0, none⟩), .pointer (some ⟨w1.heap.size, 0, none⟩), .func (.func 51) #[] #[.pointer (some ⟨w1.heap.size + 1, 0, none⟩)], .pointer (some ⟨w1.heap.size + 1 + 1, 0, none⟩), .int .u8 x, .int .u8 f, .slice a l.length cap, .int .u8 f, .func (.func 51) #[] #[.pointer (some ⟨w1.heap.size + 1, 0, none⟩)], .func (.func 51) #[] #[.pointer (some ⟨w1.heap.size + 1, 0, none⟩)], .bool false, .func (.func 51) #[] #[.pointer (some ⟨w1.heap.size + 1, 0, none⟩)], .int .u8 x, undef, undef, undef, undef, undef, undef, undef, undef, undef, undef, undef, undef, undef, undef, undef, undef, undef, undef, undef, undef, undef, undef, undef, undef, undef, undef, undef, undef, undef, undef, undef, undef] : Array Value), defers := [] }) ?assign ?body ?done ?stop
  case assign =>
    intro l x W KK hK
    gi_wp2
    exact hK
  case body =>
    rintro l1 pre x W ⟨⟨hp, h0, h1, h2, h3, h5, h4, hR⟩, hB⟩ hlen
    obtain ⟨y, hy⟩ : ∃ y, l[pre.length]? = some y := ⟨l[pre.length], List.getElem?_eq_getElem hlen⟩
    have HPN := Lib.hid (prefix_next (x := x) hp)
    have HPR := Lib.hid hp
    obtain ⟨n, hn⟩ : ∃ n, n = pre.length := ⟨_, rfl⟩
    have hpl : (pre ++ [x]).length = n + 1 := by simp [hn]
    rw [← hn] at h4 hy hlen HPN
    rcases hR with hR | ⟨b, o, rfl, hb, hc⟩
    · exfalso
      have := congrArg List.length hR
      simp [u8Cells] at this
      subst this
      simp at hlen
    · have hcy := hc n (.int .u8 y) (by simp [u8Cells, hy])
      have hR2 : Hid (RdB w1.heap.size W (some ⟨b, o, none⟩) l) := .inr ⟨b, o, rfl, hb, hc⟩
      have hlt := hlen
      have hlti : ¬ (l.length : Int) ≤ n := by omega
      have hnc : n < cap := by omega
      have hni : (n : Int) < cap := by omega
      have c3 := h3.1
      have c4 := h4.1
      have f4 := h4.2
      have c2 := h2.1
      have f2 := h2.2
      have z1 := lt_of_cell c2
      have z3 := lt_of_cell c3
      have z4 := lt_of_cell c4
      have z5 := lt_of_cell hcy
      simp only at z1 z3 z4 z5
      have H0 := Lib.hid h0
      have H1' := Lib.hid h1
      have H2' := Lib.hid h2
      have H3' := Lib.hid h3
      have H4' := Lib.hid h4
      have H5' := Lib.hid h5
      have HBB := Lib.hid hB
      clear hc hp hn h0 h1 h2 h3 h4 h5 hB
      by_cases hx : y = x
      · subst hx
        have hpx := Lib.hid (HPN.out.2 hy)
        clear hy HPN HPR
        gi_wp2
        refine ⟨KeepsOthers.setCell _ _ _, (Below.refl w.heap.size W).setCell (p := ⟨w1.heap.size + 1 + 1, 0, none⟩) (by simp; omega) _, ⟨hpx.out, H0.out.setOther (by omega) _, H1'.out.setOther (by omega) _, H2'.out.setOther (by omega) _, H3'.out.setOther (by omega) _, H5'.out.setOther (by omega) _, ?_, hR2.out.set (by omega) _ _⟩, HBB.out.setCell (p := ⟨w1.heap.size + 1 + 1, 0, none⟩) (by simp; omega) _⟩
        rw [hpl]
        have := H4'.out.set (.int .i64 ((n + 1 : Nat) : Int))
        simpa using this
      · have hq : ((y : Int) == x) = false := by simp; omega
        have hpx := Lib.hid (show ¬ (pre ++ [x] <+: l) from fun h => by have := HPN.out.1 h; rw [hy] at this; exact hx (Option.some.inj this))
        clear hy HPN HPR hx
        gi_wp2
        exact ⟨KeepsOthers.setCell _ _ _, hpx.out⟩
  case stop =>
    rintro D c pre W hD hpre hnot hK
    exact absurd hpre (by assumption)
  case done =>
    rintro D ys W hD rfl ⟨⟨_, h0, h1, h2, h3, h5, h4, hR⟩, hB⟩ hK
    go_wp2_with fail
    have z5 := lt_of_cell h5.1
    have zD := (Array.getElem?_eq_some_iff.1 hK).1
    have hSo2 := HS.out (w1.heap.size + 1) W z5 hB.size h5.1
    refine wp_rangeFunc (α := Nat) (encs := fun x : Nat => #[Value.int .u8 x]) (gf := 51) (lb := #[.pointer (some ⟨w1.heap.size + 1, 0, none⟩)]) (n₀ := w.heap.size) rfl (enters_of Tryd.func51 (by kernel_rfl) rfl)
      hSo2 hB.size (fun _ => rfl)
      (fun pre W => (Cel W w.heap.size 0 (.int .u8 K) ∧ Cel W w.heap.size 1 (.int .u16 V) ∧ Cel W (w.heap.size + 1) 0 (.bool false) ∧ Cel W w1.heap.size 0 (.slice a ys.length cap) ∧ Cel W (w1.heap.size + 1 + 1) 0 (.int .i64 (ys.length : Nat))) ∧ Below w.heap.size w W ∧ W.heap[D]? = some (.deferred (some [])))
      (fun c pre W => c = .exit 2 ∧ (Cel W w.heap.size 0 (.int .u8 K) ∧ Cel W w.heap.size 1 (.int .u16 V) ∧ Cel W (w.heap.size + 1) 0 (.bool false) ∧ Cel W w1.heap.size 0 (.slice a ys.length cap) ∧ Cel W (w1.heap.size + 1 + 1) 0 (.int .i64 (ys.length : Nat))) ∧ Below w.heap.size w W ∧ W.heap[D]? = some (.deferred (some [])))
      (OwnFrom.and (Own.from (fun s A B row ⟨h2, h3, h4, h5, h6⟩ hg hr => ⟨h2.own hg hr, h3.own hg hr, h4.own hg hr, h5.own hg hr, h6.own hg hr⟩) _) (OwnFrom.and (ownFrom_below (Nat.le_refl _) hB.size) (ownFrom_block zD)))
      (fun c => OwnFrom.and ownFrom_pure (OwnFrom.and (Own.from (fun s A B row ⟨h2, h3, h4, h5, h6⟩ hg hr => ⟨h2.own hg hr, h3.own hg hr, h4.own hg hr, h5.own hg hr, h6.own hg hr⟩) _) (OwnFrom.and (ownFrom_below (Nat.le_refl _) hB.size) (ownFrom_block zD))))
      ⟨⟨h0, h1, h2, h3, h4⟩, hB, hK⟩
      (fun x => { tmps := (#[.int .u8 f, .agg #[.int .u8 K, .int .u16 V], undef, .pointer (some ⟨w.heap.size, 0, none⟩), .pointer (some ⟨w.heap.size + 1, 0, none⟩), .pointer (some ⟨w1.heap.size, 0, none⟩), .func (.func 51) #[] #[.pointer (some ⟨w1.heap.size + 1, 0, none⟩)], .pointer (some ⟨w1.heap.size + 1 + 1, 0, none⟩), undef, .int .u8 f, .slice a ys.length cap, .int .u8 f, .func (.func 51) #[] #[.pointer (some ⟨w1.heap.size + 1, 0, none⟩)], .func (.func 51) #[] #[.pointer (some ⟨w1.heap.size + 1, 0, none⟩)], .bool false, .func (.func 51) #[] #[.pointer (some ⟨w1.heap.size + 1, 0, none⟩)], undef, undef, undef, undef, undef, undef, undef, undef, undef, undef, undef, undef, undef, undef, undef, .func (.func 51) #[] #[.pointer (some ⟨w1.heap.size + 1, 0, none⟩)], .int .u8 x, undef, undef, undef, undef, undef, undef, undef, undef, undef, undef, undef, undef, undef, undef, undef, undef] : Array Value), defers := [] }) ?assign2 ?body2 ?done2 ?stop2
    case assign2 =>
      intro l x W KK hK
      gi_wp2
      exact hK
    case body2 =>
      rintro l1 pre x W ⟨h, hB, hK⟩ hlen
      gi_wp2
      exact ⟨KeepsOthers.refl _, rfl, h, hB, hK⟩
    case done2 =>
      clear h0 h1 h2 h3 h4 hB
      rintro D2 ys2 W2 hD2 rfl ⟨⟨h0, h1, h2, h3, h4⟩, hB, hK1⟩ hK2
      have hDD : D < D2 := by omega
      have e0 := FrW.cell h0.1
      have e1 := FrW.cell h1.1
      have e3 := FrW.cell h3.1
      have e4 := FrW.cell h4.1
      have HB := Lib.hid hB
      have H2' := Lib.hid h2
      have HK1 := Lib.hid hK1
      have HK2 := Lib.hid hK2
      clear h0 h1 h2 h3 h4 hB hK1 hK2
      go_wp2_with fail
      refine wp_region_frt 16 (by kernel_rfl) (by kernel_rfl) ?_
      simp only [List.take_succ_cons, List.take_zero]
      repeat (go_big_quiet_step ((first | (go_at_call 14; exact frq (H3.out _)) | (go_at_call 15; exact frq (H4.out _)) | (go_at_call 16; exact frq (HAW.out _ (Fr.trans HB.out (FrW.fr _)))))))
      refine wpQuiet_nil ?_
      rintro w5 ⟨⟨_, hf5'⟩, rfl⟩
      simp only [List.drop_succ_cons, List.drop_zero]
      have h5 := H2'.out.fr hf5'
      have hB5 : Fr w w5 := Fr.trans HB.out hf5'
      have k1 := (hf5'.block (Array.getElem?_eq_some_iff.1 HK1.out).1).trans HK1.out
      have k2 := (hf5'.block (Array.getElem?_eq_some_iff.1 HK2.out).1).trans HK2.out
      have c5 := h5.1
      have f5 := h5.2
      have z5 := lt_of_cell c5
      simp only at z5
      clear e0 e1 e3 e4 hf5'
      go_wp2_with fail
      have m2 := (KeepsOthers.setCell w5 ⟨w.heap.size + 1, 0, none⟩ (.bool true)).same D2 _ k2 rfl
      have m1 := (KeepsOthers.setCell w5 ⟨w.heap.size + 1, 0, none⟩ (.bool true)).same D _ k1 rfl
      have m1' : ((w5.setCell ⟨w.heap.size + 1, 0, none⟩ (.bool true)).putObj D2 (.deferred none)).heap[D]? = some (.deferred (some [])) := (World.putObj_heap_other (show D ≠ D2 by omega)).trans m1
      refine ⟨by simp, .inl ⟨_, _, rfl, run_takeDeferred m2, ?_⟩⟩
      refine ⟨by simp, .inl ⟨_, _, rfl, run_takeDeferred m1', ?_⟩⟩
      have q1 := cell_kept (h5.set (.bool true)).1 (grownBy_putObj' _ D2 (.deferred none)) (fun r e => by cases e; exact ⟨_, m2, rfl⟩)
      have q2 := cell_kept q1 (grownBy_putObj' _ D (.deferred none)) (fun r e => by cases e; exact ⟨_, m1', rfl⟩)
      refine ⟨.bool true, ?_, rfl, ((Below.setCell hB5 (p := ⟨w.heap.size + 1, 0, none⟩) (by simp) _).trans (belowK_b (w := w) (Nat.le_refl _) _ D2 _ _ (by omega) m2 rfl rfl)).trans (belowK_b (w := w) (Nat.le_refl _) _ D _ _ (by omega) m1' rfl rfl)⟩
      simp [results, Tryd.results3, go_sem, q2]
    case stop2 =>
      clear h0 h1 h2 h3 h4 hB
      rintro D2 c pre W2 hD2 hpre ⟨rfl, ⟨h0, h1, h2, h3, h4⟩, hB, hK1⟩ hK2
      have hDD : D < D2 := by omega
      have e0 := FrW.cell h0.1
      have e1 := FrW.cell h1.1
      have e3 := FrW.cell h3.1
      have e4 := FrW.cell h4.1
      have HB := Lib.hid hB
      have H2' := Lib.hid h2
      have HK1 := Lib.hid hK1
      have HK2 := Lib.hid hK2
      clear h0 h1 h2 h3 h4 hB hK1 hK2
      go_wp2_with fail
      refine wp_region_frt 16 (by kernel_rfl) (by kernel_rfl) ?_
      simp only [List.take_succ_cons, List.take_zero]
      repeat (go_big_quiet_step ((first | (go_at_call 14; exact frq (H3.out _)) | (go_at_call 15; exact frq (H4.out _)) | (go_at_call 16; exact frq (HAW.out _ (Fr.trans HB.out (FrW.fr _)))))))
      refine wpQuiet_nil ?_
      rintro w5 ⟨⟨_, hf5'⟩, rfl⟩
      simp only [List.drop_succ_cons, List.drop_zero]
      have h5 := H2'.out.fr hf5'
      have hB5 : Fr w w5 := Fr.trans HB.out hf5'
      have k1 := (hf5'.block (Array.getElem?_eq_some_iff.1 HK1.out).1).trans HK1.out
      have k2 := (hf5'.block (Array.getElem?_eq_some_iff.1 HK2.out).1).trans HK2.out
      have c5 := h5.1
      have f5 := h5.2
      have z5 := lt_of_cell c5
      simp only at z5
      clear e0 e1 e3 e4 hf5'
      go_wp2_with fail
      have m2 := (KeepsOthers.setCell w5 ⟨w.heap.size + 1, 0, none⟩ (.bool true)).same D2 _ k2 rfl
      have m1 := (KeepsOthers.setCell w5 ⟨w.heap.size + 1, 0, none⟩ (.bool true)).same D _ k1 rfl
      have m1' : ((w5.setCell ⟨w.heap.size + 1, 0, none⟩ (.bool true)).putObj D2 (.deferred none)).heap[D]? = some (.deferred (some [])) := (World.putObj_heap_other (show D ≠ D2 by omega)).trans m1
      refine ⟨by simp, .inl ⟨_, _, rfl, run_takeDeferred m2, ?_⟩⟩
      refine ⟨by simp, .inl ⟨_, _, rfl, run_takeDeferred m1', ?_⟩⟩
      have q1 := cell_kept (h5.set (.bool true)).1 (grownBy_putObj' _ D2 (.deferred none)) (fun r e => by cases e; exact ⟨_, m2, rfl⟩)
      have q2 := cell_kept q1 (grownBy_putObj' _ D (.deferred none)) (fun r e => by cases e; exact ⟨_, m1', rfl⟩)
      refine ⟨.bool true, ?_, rfl, ((Below.setCell hB5 (p := ⟨w.heap.size + 1, 0, none⟩) (by simp) _).trans (belowK_b (w := w) (Nat.le_refl _) _ D2 _ _ (by omega) m2 rfl rfl)).trans (belowK_b (w := w) (Nat.le_refl _) _ D _ _ (by omega) m1' rfl rfl)⟩
      simp [results, Tryd.results3, go_sem, q2]
end Go.Proofs.YthaocbmkkgeomaaDoor

/- umpirelaw03.ResultKnown: the law's walk. No condition but what the tables hold. -/
namespace Go.Proofs.YthaocbmkkgeomaaDoor
open Go.RowKit

def badTexts : List (List UInt8) := [[], [118, 97, 108, 117, 101], [118, 97, 108, 117, 101, 32, 48, 55], [118, 97, 108, 117, 101, 32, 54, 53, 53, 51, 54], [118, 97, 108, 117, 101, 32], [121, 101, 115, 32], [118, 97, 108, 117, 101, 32, 55, 32], [118, 97, 108, 117, 101, 32, 32, 55], [100, 111, 110, 101, 32, 48], [32, 100, 111, 110, 101], [118, 97, 108, 117, 101, 32, 45, 49], [118, 97, 108, 117, 101, 32, 43, 55]]
theorem bad_no : ∀ s ∈ badTexts, parseRes s = (0, 0, 4) := by decide +kernel
theorem bad_len : ∀ s ∈ badTexts, s.length < 1000000 := by decide +kernel
theorem rawNil_c (w : World) : Calls Tryd.prog 92 #[.pointer none, .int .i64 1] w fun e w' => e = .returned (.string ⟨#[]⟩) ∧ w = w' := by
  go_enter Tryd.func92, Tryd.ntmps92
  go_wp2
  go_ret
  exact ⟨rfl, rfl⟩
set_option maxRecDepth 100000 in
theorem take8Nil_c (w : World) : Calls Tryd.prog 81 #[.pointer none, .int .i64 1] w fun e w' => e = .returned (.int .u8 0) ∧ Fr w w' := by
  have hcv := fun (W : World) => run_bytes_of_string (P := Tryd.prog) W 9 25 5 ⟨#[]⟩ Tryd.underlying9 Tryd.underlying25 Tryd.underlying5
  go_enter Tryd.func81, Tryd.ntmps81
  go_wp2_with fail
  refine (rawNil_c w).mono ?_
  rintro e w1 ⟨rfl, rfl⟩
  go_wp2
  have hfr : Fr w (w.alloc (Obj.cells (bytesRow ⟨#[]⟩ (grownCap w 0 0 5)) 5 ((bytesRow ⟨#[]⟩ (grownCap w 0 0 5)).size, (bytesRow ⟨#[]⟩ (grownCap w 0 0 5)).size + 1))).drew := ((Fr.refl _).alloc _).drew
  generalize (w.alloc (Obj.cells (bytesRow ⟨#[]⟩ (grownCap w 0 0 5)) 5 ((bytesRow ⟨#[]⟩ (grownCap w 0 0 5)).size, (bytesRow ⟨#[]⟩ (grownCap w 0 0 5)).size + 1))).drew = W2 at hfr ⊢
  generalize grownCap w 0 0 5 = cap
  go_loop [4, 12] (fun a i => i = .int .i64 0 ∧ a = .int .u8 0) (fun _ i => 0)
  case atStart => exact ⟨rfl, rfl⟩
  case round =>
    obtain ⟨rfl, rfl⟩ := hrel
    go_wp2
    go_ret
    exact ⟨rfl, hfr⟩
theorem u8Nil_c (w : World) : Calls Tryd.prog 56 #[.pointer none] w fun e w' => e = .returned (.int .u8 0) ∧ Fr w w' := by
  go_enter Tryd.func56, Tryd.ntmps56
  go_wp2_with fail
  refine (take8Nil_c w).mono ?_
  rintro e w1 ⟨rfl, hb⟩
  go_wp2
  go_ret
  exact ⟨rfl, hb⟩
theorem errNil_c (w : World) : Calls Tryd.prog 58 #[.pointer none] w fun e w' => e = .returned (.int .i64 1) ∧ w = w' := by
  go_enter Tryd.func58, Tryd.ntmps58
  go_wp2
  go_ret
  exact ⟨rfl, rfl⟩
set_option maxRecDepth 100000 in
theorem resTakeNil_c (w : World) : Calls Tryd.prog 22 #[.pointer none] w fun e w' => e = .returned (.tuple #[.agg #[.int .u8 0, .int .u16 0], .int .i64 1]) ∧ Fr w w' := by
  have hB0 := BoxAt.new w #[.int .u8 0, .int .u16 0] 24
  go_enter Tryd.func22, Tryd.ntmps22
  go_wp2_with fail
  refine (u8Nil_c _).mono ?_
  rintro e w1 ⟨rfl, hb⟩
  have hf1 := ((Fr.refl w).alloc (.cells #[.int .u8 0, .int .u16 0] 24)).trans hb
  have hB1 := hB0.fr hb
  go_wp2_with fail
  refine (errNil_c _).mono ?_
  rintro e w2 ⟨rfl, rfl⟩
  have hB2 := hB1.alloc (.cells #[.int .u8 0, .int .u16 0] 24)
  have hf2 := hf1.alloc (.cells #[.int .u8 0, .int .u16 0] 24)
  have hz := hB2.lt
  go_wp2_with ((with_reducible refine wpList_here (.store 24 (.tmp 2) (.tmp 23)) rfl ?_); refine wpList_store_old 24 (.tmp 2) (.tmp 23) rfl w.heap.size _ _ rfl rfl hB2 Tryd.infoRes rfl (by simp [Value.oneCell']) rfl rfl ?_; intro w3 hR)
  exact bodyPost_ret (v := .tuple #[.agg #[.int .u8 0, .int .u16 0], .int .i64 1]) (results_res_err rfl _ _ _ rfl rfl hR.box rfl) rfl ⟨rfl, hR.fr hf2 (Nat.le_refl _)⟩
set_option maxRecDepth 100000 in
set_option maxHeartbeats 4000000 in
theorem resKnown_c (w : World) (hE : EnvR w) : Calls Tryd.prog 4 #[] w fun e w' => e = .returned (.bool true) ∧ Fr w w' := by
  have HAW := Lib.hid (fun W (f : Fr w W) => awake3_c W (hE.keep f))
  have T0 := Lib.hid (fun W (f : Fr w W) => text_yes 0 0 [100, 111, 110, 101] W (hE.keep f) (by decide) (by decide) (by decide +kernel) (by decide +kernel))
  have T1 := Lib.hid (fun W (f : Fr w W) => text_yes 2 0 [110, 111, 110, 101] W (hE.keep f) (by decide) (by decide) (by decide +kernel) (by decide +kernel))
  have T2 := Lib.hid (fun W (f : Fr w W) => text_yes 4 0 [110, 111] W (hE.keep f) (by decide) (by decide) (by decide +kernel) (by decide +kernel))
  have T3 := Lib.hid (fun W (f : Fr w W) => text_yes 1 0 [118, 97, 108, 117, 101, 32, 48] W (hE.keep f) (by decide) (by decide) (by decide +kernel) (by decide +kernel))
  have T4 := Lib.hid (fun W (f : Fr w W) => text_yes 1 65535 [118, 97, 108, 117, 101, 32, 54, 53, 53, 51, 53] W (hE.keep f) (by decide) (by decide) (by decide +kernel) (by decide +kernel))
  have HNO := Lib.hid (fun (s : List UInt8) (hs : s ∈ badTexts) W (f : Fr w W) => none_yes s W (hE.keep f) (bad_len s hs) (bad_no s hs))
  have P1 := Lib.hid (fun W => show Calls Tryd.prog 20 #[.agg #[.int .u8 4, .int .u16 0]] W fun e w' => e = .returned (.tuple #[.string ⟨#[4]⟩, .int .i64 0]) ∧ Fr W w' by have := resPut_c 4 0 W (by decide) (by decide); rw [show putRes 4 0 = ([4], 0) by decide] at this; exact this)
  have P2 := Lib.hid (fun W => show Calls Tryd.prog 20 #[.agg #[.int .u8 0, .int .u16 1]] W fun e w' => e = .returned (.tuple #[.string ⟨#[]⟩, .int .i64 4]) ∧ Fr W w' by have := resPut_c 0 1 W (by decide) (by decide); rw [show putRes 0 1 = ([], 4) by decide] at this; exact this)
  have P3 := Lib.hid (fun W (f : Fr w W) => show Calls Tryd.prog 21 #[.agg #[.int .u8 5, .int .u16 0]] W fun e w' => e = .returned (.tuple #[.string ⟨#[]⟩, .int .i64 4]) ∧ Fr W w' by have := resText_c 5 0 W (hE.keep f) (by decide); rw [show textRes 5 0 = ([], 4) by decide] at this; exact this)
  have R1 := Lib.hid (fun p W (h : RdAt W p 0 [5] 0) => resTake_c p 0 0 [5] W h)
  have R2 := Lib.hid (fun p W (h : RdAt W p 0 [1, 0] 0) => resTake_c p 0 0 [1, 0] W h)
  rw [show takeRes 0 [5] 0 = ((0, 0, 4), (0, 1)) by decide] at R1
  rw [show takeRes 0 [1, 0] 0 = ((0, 0, 5), (5, 1)) by decide] at R2
  have M0 := Lib.hid (fun W => show Calls Tryd.prog 14 #[.int .u8 1, .agg #[.int .u8 1, .int .u16 5]] W (NumRet W 0) by have := resMay_c 1 1 5 W; rw [show mayRes 1 1 5 = 0 by decide] at this; exact this)
  have M1 := Lib.hid (fun W => show Calls Tryd.prog 14 #[.int .u8 99, .agg #[.int .u8 0, .int .u16 0]] W (NumRet W 10) by have := resMay_c 99 0 0 W; rw [show mayRes 99 0 0 = 10 by decide] at this; exact this)
  have M2 := Lib.hid (fun W => show Calls Tryd.prog 14 #[.int .u8 2, .agg #[.int .u8 0, .int .u16 1]] W (NumRet W 4) by have := resMay_c 2 0 1 W; rw [show mayRes 2 0 1 = 4 by decide] at this; exact this)
  have M3 := Lib.hid (fun W => show Calls Tryd.prog 14 #[.int .u8 10, .agg #[.int .u8 4, .int .u16 0]] W (NumRet W 0) by have := resMay_c 10 4 0 W; rw [show mayRes 10 4 0 = 0 by decide] at this; exact this)
  clear hE
  go_enter Tryd.func4, Tryd.ntmps4
  go_wp2_with fail
  refine (HAW.out _ (Fr.refl w)).mono ?_
  rintro e w0 ⟨rfl, hf0⟩
  go_wp2_with fail
  refine (of_c 0 0 _).mono ?_
  rintro e w1 ⟨rfl, hb⟩
  have hf1 := hf0.trans hb
  clear hb hf0
  go_wp2_with fail
  refine (T0.out _ hf1).mono ?_
  rintro e w2 ⟨rfl, hb⟩
  have hf2 := hf1.trans hb
  clear hb hf1
  go_wp2_with fail
  refine (of_c 2 0 _).mono ?_
  rintro e w3 ⟨rfl, hb⟩
  have hf3 := hf2.trans hb
  clear hb hf2
  go_wp2_with fail
  refine (T1.out _ hf3).mono ?_
  rintro e w4 ⟨rfl, hb⟩
  have hf4 := hf3.trans hb
  clear hb hf3
  go_wp2_with fail
  refine (of_c 4 0 _).mono ?_
  rintro e w5 ⟨rfl, hb⟩
  have hf5 := hf4.trans hb
  clear hb hf4
  go_wp2_with fail
  refine (T2.out _ hf5).mono ?_
  rintro e w6 ⟨rfl, hb⟩
  have hf6 := hf5.trans hb
  clear hb hf5
  go_wp2_with fail
  refine (of_c 1 0 _).mono ?_
  rintro e w7 ⟨rfl, hb⟩
  have hf7 := hf6.trans hb
  clear hb hf6
  go_wp2_with fail
  refine (T3.out _ hf7).mono ?_
  rintro e w8 ⟨rfl, hb⟩
  have hf8 := hf7.trans hb
  clear hb hf7
  go_wp2_with fail
  refine (of_c 1 65535 _).mono ?_
  rintro e w9 ⟨rfl, hb⟩
  have hf9 := hf8.trans hb
  clear hb hf8
  go_wp2_with fail
  refine (T4.out _ hf9).mono ?_
  rintro e w10 ⟨rfl, hb⟩
  have hf10 := hf9.trans hb
  clear hb hf9
  go_wp2_with fail
  have hB : BoxAt (w10.alloc (.cells #[Value.string ⟨#[]⟩, Value.string ⟨#[118, 97, 108, 117, 101]⟩, Value.string ⟨#[118, 97, 108, 117, 101, 32, 48, 55]⟩, Value.string ⟨#[118, 97, 108, 117, 101, 32, 54, 53, 53, 51, 54]⟩, Value.string ⟨#[118, 97, 108, 117, 101, 32]⟩, Value.string ⟨#[121, 101, 115, 32]⟩, Value.string ⟨#[118, 97, 108, 117, 101, 32, 55, 32]⟩, Value.string ⟨#[118, 97, 108, 117, 101, 32, 32, 55]⟩, Value.string ⟨#[100, 111, 110, 101, 32, 48]⟩, Value.string ⟨#[32, 100, 111, 110, 101]⟩, Value.string ⟨#[118, 97, 108, 117, 101, 32, 45, 49]⟩, Value.string ⟨#[118, 97, 108, 117, 101, 32, 43, 55]⟩] 9)) w10.heap.size #[Value.string ⟨#[]⟩, Value.string ⟨#[118, 97, 108, 117, 101]⟩, Value.string ⟨#[118, 97, 108, 117, 101, 32, 48, 55]⟩, Value.string ⟨#[118, 97, 108, 117, 101, 32, 54, 53, 53, 51, 54]⟩, Value.string ⟨#[118, 97, 108, 117, 101, 32]⟩, Value.string ⟨#[121, 101, 115, 32]⟩, Value.string ⟨#[118, 97, 108, 117, 101, 32, 55, 32]⟩, Value.string ⟨#[118, 97, 108, 117, 101, 32, 32, 55]⟩, Value.string ⟨#[100, 111, 110, 101, 32, 48]⟩, Value.string ⟨#[32, 100, 111, 110, 101]⟩, Value.string ⟨#[118, 97, 108, 117, 101, 32, 45, 49]⟩, Value.string ⟨#[118, 97, 108, 117, 101, 32, 43, 55]⟩] 9 := BoxAt.new _ _ _
  have hf10 : Fr w (w10.alloc (.cells #[Value.string ⟨#[]⟩, Value.string ⟨#[118, 97, 108, 117, 101]⟩, Value.string ⟨#[118, 97, 108, 117, 101, 32, 48, 55]⟩, Value.string ⟨#[118, 97, 108, 117, 101, 32, 54, 53, 53, 51, 54]⟩, Value.string ⟨#[118, 97, 108, 117, 101, 32]⟩, Value.string ⟨#[121, 101, 115, 32]⟩, Value.string ⟨#[118, 97, 108, 117, 101, 32, 55, 32]⟩, Value.string ⟨#[118, 97, 108, 117, 101, 32, 32, 55]⟩, Value.string ⟨#[100, 111, 110, 101, 32, 48]⟩, Value.string ⟨#[32, 100, 111, 110, 101]⟩, Value.string ⟨#[118, 97, 108, 117, 101, 32, 45, 49]⟩, Value.string ⟨#[118, 97, 108, 117, 101, 32, 43, 55]⟩] 9)) := hf10.alloc _
  have HC := Lib.hid (show ∀ (k : Nat) (s : List UInt8), badTexts[k]? = some s → (#[Value.string ⟨#[]⟩, Value.string ⟨#[118, 97, 108, 117, 101]⟩, Value.string ⟨#[118, 97, 108, 117, 101, 32, 48, 55]⟩, Value.string ⟨#[118, 97, 108, 117, 101, 32, 54, 53, 53, 51, 54]⟩, Value.string ⟨#[118, 97, 108, 117, 101, 32]⟩, Value.string ⟨#[121, 101, 115, 32]⟩, Value.string ⟨#[118, 97, 108, 117, 101, 32, 55, 32]⟩, Value.string ⟨#[118, 97, 108, 117, 101, 32, 32, 55]⟩, Value.string ⟨#[100, 111, 110, 101, 32, 48]⟩, Value.string ⟨#[32, 100, 111, 110, 101]⟩, Value.string ⟨#[118, 97, 108, 117, 101, 32, 45, 49]⟩, Value.string ⟨#[118, 97, 108, 117, 101, 32, 43, 55]⟩] : Array Value)[k]? = some (Value.string ⟨s.toArray⟩) by
    intro k s h
    have h1 : (#[Value.string ⟨#[]⟩, Value.string ⟨#[118, 97, 108, 117, 101]⟩, Value.string ⟨#[118, 97, 108, 117, 101, 32, 48, 55]⟩, Value.string ⟨#[118, 97, 108, 117, 101, 32, 54, 53, 53, 51, 54]⟩, Value.string ⟨#[118, 97, 108, 117, 101, 32]⟩, Value.string ⟨#[121, 101, 115, 32]⟩, Value.string ⟨#[118, 97, 108, 117, 101, 32, 55, 32]⟩, Value.string ⟨#[118, 97, 108, 117, 101, 32, 32, 55]⟩, Value.string ⟨#[100, 111, 110, 101, 32, 48]⟩, Value.string ⟨#[32, 100, 111, 110, 101]⟩, Value.string ⟨#[118, 97, 108, 117, 101, 32, 45, 49]⟩, Value.string ⟨#[118, 97, 108, 117, 101, 32, 43, 55]⟩] : Array Value) = (badTexts.map fun s => Value.string ⟨s.toArray⟩).toArray := rfl
    rw [h1]
    simp [h])
  generalize (#[Value.string ⟨#[]⟩, Value.string ⟨#[118, 97, 108, 117, 101]⟩, Value.string ⟨#[118, 97, 108, 117, 101, 32, 48, 55]⟩, Value.string ⟨#[118, 97, 108, 117, 101, 32, 54, 53, 53, 51, 54]⟩, Value.string ⟨#[118, 97, 108, 117, 101, 32]⟩, Value.string ⟨#[121, 101, 115, 32]⟩, Value.string ⟨#[118, 97, 108, 117, 101, 32, 55, 32]⟩, Value.string ⟨#[118, 97, 108, 117, 101, 32, 32, 55]⟩, Value.string ⟨#[100, 111, 110, 101, 32, 48]⟩, Value.string ⟨#[32, 100, 111, 110, 101]⟩, Value.string ⟨#[118, 97, 108, 117, 101, 32, 45, 49]⟩, Value.string ⟨#[118, 97, 108, 117, 101, 32, 43, 55]⟩] : Array Value) = cs at hB hf10 HC ⊢
  generalize (w10.alloc (.cells cs 9)) = w' at hB hf10 ⊢
  generalize w10.heap.size = bb at hB ⊢
  go_loopw [2] (fun i wr => ∃ k : Nat, k ≤ 12 ∧ i = .int .i64 k ∧ Fr w wr ∧ BoxAt wr bb cs 9) (fun i _ => 12 - (intOf i).toNat)
  case atStart => exact ⟨0, by omega, rfl, hf10, hB⟩
  case round =>
    clear hf10 hB
    obtain ⟨k, hk, rfl, hfr, hB⟩ := hrel
    by_cases hlt : k < 12
    · have hlti : (k : Int) < 12 := by omega
      obtain ⟨q, hq⟩ : ∃ q, badTexts[k]? = some q := ⟨badTexts[k]'(by exact hlt), List.getElem?_eq_getElem (by exact hlt)⟩
      have hcell := hB.at k (HC.out k q hq)
      have HQ := Lib.hid (HNO.out q (List.mem_of_getElem? hq))
      have hzz := hB.lt
      clear hq
      go_wp2_with fail
      refine (HQ.out _ hfr).mono ?_
      rintro e w2 ⟨rfl, hb⟩
      go_wp2_with fail
      go_roundw
      case rel => exact ⟨k + 1, by omega, by go_num, hfr.trans hb, hB.fr hb⟩
      case measure => simp [intOf]; omega
    · obtain rfl : k = 12 := by omega
      clear HC HNO
      go_wp2_with fail
      refine (of_c 4 0 _).mono ?_
      rintro e w11 ⟨rfl, hb⟩
      have hf11 := hfr.trans hb
      clear hb hfr
      go_wp2_with fail
      refine (P1.out _).mono ?_
      rintro e w12 ⟨rfl, hb⟩
      have hf12 := hf11.trans hb
      clear hb hf11
      go_wp2_with fail
      refine (of_c 0 1 _).mono ?_
      rintro e w13 ⟨rfl, hb⟩
      have hf13 := hf12.trans hb
      clear hb hf12
      go_wp2_with fail
      refine (P2.out _).mono ?_
      rintro e w14 ⟨rfl, hb⟩
      have hf14 := hf13.trans hb
      clear hb hf13
      go_wp2_with fail
      refine (of_c 5 0 _).mono ?_
      rintro e w15 ⟨rfl, hb⟩
      have hf15 := hf14.trans hb
      clear hb hf14
      go_wp2_with fail
      refine (P3.out _ hf15).mono ?_
      rintro e w16 ⟨rfl, hb⟩
      have hf16 := hf15.trans hb
      clear hb hf15
      go_wp2_with fail
      refine (resTakeNil_c _).mono ?_
      rintro e w17 ⟨rfl, hb⟩
      have hf17 := hf16.trans hb
      clear hb hf16
      go_wp2_with fail
      refine (Over_c [5] _ (by decide)).mono ?_
      rintro e w18 ⟨p, rfl, hrd, hb, hp⟩
      have hpw : w.heap.size ≤ p := Nat.le_trans (hf17.alloc _).size hp
      have hf18 := (hf17.alloc _).trans hb
      clear hb hf17 hp
      go_wp2_with fail
      refine (R1.out p _ hrd).mono ?_
      rintro e w19 ⟨rfl, _, hch⟩
      have hf19 : Fr w w19 := Chp.fr hf18 hch hpw
      simp only
      clear hch hf18 hrd hpw
      go_wp2_with fail
      refine (Over_c [1, 0] _ (by decide)).mono ?_
      rintro e w20 ⟨p, rfl, hrd, hb, hp⟩
      have hpw : w.heap.size ≤ p := Nat.le_trans (hf19.alloc _).size hp
      have hf20 := (hf19.alloc _).trans hb
      clear hb hf19 hp
      go_wp2_with fail
      refine (R2.out p _ hrd).mono ?_
      rintro e w21 ⟨rfl, _, hch⟩
      have hf21 : Fr w w21 := Chp.fr hf20 hch hpw
      simp only
      clear hch hf20 hrd hpw
      go_wp2_with fail
      refine (of_c 1 5 _).mono ?_
      rintro e w22 ⟨rfl, hb⟩
      have hf22 := (hf21.alloc _).trans hb
      clear hb hf21
      go_wp2_with fail
      refine (M0.out _).mono ?_
      rintro e w23 ⟨rfl, hb⟩
      have hf23 := hf22.trans hb
      clear hb hf22
      go_wp2_with fail
      refine (of_c 0 0 _).mono ?_
      rintro e w24 ⟨rfl, hb⟩
      have hf24 := hf23.trans hb
      clear hb hf23
      go_wp2_with fail
      refine (M1.out _).mono ?_
      rintro e w25 ⟨rfl, hb⟩
      have hf25 := hf24.trans hb
      clear hb hf24
      go_wp2_with fail
      refine (of_c 0 1 _).mono ?_
      rintro e w26 ⟨rfl, hb⟩
      have hf26 := hf25.trans hb
      clear hb hf25
      go_wp2_with fail
      refine (M2.out _).mono ?_
      rintro e w27 ⟨rfl, hb⟩
      have hf27 := hf26.trans hb
      clear hb hf26
      go_wp2_with fail
      refine (of_c 4 0 _).mono ?_
      rintro e w28 ⟨rfl, hb⟩
      have hf28 := hf27.trans hb
      clear hb hf27
      go_wp2_with fail
      refine (M3.out _).mono ?_
      rintro e w29 ⟨rfl, hb⟩
      have hf29 := hf28.trans hb
      clear hb hf28
      go_wp2_with fail
      refine (HAW.out _ hf29).mono ?_
      rintro e w30 ⟨rfl, hb⟩
      have hf30 := hf29.trans hb
      clear hb hf29
      go_wp2_with fail
      go_ret
      exact ⟨rfl, hf30⟩
end Go.Proofs.YthaocbmkkgeomaaDoor
