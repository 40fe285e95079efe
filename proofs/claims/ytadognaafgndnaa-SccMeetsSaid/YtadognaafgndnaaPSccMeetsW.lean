/- umpirelaw28.SccMeets: the law's walk. No condition but that the graph can be read. -/
import Derived.Test.YtadognaafgndnaaPSccLawH
import Derived.Test.YtadognaafgndnaaPSccQ
set_option linter.all false
set_option linter.unusedVariables false
set_option linter.unusedSimpArgs false
set_option linter.unnecessarySimpa false
/- umpirelaw28.SccMeets: the law's walk. No condition but that the graph can be read. -/
namespace Go.Proofs.Ytadognaafgndnaa
open Go.RowKit
attribute [local go_sem] Oper.semAt_some

structure MeetsF (n : Nat) (R : Nat → Nat → Prop) (C : List Nat) (T : List Bool) (H : Nat → Nat) : Prop where
  clen : C.length = n
  tlen : T.length ≤ n
  low : ∀ i, i < n → C.getD i 0 ≤ H i ∧ H (i + 1) = if C.getD i 0 = H i then H i + 1 else H i
  h0 : H 0 = 0
  hn : H n = T.length
  hle : ∀ i, i ≤ n → H i ≤ n
  lt : ∀ i, i < n → C.getD i 0 < T.length
  turn : ∀ i, i < n → (T.getD (C.getD i 0) false = true ↔ R i i)
  eqv : ∀ i k, i < n → k < n → i ≠ k → (C.getD i 0 = C.getD k 0 ↔ R i k ∧ R k i)
theorem meets_facts {G : List (List Int)} (hm : mayZ G = true) : MeetsF G.length (Rch1 (natG G)) (compsOf (natG G)) (turnsOf (natG G)) (cntH (sortG (groupsOf (natG G)))) := by
  have hG := natG_may hm
  have hnl := natG_length G
  have HP := parts_of (groupsOf_is hG)
  have HL := groups_len hG
  have htl : (turnsOf (natG G)).length ≤ G.length := by rw [turnsOf_length, sortG_length, ← hnl]; exact HL.1
  refine ⟨by rw [compsOf_length, hnl], htl, fun i hi => ?_, cntH_zero _, ?_, fun i hi => ?_, fun i hi => ?_, fun i hi => ?_, fun i k hi hk hne => ?_⟩
  · rw [comps_getD (by omega)]
    exact meets_low hG (by omega)
  · rw [turnsOf_length, ← hnl]; exact HP.top
  · have := cntH_le (sortG (groupsOf (natG G))) i
    rw [turnsOf_length] at htl
    omega
  · rw [comps_getD (by omega), turnsOf_length]
    exact (HP.at_ (by omega)).1
  · rw [comps_getD (by omega)]
    have hlt := (HP.at_ (a := i) (by omega)).1
    rw [← turnsOf_at hG (by omega)]
    rw [List.getD_eq_getElem?_getD, List.getElem?_eq_getElem (by rw [turnsOf_length]; exact hlt)]
    simp
  · rw [comps_getD (by omega), comps_getD (by omega), HP.eq_iff (by omega) (by omega)]
    constructor
    · exact fun h => ⟨h.1.one_of_ne hne, h.2.one_of_ne (Ne.symm hne)⟩
    · exact fun h => ⟨h.1.rch, h.2.rch⟩
set_option maxRecDepth 100000 in
set_option maxHeartbeats 8000000 in
theorem sccMeets_c {w : World} {v : Value} {G : List (List Int)} (hv : RdGZ w v G) :
    Calls Try.prog 7 #[v] w fun e w' => e = .returned (.bool true) ∧ Fr w w' := by
  have HF := Lib.hid (few28_c hv)
  have HV := Lib.hid hv
  cases hfew : fewB G
  · rw [hfew] at HF
    clear hv
    go_enter Try.func7, Try.ntmps7
    go_wp2_with fail
    refine HF.out.mono ?_
    rintro e w1 ⟨rfl, hf1⟩
    have HF1 := Lib.hid hf1
    clear hf1 HF
    go_wp2_with fail
    refine (works28_c w1).mono ?_
    rintro e w2 ⟨rfl, hf2⟩
    have HF2 := Lib.hid (HF1.out.trans hf2)
    clear hf2
    go_wp2_with fail
    go_ret
    exact ⟨rfl, HF2.out⟩
  · rw [hfew] at HF
    obtain ⟨hb, hb30⟩ := fewB_spec hfew
    have HC := Lib.hid (fun W (f : Fr w W) => CompsZ_c (HV.out.fr f) (by omega))
    have HT := Lib.hid (fun W (f : Fr w W) => TurnsZ_c (HV.out.fr f) (by omega))
    have HM := Lib.hid (fun W (f : Fr w W) => lawMay_c (HV.out.fr f))
    cases hm : mayZ G
    · have her : errZ G = 2 := by unfold errZ; rw [hm]; rfl
      rw [her] at HC HT
      rw [hm] at HM
      clear hv her
      go_enter Try.func7, Try.ntmps7
      go_wp2_with fail
      refine HF.out.mono ?_
      rintro e w1 ⟨rfl, hf1⟩
      have HF1 := Lib.hid hf1
      have HC1 := Lib.hid (HC.out w1 hf1)
      clear hf1 HF HC
      go_wp2_with fail
      refine HC1.out.mono ?_
      rintro e w2 ⟨v2, rfl, _, hf2⟩
      have HF2 := Lib.hid (HF1.out.trans hf2)
      have HT2 := Lib.hid (HT.out w2 HF2.out)
      clear hf2 HC1 HT
      go_wp2_with fail
      refine HT2.out.mono ?_
      rintro e w3 ⟨v3, rfl, _, hf3⟩
      have HF3 := Lib.hid (HF2.out.trans hf3)
      have HM3 := Lib.hid (HM.out w3 HF3.out)
      clear hf3 HT2 HM
      go_wp2_with fail
      refine HM3.out.mono ?_
      rintro e w4 ⟨rfl, hf4⟩
      have HF4 := Lib.hid (HF3.out.trans hf4)
      clear hf4 HM3
      go_wp2_with fail
      refine (works28_c w4).mono ?_
      rintro e w5 ⟨rfl, hf5⟩
      have HF5 := Lib.hid (HF4.out.trans hf5)
      clear hf5
      go_wp2_with fail
      go_ret
      exact ⟨rfl, HF5.out⟩
    · have her : errZ G = 0 := by unfold errZ; rw [hm]; rfl
      have hcz : compsZ G = compsOf (natG G) := by unfold compsZ; rw [hm]; rfl
      have htz : turnsZ G = turnsOf (natG G) := by unfold turnsZ; rw [hm]; rfl
      rw [her, hcz] at HC
      rw [her, htz] at HT
      rw [hm] at HM
      have HE := Lib.hid (meets_facts hm)
      have hnl := natG_length G
      have hG := natG_may hm
      have h30 : ∀ l ∈ natG G, l.length ≤ 30 := fun l hl => by
        obtain ⟨l', hl', rfl⟩ := List.mem_map.1 hl
        rw [List.length_map]; exact hb30 l' hl'
      have HRE : Hid (∀ W i, Fr w W → i < G.length → Calls Try.prog 22 #[v, .int .i64 i] W fun e w' => ∃ (B : Nat) (f : Nat → Bool), e = .returned (.slice (some ⟨B, 0, none⟩) G.length G.length) ∧ (∀ m, f m = true ↔ Rch1 (natG G) i m) ∧ (∀ m, m < G.length → w'.cell? ⟨B, m, none⟩ = some (.int .i64 (bitV f m))) ∧ Fr W w') := Lib.hid (fun W i f hi => by
        have := reaches28_c ((HV.out.fr f).nat hm) hG (i := i) (by omega) (by omega) h30
        rw [hnl] at this
        exact this)
      obtain ⟨va, vc, rfl⟩ := hv.form
      clear hv her hcz htz hfew hm hnl hG h30 HV hb30
      generalize compsOf (natG G) = C at HC HE
      generalize turnsOf (natG G) = T at HT HE
      generalize cntH (sortG (groupsOf (natG G))) = H at HE
      generalize Rch1 (natG G) = R at HRE HE
      have HRT : Hid (∀ i, i < G.length → T.length ≤ 16 ∧ True) := Lib.hid (fun i hi => ⟨by have := HE.out.tlen; omega, trivial⟩)
      have htl := HE.out.tlen
      go_enter Try.func7, Try.ntmps7
      go_wp2_with fail
      refine HF.out.mono ?_
      rintro e w1 ⟨rfl, hf1⟩
      have HF1 := Lib.hid hf1
      have HC1 := Lib.hid (HC.out w1 hf1)
      clear hf1 HF HC HRT
      go_wp2_with fail
      refine HC1.out.mono ?_
      rintro e w2 ⟨v2, rfl, h2, hf2⟩
      have HF2 := Lib.hid (HF1.out.trans hf2)
      have HT2 := Lib.hid (HT.out w2 HF2.out)
      have HR2 := Lib.hid h2
      clear hf2 HC1 HT h2
      go_wp2_with fail
      refine HT2.out.mono ?_
      rintro e w3 ⟨v3, rfl, h3, hf3⟩
      have HF3 := Lib.hid (HF2.out.trans hf3)
      have HM3 := Lib.hid (HM.out w3 HF3.out)
      obtain ⟨ca, cc, rfl, hcc, hcx⟩ := HR2.out.fr hf3
      obtain ⟨ta, tc, rfl, htc, htx⟩ := h3
      have HCX : Hid (∀ i, i < G.length → ∃ g o, ca = some ⟨g, o, none⟩ ∧ w3.cell? ⟨g, o + i, none⟩ = some (.int .i64 (C.getD i 0 : Nat))) := Lib.hid (fun i hi => by
        have hi' : i < C.length := by rw [HE.out.clen]; exact hi
        obtain ⟨g, o, h1, h2⟩ := hcx i hi'
        refine ⟨g, o, h1, ?_⟩
        rw [h2, getD_at hi']; rfl)
      have HTX : Hid (∀ c, c < T.length → ∃ g o, ta = some ⟨g, o, none⟩ ∧ w3.cell? ⟨g, o + c, none⟩ = some (.bool (T.getD c false))) := Lib.hid (fun c hc => by
        obtain ⟨g, o, h1, h2⟩ := htx c hc
        refine ⟨g, o, h1, ?_⟩
        rw [h2, List.getD_eq_getElem?_getD, List.getElem?_eq_getElem hc]; rfl)
      rw [HE.out.clen] at hcc ⊢
      clear hf3 HT2 HM HR2 hcx htx
      go_wp2_with fail
      refine HM3.out.mono ?_
      rintro e w4 ⟨rfl, hf4⟩
      have HF4 := Lib.hid hf4
      have HS : Hid (H 0 = 0) := Lib.hid HE.out.h0
      clear hf4 HM3
      go_wp2_with fail
      go_loopw [7, 8] (fun vm vi wr => ∃ i : Nat, i ≤ G.length ∧ vi = .int .i64 i ∧ vm = .int .i64 (H i : Nat) ∧ Hid (Fr w3 wr)) (fun _ vi _ => G.length - (intOf vi).toNat)
      case atStart => exact ⟨0, Nat.zero_le _, rfl, by rw [HS.out]; rfl, HF4.out⟩
      case round =>
        obtain ⟨i, hi, rfl, rfl, HI⟩ := hrel
        clear HF4 HS
        by_cases hit : i < G.length
        · obtain ⟨cg, co, rfl, hci⟩ := HCX.out i hit
          have HCI := Lib.hid hci
          have hci := HI.out.keep hci
          have lcg := lt_of_cell hci
          simp only at lcg
          obtain ⟨hlow, hup⟩ := HE.out.low i hit
          have hhle := HE.out.hle i hi
          have hlt := HE.out.lt i hit
          obtain ⟨tg, to_, rfl, hti⟩ := HTX.out _ hlt
          have HTI := Lib.hid hti
          have HTU := Lib.hid (HE.out.turn i hit)
          have HEQ := Lib.hid (fun k hk hne => HE.out.eqv i k hit hk hne)
          have HUP := Lib.hid hup
          have HRE1 := Lib.hid (fun W (f : Fr w3 W) => HRE.out W i (HF3.out.trans f) hit)
          clear hup hti
          generalize T.getD (C.getD i 0) false = tb at HTI HTU
          generalize hxe : C.getD i 0 = x at hci hlow hlt HTI HEQ HUP HCI
          have HXE := Lib.hid hxe
          clear hxe
          generalize hHi : H (i + 1) = h1 at HUP
          have HH1 := Lib.hid hHi
          clear hHi
          generalize H i = hh at hlow hhle HUP
          have k1 : decide ((x : Int) < 0) = false := by simp
          have k2 : decide ((hh : Int) < (x : Int)) = false := by simp; omega
          have k3 : decide ((T.length : Int) ≤ (x : Int)) = false := by simp; omega
          by_cases hxh : x = hh
          · have HHN : Hid (h1 = hh + 1) := Lib.hid (by rw [HUP.out, if_pos hxh])
            subst hxh
            clear HUP
            go_wp2_with fail
            refine (HRE1.out _ HI.out).mono ?_
            rintro e w5 ⟨B, f, rfl, hfr, hfc, hf5⟩
            have hf35 := HI.out.trans hf5
            have hbi := hfc i hit
            have hft : f i = tb := by rw [Bool.eq_iff_iff, hfr i]; exact HTU.out.symm
            have HFR := Lib.hid hfr
            have HFC := Lib.hid hfc
            have HF5 := Lib.hid hf35
            have ez : (bitV f i == (1 : Int)) = tb := by unfold bitV; rw [hft]; cases tb <;> rfl
            have ez2 : decide (bitV f i = (1 : Int)) = tb := by unfold bitV; rw [hft]; cases tb <;> rfl
            have hci := hf35.keep HCI.out
            have hti := hf35.keep HTI.out
            have lB := lt_of_cell hbi
            have lcg := lt_of_cell hci
            have ltg := lt_of_cell hti
            simp only at lB lcg ltg
            generalize bitV f i = z at hbi ez ez2
            clear hft hfr hfc hf5 hf35
            go_wp2_with fail
            go_quiet (fail)
            go_wp2_with fail
            refine gen_w fun W6 hW6 => ?_
            have HF6 : Hid (Fr w5 W6) := Lib.hid (by rw [hW6]; first | exact Fr.refl _ | exact (Fr.refl _).drew | exact (Fr.refl _).drewN _)
            clear hW6 hbi ez ez2 hci hti lB lcg ltg
            go_loopw [10] (fun vk wr => ∃ k : Nat, k ≤ G.length ∧ vk = .int .i64 k ∧ Hid (Fr w5 wr)) (fun vk _ => G.length - (intOf vk).toNat)
            case atStart => exact ⟨0, Nat.zero_le _, rfl, HF6.out⟩
            case round =>
              obtain ⟨k, hk, rfl, HK⟩ := hrel
              clear HF6
              by_cases hkt : k < G.length
              · have HRK := Lib.hid (HRE.out wr k (HF3.out.trans (HF5.out.trans HK.out)) hkt)
                go_wp2_with fail
                refine HRK.out.mono ?_
                rintro e w7 ⟨B2, g, rfl, hgr, hgc, hf7⟩
                have hf57 := HK.out.trans hf7
                have hf37 := HF5.out.trans hf57
                have hrk := hf57.keep (HFC.out k hkt)
                have hbi := hgc i hit
                obtain ⟨cg2, co2, e9, hck⟩ := HCX.out k hkt
                cases e9
                have hck := hf37.keep hck
                have hci := hf37.keep HCI.out
                have lB := lt_of_cell hrk
                have lB2 := lt_of_cell hbi
                have lcg := lt_of_cell hci
                simp only at lB lB2 lcg
                have HFX := Lib.hid hf57
                have HQ : Hid (i ≠ k → (x = C.getD k 0 ↔ f k = true ∧ g i = true)) := Lib.hid (fun hne => by rw [HEQ.out k hkt hne, HFR.out k, hgr i])
                unfold bitV at hrk hbi
                clear hgr hgc hf7 hf57 hf37 HRK HK
                generalize C.getD k 0 = y at hck HQ
                by_cases hik : i = k
                · have e1 : ((i : Int) != (k : Int)) = false := by simp; omega
                  have e2 : (i != k) = false := by simpa using hik
                  clear hrk hbi hck HQ hik
                  go_wp2_with fail
                  go_quiet (fail)
                  go_wp2_with fail
                  go_roundw
                  case rel => exact ⟨k + 1, by omega, by go_num, HFX.out.trans (by first | exact Fr.refl _ | exact (Fr.refl _).drew | exact (Fr.refl _).drewN _)⟩
                  case measure => first | (simp [intOf]; done) | (simp [intOf]; omega)
                · have e1 : ((i : Int) != (k : Int)) = true := by simp; omega
                  have e2 : (i != k) = true := by simpa using hik
                  have HQ2 := Lib.hid (HQ.out hik)
                  clear HQ
                  generalize f k = b1 at hrk HQ2
                  generalize g i = b2 at hbi HQ2
                  cases b1
                  · have hrk : w7.cell? ⟨B, k, none⟩ = some (.int .i64 0) := by simpa using hrk
                    have hne : x ≠ y := fun h => by have := (HQ2.out.1 h).1; cases this
                    have e3 : ((x : Int) == (y : Int)) = false := by simp; omega
                    have e4 : (x == y) = false := by simpa using hne
                    clear HQ2 hbi
                    go_wp2_with fail
                    go_quiet (fail)
                    go_wp2_with fail
                    go_roundw
                    case rel => exact ⟨k + 1, by omega, by go_num, HFX.out.trans (by first | exact Fr.refl _ | exact (Fr.refl _).drew | exact (Fr.refl _).drewN _)⟩
                    case measure => first | (simp [intOf]; done) | (simp [intOf]; omega)
                  · have hrk : w7.cell? ⟨B, k, none⟩ = some (.int .i64 1) := by simpa using hrk
                    cases b2
                    · have hbi : w7.cell? ⟨B2, i, none⟩ = some (.int .i64 0) := by simpa using hbi
                      have hne : x ≠ y := fun h => by have := (HQ2.out.1 h).2; cases this
                      have e3 : ((x : Int) == (y : Int)) = false := by simp; omega
                      have e4 : (x == y) = false := by simpa using hne
                      clear HQ2
                      go_wp2_with fail
                      go_quiet (fail)
                      go_wp2_with fail
                      go_roundw
                      case rel => exact ⟨k + 1, by omega, by go_num, HFX.out.trans (by first | exact Fr.refl _ | exact (Fr.refl _).drew | exact (Fr.refl _).drewN _)⟩
                      case measure => first | (simp [intOf]; done) | (simp [intOf]; omega)
                    · have hbi : w7.cell? ⟨B2, i, none⟩ = some (.int .i64 1) := by simpa using hbi
                      obtain rfl : x = y := HQ2.out.2 ⟨rfl, rfl⟩
                      clear HQ2
                      go_wp2_with fail
                      go_quiet (fail)
                      go_wp2_with fail
                      go_roundw
                      case rel => exact ⟨k + 1, by omega, by go_num, HFX.out.trans (by first | exact Fr.refl _ | exact (Fr.refl _).drew | exact (Fr.refl _).drewN _)⟩
                      case measure => first | (simp [intOf]; done) | (simp [intOf]; omega)
              · obtain rfl : k = G.length := by omega
                have HN := Lib.hid (HF5.out.trans HK.out)
                clear HK
                go_wp2_with fail
                go_roundw
                case rel => exact ⟨i + 1, by omega, by go_num, by rw [HH1.out, HHN.out] <;> go_num, HN⟩
                case measure => first | (simp [intOf]; done) | (simp [intOf]; omega)
          · have HHN : Hid (h1 = hh) := Lib.hid (by rw [HUP.out, if_neg hxh])
            have e1 : ((x : Int) == (hh : Int)) = false := by simp; omega
            have e2 : (x == hh) = false := by simpa using hxh
            clear HUP
            go_wp2_with fail
            refine (HRE1.out _ HI.out).mono ?_
            rintro e w5 ⟨B, f, rfl, hfr, hfc, hf5⟩
            have hf35 := HI.out.trans hf5
            have hbi := hfc i hit
            have hft : f i = tb := by rw [Bool.eq_iff_iff, hfr i]; exact HTU.out.symm
            have HFR := Lib.hid hfr
            have HFC := Lib.hid hfc
            have HF5 := Lib.hid hf35
            have ez : (bitV f i == (1 : Int)) = tb := by unfold bitV; rw [hft]; cases tb <;> rfl
            have ez2 : decide (bitV f i = (1 : Int)) = tb := by unfold bitV; rw [hft]; cases tb <;> rfl
            have hci := hf35.keep HCI.out
            have hti := hf35.keep HTI.out
            have lB := lt_of_cell hbi
            have lcg := lt_of_cell hci
            have ltg := lt_of_cell hti
            simp only at lB lcg ltg
            generalize bitV f i = z at hbi ez ez2
            clear hft hfr hfc hf5 hf35
            go_wp2_with fail
            go_quiet (fail)
            go_wp2_with fail
            refine gen_w fun W6 hW6 => ?_
            have HF6 : Hid (Fr w5 W6) := Lib.hid (by rw [hW6]; first | exact Fr.refl _ | exact (Fr.refl _).drew | exact (Fr.refl _).drewN _)
            clear hW6 hbi ez ez2 hci hti lB lcg ltg
            go_loopw [10] (fun vk wr => ∃ k : Nat, k ≤ G.length ∧ vk = .int .i64 k ∧ Hid (Fr w5 wr)) (fun vk _ => G.length - (intOf vk).toNat)
            case atStart => exact ⟨0, Nat.zero_le _, rfl, HF6.out⟩
            case round =>
              obtain ⟨k, hk, rfl, HK⟩ := hrel
              clear HF6
              by_cases hkt : k < G.length
              · have HRK := Lib.hid (HRE.out wr k (HF3.out.trans (HF5.out.trans HK.out)) hkt)
                go_wp2_with fail
                refine HRK.out.mono ?_
                rintro e w7 ⟨B2, g, rfl, hgr, hgc, hf7⟩
                have hf57 := HK.out.trans hf7
                have hf37 := HF5.out.trans hf57
                have hrk := hf57.keep (HFC.out k hkt)
                have hbi := hgc i hit
                obtain ⟨cg2, co2, e9, hck⟩ := HCX.out k hkt
                cases e9
                have hck := hf37.keep hck
                have hci := hf37.keep HCI.out
                have lB := lt_of_cell hrk
                have lB2 := lt_of_cell hbi
                have lcg := lt_of_cell hci
                simp only at lB lB2 lcg
                have HFX := Lib.hid hf57
                have HQ : Hid (i ≠ k → (x = C.getD k 0 ↔ f k = true ∧ g i = true)) := Lib.hid (fun hne => by rw [HEQ.out k hkt hne, HFR.out k, hgr i])
                unfold bitV at hrk hbi
                clear hgr hgc hf7 hf57 hf37 HRK HK
                generalize C.getD k 0 = y at hck HQ
                by_cases hik : i = k
                · have e1 : ((i : Int) != (k : Int)) = false := by simp; omega
                  have e2 : (i != k) = false := by simpa using hik
                  clear hrk hbi hck HQ hik
                  go_wp2_with fail
                  go_quiet (fail)
                  go_wp2_with fail
                  go_roundw
                  case rel => exact ⟨k + 1, by omega, by go_num, HFX.out.trans (by first | exact Fr.refl _ | exact (Fr.refl _).drew | exact (Fr.refl _).drewN _)⟩
                  case measure => first | (simp [intOf]; done) | (simp [intOf]; omega)
                · have e1 : ((i : Int) != (k : Int)) = true := by simp; omega
                  have e2 : (i != k) = true := by simpa using hik
                  have HQ2 := Lib.hid (HQ.out hik)
                  clear HQ
                  generalize f k = b1 at hrk HQ2
                  generalize g i = b2 at hbi HQ2
                  cases b1
                  · have hrk : w7.cell? ⟨B, k, none⟩ = some (.int .i64 0) := by simpa using hrk
                    have hne : x ≠ y := fun h => by have := (HQ2.out.1 h).1; cases this
                    have e3 : ((x : Int) == (y : Int)) = false := by simp; omega
                    have e4 : (x == y) = false := by simpa using hne
                    clear HQ2 hbi
                    go_wp2_with fail
                    go_quiet (fail)
                    go_wp2_with fail
                    go_roundw
                    case rel => exact ⟨k + 1, by omega, by go_num, HFX.out.trans (by first | exact Fr.refl _ | exact (Fr.refl _).drew | exact (Fr.refl _).drewN _)⟩
                    case measure => first | (simp [intOf]; done) | (simp [intOf]; omega)
                  · have hrk : w7.cell? ⟨B, k, none⟩ = some (.int .i64 1) := by simpa using hrk
                    cases b2
                    · have hbi : w7.cell? ⟨B2, i, none⟩ = some (.int .i64 0) := by simpa using hbi
                      have hne : x ≠ y := fun h => by have := (HQ2.out.1 h).2; cases this
                      have e3 : ((x : Int) == (y : Int)) = false := by simp; omega
                      have e4 : (x == y) = false := by simpa using hne
                      clear HQ2
                      go_wp2_with fail
                      go_quiet (fail)
                      go_wp2_with fail
                      go_roundw
                      case rel => exact ⟨k + 1, by omega, by go_num, HFX.out.trans (by first | exact Fr.refl _ | exact (Fr.refl _).drew | exact (Fr.refl _).drewN _)⟩
                      case measure => first | (simp [intOf]; done) | (simp [intOf]; omega)
                    · have hbi : w7.cell? ⟨B2, i, none⟩ = some (.int .i64 1) := by simpa using hbi
                      obtain rfl : x = y := HQ2.out.2 ⟨rfl, rfl⟩
                      clear HQ2
                      go_wp2_with fail
                      go_quiet (fail)
                      go_wp2_with fail
                      go_roundw
                      case rel => exact ⟨k + 1, by omega, by go_num, HFX.out.trans (by first | exact Fr.refl _ | exact (Fr.refl _).drew | exact (Fr.refl _).drewN _)⟩
                      case measure => first | (simp [intOf]; done) | (simp [intOf]; omega)
              · obtain rfl : k = G.length := by omega
                have HN := Lib.hid (HF5.out.trans HK.out)
                clear HK
                go_wp2_with fail
                go_roundw
                case rel => exact ⟨i + 1, by omega, by go_num, by rw [HH1.out, HHN.out] <;> go_num, HN⟩
                case measure => first | (simp [intOf]; done) | (simp [intOf]; omega)
        · obtain rfl : i = G.length := by omega
          have hhn := HE.out.hn
          rw [hhn]
          clear hhn
          go_wp2_with fail
          refine (works28_c wr).mono ?_
          rintro e w5 ⟨rfl, hf5⟩
          have HF5 := Lib.hid (HF3.out.trans (HI.out.trans hf5))
          clear hf5
          go_wp2_with fail
          go_ret
          exact ⟨rfl, HF5.out⟩
end Go.Proofs.Ytadognaafgndnaa
