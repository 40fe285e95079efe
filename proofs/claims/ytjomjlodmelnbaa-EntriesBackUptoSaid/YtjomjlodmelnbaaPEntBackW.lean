/- umpirelaw16.EntriesBack: the law's walk, where it does not only ask works. No condition but how many rows there are. -/
import Derived.Test.YtjomjlodmelnbaaPEntLaw
set_option linter.all false
set_option linter.unusedVariables false
set_option linter.unusedSimpArgs false
set_option linter.unnecessarySimpa false
/- umpirelaw16.EntriesBack: the law's walk, where it does not only ask works. No condition but how many rows there are. -/
namespace Go.Proofs.Ytjomjlodmelnbaa
open Go.RowKit Go.Sort
attribute [local go_sem] Oper.semAt_some

theorem ints_at {w : World} {base : Nat} {v : Value} {l : List Nat} (h : w.ownsRow base 3 1 v l.length (l.map intV)) : ∃ a c, v = .slice a l.length c := by
  obtain ⟨a, c, h1, _⟩ := ints_form h
  exact ⟨a, c, h1⟩
set_option maxRecDepth 100000 in
set_option maxHeartbeats 16000000 in
theorem backOn_c (l : List TRow) (v : Value) (cs : List Nat) (u : Value) (w : World) (hl : RdT w v l) (hn : l.length ≤ 20) (hu : RdU w u cs) (hc : cs.length ≤ 20) (hm : mayRows (eRows l) = true) (h0 : l ≠ []) :
    Calls Try.prog 6 #[v, u] w fun e w' => e = .returned (.bool true) ∧ Fr w w' := by
  have HW := Lib.hid (fun W => works16_c W)
  have HY := Lib.hid (fun (W : World) (f : Fr w W) => newYes_c (base := w.heap.size) l v W (hl.keep f) (by omega) hm f.size)
  have HU := Lib.hid hu
  have hlen := eRows_len l
  obtain ⟨a, cap, rfl, hcap, hmax, _⟩ := id hl
  unfold maxLen at hmax
  have hl0 : 0 < l.length := List.length_pos_iff.2 h0
  obtain ⟨n, hn'⟩ : ∃ n, n = l.length := ⟨_, rfl⟩
  rw [← hn'] at hn hlen hcap hl0 HY ⊢
  generalize eRows l = rs at HY hlen
  clear hl hm h0 hn'
  subst hlen
  obtain ⟨b, cb, rfl, hcb, _⟩ := id hu
  clear hu
  have h1i : ¬ (20 : Int) < (rs.length : Int) := by omega
  have h2i : ¬ (20 : Int) < (cs.length : Int) := by omega
  have h3i : ((rs.length : Int) == 0) = false := by rw [beqN0]; exact decide_eq_false (by omega)
  go_enter Try.func6, Try.ntmps6
  go_wp2_with fail
  refine (HY.out _ (Fr.refl _)).mono ?_
  rintro e w1 ⟨hf1, x, Zx, rfl, hLx, hZx⟩
  have HLx := Lib.hid hLx
  have HLT := Lib.hid hLx.lt
  clear hLx hZx
  go_wp2_with fail
  refine (HY.out _ hf1).mono ?_
  rintro e w2 ⟨hf2, y, Zy, rfl, hLy, hZy⟩
  have HLx := Lib.hid (HLx.out.fr hf2)
  have hdis : ∀ b, Zx b → ¬ Zy b := fun b hb hc => by have h1 := HLT.out b hb; have h2 := hZy b hc; omega
  have HLy := Lib.hid hLy
  have hf := hf1.trans hf2
  have HN := Lib.hid (next_c HLx.out.at_)
  clear hLy hZy hf1
  go_wp2_with fail
  refine HN.out.mono ?_
  rintro e w3 ⟨v1, rfl, hO, hf3⟩
  have HT : Hid (Two w w3 x y rs [] [] v1 (nexts rs [])) := ⟨Zx, Zy, hf.trans hf3, HLx.out.fr hf3, HLy.out.fr hf3, hdis, ownsRow_base hO hf.size, fun g hg => ⟨fun hz => by have h1 := HLx.out.lt g hz; have h2 := (World.ownsRow.lt hO g hg).1; omega, fun hz => by have h1 := HLy.out.lt g hz; have h2 := (World.ownsRow.lt hO g hg).1; omega⟩⟩
  obtain ⟨va, vc, rfl⟩ := ints_at hO
  clear HLx HLy HN hO hf hf2 hf3 hdis
  go_wp2_with fail
  go_loopw [9, 10] (fun vn vi wr => ∃ k : Nat, k ≤ cs.length ∧ vn = .int .i64 (ups rs.length (cs.take k)).length ∧ vi = .int .i64 k ∧ Hid (Two w wr x y rs (ups rs.length (cs.take k)) (ups rs.length (cs.reverse.take k)) (.slice va (nexts rs []).length vc) (nexts rs []))) (fun _ vi _ => cs.length - (intOf vi).toNat)
  case atStart => exact ⟨0, Nat.zero_le _, rfl, rfl, HT⟩
  case round =>
    clear HT
    obtain ⟨k, hk, rfl, rfl, HT⟩ := hrel
    by_cases hlt : k < cs.length
    · obtain ⟨hub, hcell⟩ := (show (∀ b ∈ cs, b < 256) ∧ _ from by obtain ⟨_, _, h1, _, h2, h3⟩ := HU.out; cases h1; exact ⟨h2, h3⟩)
      obtain ⟨g, o, rfl, hg⟩ := hcell k hlt
      have hfr := HT.out.choose_spec.choose_spec.1
      have hg := hfr.keep hg
      have lg := lt_of_cell hg
      simp only at lg
      have h256 := hub cs[k] (List.getElem_mem hlt)
      have htk : cs.take k ++ [cs[k]] = cs.take (k + 1) := (List.take_succ_eq_append_getElem hlt).symm
      have hli := twoLift_c HT.out ((cs[k] : Int) % (rs.length : Int))
      rw [liftOf_mod hl0, htk] at hli
      have hsn := ups_snoc' rs.length (cs.take k) cs[k]
      rw [htk] at hsn
      have hj : cs.length - 1 - k < cs.length := by omega
      obtain ⟨g', o', hgo, hg2⟩ := hcell (cs.length - 1 - k) hj
      cases hgo
      have hg2 := hg2
      have hrev : cs.reverse.take k ++ [cs[cs.length - 1 - k]] = cs.reverse.take (k + 1) := by
        rw [List.take_succ_eq_append_getElem (by simpa using hlt), List.getElem_reverse]
      have h256' := hub cs[cs.length - 1 - k] (List.getElem_mem hj)
      have hjl : (cs.length : Int) - 1 - (k : Int) < cs.length := by omega
      have hjn : ((cs.length : Int) - 1 - (k : Int)).toNat = cs.length - 1 - k := by omega
      clear hcell hub htk
      generalize cs[cs.length - 1 - k] = d at *
      generalize cs[k] = c at *
      have HLI := Lib.hid hli
      have HSN := Lib.hid hsn
      have HRV := Lib.hid hrev
      have HG2 := Lib.hid hg2
      clear hli hsn hrev hg2
      by_cases hm : c % rs.length ∈ ups rs.length (cs.take k)
      · have HLI2 : Hid (Calls Try.prog 12 #[Pt x, .int .i64 ((c : Int) % (rs.length : Int))] wr fun e w' => e = .returned (.int .i64 8) ∧ Two w w' x y rs (ups rs.length (cs.take (k + 1))) (ups rs.length (cs.reverse.take k)) (.slice va (nexts rs []).length vc) (nexts rs [])) := by
          have := HLI.out
          rw [if_pos hm] at this
          exact this
        have hle := HSN.out
        rw [if_pos hm] at hle
        have HLE := Lib.hid (congrArg List.length hle)
        clear HLI HSN hle hm
        go_wp2_with fail
        refine HLI2.out.mono ?_
        rintro e w5 ⟨rfl, hT5⟩
        have HT5 := Lib.hid hT5
        clear hT5 HT HLI2 hg hfr
        have hfr5 := HT5.out.choose_spec.choose_spec.1
        have hg2 := hfr5.keep HG2.out
        have lg2 := lt_of_cell hg2
        simp only at lg2
        have hly := twoLift_c HT5.out.swap ((d : Int) % (rs.length : Int))
        rw [liftOf_mod hl0, HRV.out] at hly
        have HLY := Lib.hid hly
        clear hly
        go_wp2_with fail
        refine HLY.out.mono ?_
        rintro e w6 ⟨rfl, hT6⟩
        have HT6 := Lib.hid hT6.swap
        clear hT6 HT5 HLY
        go_wp2_with fail
        go_roundw
        case rel => exact ⟨k + 1, by omega, by rw [HLE.out], by go_num, HT6⟩
        case measure => simp [intOf]; omega
      · have HLI2 : Hid (Calls Try.prog 12 #[Pt x, .int .i64 ((c : Int) % (rs.length : Int))] wr fun e w' => e = .returned (.int .i64 0) ∧ Two w w' x y rs (ups rs.length (cs.take (k + 1))) (ups rs.length (cs.reverse.take k)) (.slice va (nexts rs []).length vc) (nexts rs [])) := by
          have := HLI.out
          rw [if_neg hm] at this
          exact this
        have hle := HSN.out
        rw [if_neg hm] at hle
        have HLE := Lib.hid (congrArg List.length hle)
        have hul : (ups rs.length (cs.take k)).length ≤ 20 := Nat.le_trans (nodup_len_le HT.out.choose_spec.choose_spec.2.1.ups.1 HT.out.choose_spec.choose_spec.2.1.ups.2) hn
        clear HLI HSN hle hm
        go_wp2_with fail
        refine HLI2.out.mono ?_
        rintro e w5 ⟨rfl, hT5⟩
        have HT5 := Lib.hid hT5
        clear hT5 HT HLI2 hg hfr
        have hfr5 := HT5.out.choose_spec.choose_spec.1
        have hg2 := hfr5.keep HG2.out
        have lg2 := lt_of_cell hg2
        simp only at lg2
        have hly := twoLift_c HT5.out.swap ((d : Int) % (rs.length : Int))
        rw [liftOf_mod hl0, HRV.out] at hly
        have HLY := Lib.hid hly
        clear hly
        go_wp2_with fail
        refine HLY.out.mono ?_
        rintro e w6 ⟨rfl, hT6⟩
        have HT6 := Lib.hid hT6.swap
        clear hT6 HT5 HLY
        go_wp2_with fail
        go_roundw
        case rel => exact ⟨k + 1, by omega, by rw [HLE.out, List.length_append, List.length_singleton]; go_num, by go_num, HT6⟩
        case measure => simp [intOf]; omega
    · obtain rfl : k = cs.length := by omega
      rw [List.take_length, show cs.reverse.take cs.length = cs.reverse by rw [← List.length_reverse, List.take_length]] at HT
      rw [List.take_length]
      have hE := ups_rev rs.length cs
      generalize ups rs.length cs = Ux at HT hE ⊢
      generalize ups rs.length cs.reverse = Uy at HT hE
      have hux := HT.out.choose_spec.choose_spec.2.1.ups
      have huy := HT.out.choose_spec.choose_spec.2.2.1.ups
      have hfew := HT.out.choose_spec.choose_spec.2.1.few
      have HN1 := Lib.hid (next_c HT.out.choose_spec.choose_spec.2.1.at_)
      have HEN := Lib.hid (nexts_congr (rs := rs) hE)
      have HEL := Lib.hid (leftOf_congr (rs := rs) hE)
      have HEC := Lib.hid (len_congr hux.1 huy.1 hE)
      have hul : Ux.length ≤ 20 := Nat.le_trans (nodup_len_le hux.1 hux.2) hn
      have HFEW := Lib.hid (Nat.le_trans (nexts_len rs Ux) hfew)
      clear hE hux huy hfew hlt hk
      go_wp2_with fail
      refine HN1.out.mono ?_
      rintro e w4 ⟨v2, rfl, hO2, hf4⟩
      have HT := Lib.hid (HT.out.fr hf4)
      have HN2 := Lib.hid (next_c HT.out.choose_spec.choose_spec.2.2.1.at_)
      have HO2 := Lib.hid hO2
      obtain ⟨va2, vc2, rfl⟩ := ints_at hO2
      clear hO2 HN1 hf4
      go_wp2_with fail
      refine HN2.out.mono ?_
      rintro e w5 ⟨v3, rfl, hO3, hf5⟩
      have HT := Lib.hid (HT.out.fr hf5)
      have HSM := Lib.hid (same16_c _ _ _ _ w5 ((RdI.own HO2.out).fr hf5) (RdI.own hO3) HFEW.out)
      rw [decide_eq_true HEN.out] at HSM
      obtain ⟨va3, vc3, rfl⟩ := ints_at hO3
      clear hO3 HN2 hf5 HO2
      go_wp2_with fail
      refine HSM.out.mono ?_
      rintro e w6 ⟨rfl, hf6⟩
      have HT := Lib.hid (HT.out.fr hf6)
      have HWX := Lib.hid (whole_c HT.out.choose_spec.choose_spec.2.1.at_)
      clear HSM hf6
      go_wp2_with fail
      refine HWX.out.mono ?_
      rintro e w7 ⟨rfl, hf7⟩
      have HT := Lib.hid (HT.out.fr hf7)
      have HWY := Lib.hid (whole_c HT.out.choose_spec.choose_spec.2.2.1.at_)
      rw [← HEL.out] at HWY
      clear HWX hf7
      generalize decide (leftOf rs Ux = 0) = d at *
      go_wp2_with fail
      refine HWY.out.mono ?_
      rintro e w8 ⟨rfl, hf8⟩
      have HT := Lib.hid (HT.out.fr hf8)
      have HCX := Lib.hid (count_c HT.out.choose_spec.choose_spec.2.1.at_)
      clear HWY hf8
      go_wp2_with fail
      refine HCX.out.mono ?_
      rintro e w9 ⟨rfl, hf9⟩
      have HT := Lib.hid (HT.out.fr hf9)
      have HCY := Lib.hid (count_c HT.out.choose_spec.choose_spec.2.2.1.at_)
      rw [← HEC.out] at HCY
      clear HCX hf9
      go_wp2_with fail
      refine HCY.out.mono ?_
      rintro e w10 ⟨rfl, hf10⟩
      have HT := Lib.hid (HT.out.fr hf10)
      clear HCY hf10
      go_wp2_with fail
      clear HEN HEL HEC HFEW
      go_loopw [9] (fun vn wr => ∃ up : List Nat, up.length ≤ 20 ∧ vn = .int .i64 up.length ∧ Hid (Two w wr x y rs up Uy (.slice va (nexts rs []).length vc) (nexts rs []))) (fun vn _ => (intOf vn).toNat)
      case atStart => exact ⟨Ux, hul, rfl, HT⟩
      case round =>
        clear HT
        obtain ⟨up, hup, rfl, HT⟩ := hrel
        rcases List.eq_nil_or_concat up with rfl | ⟨up0, i, rfl⟩
        · have HTL := Lib.hid (tells16_c HT.out.choose_spec.choose_spec.2.1.at_ _ (nexts rs []) (RdI.own HT.out.choose_spec.choose_spec.2.2.2.2.1))
          rw [decide_eq_true rfl] at HTL
          go_wp2_with fail
          refine HTL.out.mono ?_
          rintro e w11 ⟨rfl, hf11⟩
          have HT := Lib.hid (HT.out.fr hf11)
          have HCX := Lib.hid (count_c HT.out.choose_spec.choose_spec.2.1.at_)
          clear HTL hf11
          go_wp2_with fail
          refine HCX.out.mono ?_
          rintro e w12 ⟨rfl, hf12⟩
          have hf := HT.out.choose_spec.choose_spec.1.trans hf12
          clear HT HCX hf12
          go_wp2_with fail
          refine (HW.out _).mono ?_
          rintro e w13 ⟨rfl, hf13⟩
          go_wp2_with fail
          go_ret
          exact ⟨rfl, hf.trans hf13⟩
        · rw [List.concat_eq_append] at HT hup
          rw [List.concat_eq_append]
          rw [List.length_append, List.length_singleton] at hup ⊢
          have hups := HT.out.choose_spec.choose_spec.2.1.ups
          have hni := (ups_snoc hups).2.1
          have HU2 := Lib.hid (twoUnlift_c HT.out)
          obtain ⟨m, hm⟩ : ∃ m, m = up0.length := ⟨_, rfl⟩
          rw [← hm] at hup ⊢
          have HMM := Lib.hid hm
          have HNI := Lib.hid hni
          clear hm hups hni HT
          go_wp2_with fail
          refine HU2.out.mono ?_
          rintro e w11 ⟨rfl, hT11⟩
          have HT := Lib.hid hT11
          have hlf := lifted_c HT.out.choose_spec.choose_spec.2.1.at_ (i : Int)
          have hb : (decide (0 ≤ (i : Int)) && up0.contains ((i : Int)).toNat) = false := by simp [HNI.out]
          rw [hb] at hlf
          have HLF := Lib.hid hlf
          clear hT11 hlf hb HU2
          go_wp2_with fail
          refine HLF.out.mono ?_
          rintro e w12 ⟨rfl, hf12⟩
          have HT := Lib.hid (HT.out.fr hf12)
          clear HLF hf12
          go_wp2_with fail
          go_roundw
          case rel => exact ⟨up0, by have := HMM.out; omega, by rw [← HMM.out], HT⟩
          case measure => first | (simp [intOf]; done) | (simp [intOf]; omega)
/-- EntriesBack: of any rows, any bytes the law returns true. -/
theorem entBack_c (l : List TRow) (v : Value) (cs : List Nat) (u : Value) (w : World) (hl : RdT w v l) (hn : l.length ≤ 1100000) (hu : RdU w u cs) :
    Calls Try.prog 6 #[v, u] w fun e w' => e = .returned (.bool true) ∧ Fr w w' := by
  by_cases h : 20 < l.length ∨ 20 < cs.length ∨ mayRows (eRows l) = false ∨ l = []
  · exact backOff_c l v cs u w hl hn hu h
  · simp only [not_or] at h
    exact backOn_c l v cs u w hl (by omega) hu (by omega) (by simpa using h.2.2.1) h.2.2.2
end Go.Proofs.Ytjomjlodmelnbaa
