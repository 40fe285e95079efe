/- The document's d, flag, Model, number, small. No condition but the numbers' bounds. -/
import Derived.Test.YtfklgaeejmeipaaGreatDoorPTxtLen
import Derived.Test.YtfklgaeejmeipaaGreatDoorPNum
import Derived.Test.YtfklgaeejmeipaaGreatDoorPOpWords
set_option linter.all false
set_option linter.unusedVariables false
set_option linter.unusedSimpArgs false
set_option linter.unnecessarySimpa false
/- The document's d, flag, Model, number, small. No condition but the numbers' bounds. -/
namespace Go.Proofs.YtfklgaeejmeipaaGreatDoor
open Go.RowKit

set_option maxRecDepth 100000 in
theorem d06_c (n0 : Nat) (w : World) (hn : n0 ≤ 1048576) :
    Calls Tryz.prog 36 #[.int .i64 n0] w fun e w' => e = .returned (.string ⟨(Lib.decDigits n0).toArray⟩) ∧ Fr w w' := by
  go_enter Tryz.func36, Tryz.ntmps36
  go_wp2
  go_loopw [0, 3] (fun a s wr => ∃ n : Nat, ∃ l : List UInt8, a = .int .i64 n ∧ s = .string ⟨l.toArray⟩ ∧ n ≤ n0 ∧ Lib.decDigits n ++ l = Lib.decDigits n0 ∧ Fr w wr) (fun a _ _ => (intOf a).toNat + 1)
  case atStart => exact ⟨n0, [], rfl, rfl, Nat.le_refl _, by simp, Fr.refl _⟩
  case round =>
    obtain ⟨n, l, rfl, rfl, hle, hl, hfr⟩ := hrel
    have hlen : 1 + l.length ≤ 9223372036854775807 := by
      have := congrArg List.length hl; simp at this; have := dd_len7 hn; omega
    have HL := Lib.hid hl
    clear hl
    go_wp2
    · have hq : ((n : Int) / 10 == 0) = true := by assumption
      have hq' : n / 10 = 0 := by simp at hq; omega
      go_ret
      refine ⟨?_, hfr.alloc _⟩
      rw [← HL.out, ← dd_last hq']
      exact congrArg (fun x => Ending.returned (Value.string x)) (mk_append _ _)
    · have hq : ((n : Int) / 10 == 0) = false := by assumption
      have hq' : n / 10 ≠ 0 := by simp at hq; omega
      go_roundw
      case rel => exact ⟨n / 10, (48 + UInt8.ofNat (n % 10)) :: l, by go_num, congrArg Value.string (mk_append [_] _), by omega, by rw [← HL.out, ← dd_more hq']; simp, hfr.alloc _⟩
      case measure => simp [intOf]; omega
def flagB (b : Bool) (s : W8) : W8 := if b then 32 :: s else []
set_option maxRecDepth 100000 in
theorem flag06_c (b : Bool) (s : W8) (w : World) (hs : s.length < 1000) :
    Calls Tryz.prog 38 #[.bool b, .string ⟨s.toArray⟩] w fun e w' => e = .returned (.string ⟨(flagB b s).toArray⟩) ∧ Fr w w' := by
  have hsz := size_mk s
  cases b
  · go_enter Tryz.func38, Tryz.ntmps38
    go_wp2
    go_ret
    exact ⟨rfl, Fr.refl _⟩
  · go_enter Tryz.func38, Tryz.ntmps38
    go_wp2
    go_ret
    exact ⟨congrArg (fun x => Ending.returned (Value.string x)) (mk_append [32] s), Fr.refl _⟩
set_option maxRecDepth 100000 in
theorem model06_c (m : Nat) (w : World) (hm : m < 5) :
    Calls Tryz.prog 37 #[.int .u8 m] w fun e w' => e = .returned (.string ⟨(modelW m).toArray⟩) ∧ Fr w w' := by
  rcases (show m = 0 ∨ m = 1 ∨ m = 2 ∨ m = 3 ∨ m = 4 by omega) with rfl | rfl | rfl | rfl | rfl
  all_goals
    go_enter Tryz.func37, Tryz.ntmps37
    go_wp2
    go_ret
    exact ⟨rfl, (Fr.refl _).alloc _⟩
theorem numD_no {s : W8} (h : s = [] ∨ 7 < s.length ∨ (s.head? = some 48 ∧ 1 < s.length)) : numD s = -1 := by
  unfold numD
  rw [if_pos]
  rcases h with rfl | h | h
  · exact .inl (by decide)
  · exact .inr (.inl h)
  · exact .inr (.inr h)
theorem numD_is {s : W8} (h0 : s ≠ []) (h1 : ¬ 7 < s.length) (h2 : ¬ (s.head? = some 48 ∧ 1 < s.length)) (h3 : s.all isDig = true) : numD s = digVal 0 s := by
  unfold numD
  rw [if_neg, if_pos h3]
  rintro (h | h | h)
  · exact h0 (List.eq_nil_of_length_eq_zero (by omega))
  · exact h1 h
  · exact h2 h
theorem numD_bad {s : W8} (h : s.all isDig = false) : numD s = -1 := by
  unfold numD
  split
  · rfl
  · rw [h]; rfl
set_option maxRecDepth 100000 in
set_option maxHeartbeats 1000000 in
theorem number06_c (s : W8) (w : World) :
    Calls Tryz.prog 82 #[.string ⟨s.toArray⟩] w fun e w' => e = .returned (.int .i64 (numD s)) ∧ Fr w w' := by
  have hsz := size_mk s
  cases s with
  | nil =>
    rw [numD_no (.inl rfl)]
    go_enter Tryz.func82, Tryz.ntmps82
    go_wp2
    go_ret
    exact ⟨rfl, Fr.refl _⟩
  | cons c r =>
    have hg0 : ∀ hh, ((⟨(c :: r).toArray⟩ : ByteArray)[0]'hh) = c := fun _ => rfl
    by_cases h5 : 7 < (c :: r).length
    · rw [numD_no (.inr (.inl h5))]
      have h5i : (7 : Int) < (c :: r).length := by omega
      simp only [List.length_cons] at h5i hsz
      go_enter Tryz.func82, Tryz.ntmps82
      go_wp2
      go_ret
      exact ⟨rfl, Fr.refl _⟩
    · have h5i : ¬ (7 : Int) < r.length + 1 := by simp at h5; omega
      have h1i : ¬ (r.length : Int) + 1 < 1 := by omega
      by_cases hz : (c :: r).head? = some 48 ∧ 1 < (c :: r).length
      · rw [numD_no (.inr (.inr hz))]
        have hc : c = 48 := by simpa using hz.1
        have hr : (1 : Int) < (r.length : Int) + 1 := by have := hz.2; simp at this; omega
        subst hc
        clear hz h5
        go_enter Tryz.func82, Tryz.ntmps82
        go_wp2
        go_ret
        exact ⟨rfl, Fr.refl _⟩
      · have HN := Lib.hid (fun h3 => numD_is (s := c :: r) (by simp) h5 hz h3)
        have HB := Lib.hid (fun h3 => numD_bad (s := c :: r) h3)
        have hcases : ((c.toNat : Int) == 48) = true ∧ ¬ (1 : Int) < (r.length : Int) + 1 ∨ ((c.toNat : Int) == 48) = false := by
          by_cases h48 : c.toNat = 48
          · left
            refine ⟨by simp [h48], fun h => hz ⟨?_, by simp; omega⟩⟩
            have : c = 48 := by apply UInt8.toNat_inj.1; simpa using h48
            simp [this]
          · right; simp; omega
        have hS : ∃ s, s = c :: r := ⟨_, rfl⟩
        obtain ⟨s, hS⟩ := hS
        have hln : s.length = r.length + 1 := by rw [hS]; simp
        rw [← hS] at HN HB hg0 hsz ⊢
        have hln5 : s.length ≤ 7 := by simp at h5; omega
        have hlni : (r.length : Int) + 1 = s.length := by omega
        rw [hlni] at hcases h5i h1i
        clear hS hz h5 hln hlni
        go_enter Tryz.func82, Tryz.ntmps82
        rcases hcases with ⟨hc1, hc2⟩ | hc1
        all_goals
          go_wp2
          go_loop [3, 4] (fun n i => ∃ k : Nat, k ≤ s.length ∧ i = .int .i64 k ∧ n = .int .i64 (digVal 0 (s.take k)) ∧ (s.take k).all isDig = true) (fun _ i => s.length - (intOf i).toNat)
          case atStart => exact ⟨0, Nat.zero_le _, rfl, rfl, rfl⟩
          case round =>
            obtain ⟨k, hk, rfl, rfl, htk⟩ := hrel
            have hv := digVal_lt _ htk
            have hv1 : digVal 0 (s.take k) < 10000000 := Nat.lt_of_lt_of_le hv (Nat.le_trans (Nat.pow_le_pow_right (by omega) (show (s.take k).length ≤ 7 by simp; omega)) (by decide))
            clear hv
            by_cases hlt : k < s.length
            · obtain ⟨cc, hcc⟩ : ∃ cc, cc = s[k] := ⟨_, rfl⟩
              have hgk : ∀ hh, ((⟨s.toArray⟩ : ByteArray)[k]'hh) = cc := fun _ => hcc.symm
              have hb := cc.toNat_lt
              by_cases hd : isDig s[k] = true
              · have HT := Lib.hid (all_take_next htk hlt hd)
                have hv2 := digVal_take s k hlt
                rw [← hcc] at hv2 hd
                have HV := Lib.hid hv2
                have hd1 : 48 ≤ cc.toNat ∧ cc.toNat ≤ 57 := by simpa [isDig] using hd
                clear hv2 hcc
                obtain ⟨hd2, hd3⟩ := hd1
                have hd4 : ¬ (cc.toNat : Int) < 48 := by omega
                have hd5 : ¬ (57 : Int) < cc.toNat := by omega
                clear hd htk
                generalize digVal 0 (s.take k) = q at hv1 HV ⊢
                go_wp2
                go_round
                case rel => exact ⟨k + 1, by omega, by go_num, by rw [HV.out]; go_num, HT.out⟩
                case measure => simp [intOf]; omega
              · rw [Bool.not_eq_true] at hd
                have HA := Lib.hid (HB.out (all_not hlt hd))
                rw [← hcc] at hd
                clear hcc
                have hd1 : cc.toNat < 48 ∨ 57 < cc.toNat := by
                  simp [isDig] at hd
                  omega
                clear hd htk
                rcases hd1 with hd1 | hd1
                · have hd4 : (cc.toNat : Int) < 48 := by omega
                  go_wp2
                  go_ret
                  exact ⟨by rw [HA.out]; rfl, Fr.refl _⟩
                · have hd4 : ¬ (cc.toNat : Int) < 48 := by omega
                  have hd5 : (57 : Int) < cc.toNat := by omega
                  go_wp2
                  go_ret
                  exact ⟨by rw [HA.out]; rfl, Fr.refl _⟩
            · rw [List.take_of_length_le (by omega)] at htk hv1 ⊢
              have HA := Lib.hid (HN.out htk)
              clear htk HN
              generalize digVal 0 s = q at hv1 HA ⊢
              go_wp2
              go_ret
              exact ⟨by rw [HA.out]; rfl, Fr.refl _⟩
set_option maxRecDepth 100000 in
theorem small06_c (s : W8) (w : World) :
    Calls Tryz.prog 48 #[.string ⟨s.toArray⟩] w fun e w' => e = .returned (.int .i64 (smallD s)) ∧ Fr w w' := by
  have HC := Lib.hid (number06_c s w)
  unfold smallD
  generalize numD s = q at HC ⊢
  by_cases h : 65535 < q
  · rw [if_pos h]
    go_enter Tryz.func48, Tryz.ntmps48
    go_wp2_with fail
    refine HC.out.mono ?_
    rintro e w1 ⟨rfl, f1⟩
    go_wp2_with fail
    go_ret
    exact ⟨rfl, f1⟩
  · rw [if_neg h]
    go_enter Tryz.func48, Tryz.ntmps48
    go_wp2_with fail
    refine HC.out.mono ?_
    rintro e w1 ⟨rfl, f1⟩
    go_wp2_with fail
    go_ret
    exact ⟨rfl, f1⟩
end Go.Proofs.YtfklgaeejmeipaaGreatDoor
