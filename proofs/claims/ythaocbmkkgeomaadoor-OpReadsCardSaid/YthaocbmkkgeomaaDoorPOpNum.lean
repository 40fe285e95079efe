/- umpireref04.Number: a word's number. No condition. -/
import Derived.Test.YthaocbmkkgeomaaDoorPOpTake
set_option linter.all false
set_option linter.unusedVariables false
set_option linter.unusedSimpArgs false
set_option linter.unnecessarySimpa false
/- umpireref04.Number: a word's number. No condition. -/
namespace Go.Proofs.YthaocbmkkgeomaaDoor
open Go.RowKit

theorem numI_no {s : List UInt8} (h : s = [] ∨ 5 < s.length ∨ (s.head? = some 48 ∧ 1 < s.length)) : numI s = -1 := by unfold numI numW; rw [if_pos h]
theorem numI_bad {s : List UInt8} (h : s.all isDig = false) : numI s = -1 := by
  unfold numI numW
  split
  · rename_i v hv
    split at hv
    · cases hv
    · rw [h] at hv; cases hv
  · rfl
theorem numI_big {s : List UInt8} (h : 65535 < digVal 0 s) : numI s = -1 := by
  unfold numI numW
  split
  · rename_i v hv
    split at hv
    · cases hv
    · split at hv
      · first | cases hv | (rw [if_pos h] at hv; cases hv)
      · cases hv
  · rfl
theorem numI_is {s : List UInt8} (h0 : s ≠ []) (h1 : ¬ 5 < s.length) (h2 : ¬ (s.head? = some 48 ∧ 1 < s.length)) (h3 : s.all isDig = true) (h4 : ¬ 65535 < digVal 0 s) : numI s = digVal 0 s := by
  unfold numI numW
  rw [if_neg (by rintro (h | h | h); exact h0 h; exact h1 h; exact h2 h), if_pos h3, if_neg h4]
theorem digVal_take (s : List UInt8) (k : Nat) (h : k < s.length) : digVal 0 (s.take (k + 1)) = 10 * digVal 0 (s.take k) + (s[k].toNat - 48) := by
  rw [List.take_succ_eq_append_getElem h, digVal_snoc]
theorem digVal_lt (l : List UInt8) (h : l.all isDig = true) : digVal 0 l < 10 ^ l.length := by
  induction hn : l.length generalizing l with
  | zero => rw [List.eq_nil_of_length_eq_zero hn]; decide
  | succ n ih =>
    have hne : l ≠ [] := fun e => by rw [e] at hn; simp at hn
    have hc := (List.dropLast_concat_getLast hne).symm
    generalize l.getLast hne = c at hc
    generalize l.dropLast = p at hc
    subst hc
    rw [List.all_append, Bool.and_eq_true] at h
    have hcd : 48 ≤ c.toNat ∧ c.toNat ≤ 57 := by have := h.2; simpa [isDig] using this
    have := ih p h.1 (by simpa using hn)
    rw [digVal_snoc, Nat.pow_succ]
    omega
theorem all_take_next {s : List UInt8} {k : Nat} (h : (s.take k).all isDig = true) (hk : k < s.length) (hd : isDig s[k] = true) : (s.take (k + 1)).all isDig = true := by
  rw [List.take_succ_eq_append_getElem hk, List.all_append, h]
  simp [hd]
theorem all_not {s : List UInt8} {k : Nat} (hk : k < s.length) (hd : isDig s[k] = false) : s.all isDig = false := by
  rw [List.all_eq_false]
  exact ⟨s[k], List.getElem_mem hk, by rw [hd]; simp⟩
set_option maxRecDepth 100000 in
theorem Number4_c (s : List UInt8) (w : World) :
    Calls Tryd.prog 72 #[.string ⟨s.toArray⟩] w fun e w' => e = .returned (.int .i64 (numI s)) ∧ Fr w w' := by
  have hsz := size_mk s
  cases s with
  | nil =>
    rw [numI_no (.inl rfl)]
    go_enter Tryd.func72, Tryd.ntmps72
    go_wp2
    go_ret
    exact ⟨rfl, Fr.refl _⟩
  | cons c r =>
    have hg0 : ∀ hh, ((⟨(c :: r).toArray⟩ : ByteArray)[0]'hh) = c := fun _ => rfl
    by_cases h5 : 5 < (c :: r).length
    · rw [numI_no (.inr (.inl h5))]
      have h5i : (5 : Int) < (c :: r).length := by omega
      simp only [List.length_cons] at h5i hsz
      go_enter Tryd.func72, Tryd.ntmps72
      go_wp2
      go_ret
      exact ⟨rfl, Fr.refl _⟩
    · have h5i : ¬ (5 : Int) < r.length + 1 := by simp at h5; omega
      have h1i : ¬ (r.length : Int) + 1 < 1 := by omega
      by_cases hz : (c :: r).head? = some 48 ∧ 1 < (c :: r).length
      · rw [numI_no (.inr (.inr hz))]
        have hc : c = 48 := by simpa using hz.1
        have hr : (1 : Int) < (r.length : Int) + 1 := by have := hz.2; simp at this; omega
        subst hc
        clear hz h5
        go_enter Tryd.func72, Tryd.ntmps72
        go_wp2
        go_ret
        exact ⟨rfl, Fr.refl _⟩
      · have HN := Lib.hid (fun h3 h4 => numI_is (s := c :: r) (by simp) h5 hz h3 h4)
        have HB := Lib.hid (fun h3 => numI_bad (s := c :: r) h3)
        have HG := Lib.hid (fun h3 => numI_big (s := c :: r) h3)
        have hcases : ((c.toNat : Int) == 48) = true ∧ ¬ (1 : Int) < (r.length : Int) + 1 ∨ ((c.toNat : Int) == 48) = false := by
          by_cases h48 : c.toNat = 48
          · left
            refine ⟨by simp [h48], fun h => hz ⟨?_, by simp; omega⟩⟩
            have : c = 48 := by apply UInt8.toNat_inj.1; simpa using h48
            simp [this]
          · right; simp; omega
        have hS : ∃ s, s = c :: r := ⟨_, rfl⟩
        obtain ⟨s, hS⟩ := hS
        have hln : s.length = r.length + 1 := by rw [hS]; simp
        rw [← hS] at HN HB HG hg0 hsz ⊢
        have hln5 : s.length ≤ 5 := by simp at h5; omega
        have hlni : (r.length : Int) + 1 = s.length := by omega
        rw [hlni] at hcases h5i h1i
        clear hS hz h5 hln hlni
        go_enter Tryd.func72, Tryd.ntmps72
        rcases hcases with ⟨hc1, hc2⟩ | hc1
        all_goals
          go_wp2
          go_loop [3, 4] (fun n i => ∃ k : Nat, k ≤ s.length ∧ i = .int .i64 k ∧ n = .int .i64 (digVal 0 (s.take k)) ∧ (s.take k).all isDig = true) (fun _ i => s.length - (intOf i).toNat)
          case atStart => exact ⟨0, Nat.zero_le _, rfl, rfl, rfl⟩
          case round =>
            obtain ⟨k, hk, rfl, rfl, htk⟩ := hrel
            have hv := digVal_lt _ htk
            have hv1 : digVal 0 (s.take k) < 100000 := Nat.lt_of_lt_of_le hv (Nat.le_trans (Nat.pow_le_pow_right (by omega) (show (s.take k).length ≤ 5 by simp; omega)) (by decide))
            clear hv
            by_cases hlt : k < s.length
            · obtain ⟨cc, hcc⟩ : ∃ cc, cc = s[k] := ⟨_, rfl⟩
              have hgk : ∀ hh, ((⟨s.toArray⟩ : ByteArray)[k]'hh) = cc := fun _ => hcc.symm
              have hb := cc.toNat_lt
              by_cases hd : isDig s[k] = true
              · have HT := Lib.hid (all_take_next htk hlt hd)
                have hv2 := digVal_take s k hlt
                rw [← hcc] at hv2 hd
                have HV := Lib.hid hv2
                have hd1 : 48 ≤ cc.toNat ∧ cc.toNat ≤ 57 := by simpa [isDig] using hd
                clear hv2 hcc
                obtain ⟨hd2, hd3⟩ := hd1
                have hd4 : ¬ (cc.toNat : Int) < 48 := by omega
                have hd5 : ¬ (57 : Int) < cc.toNat := by omega
                clear hd htk
                generalize digVal 0 (s.take k) = q at hv1 HV ⊢
                go_wp2
                go_round
                case rel => exact ⟨k + 1, by omega, by go_num, by rw [HV.out]; go_num, HT.out⟩
                case measure => simp [intOf]; omega
              · rw [Bool.not_eq_true] at hd
                have HA := Lib.hid (HB.out (all_not hlt hd))
                rw [← hcc] at hd
                clear hcc
                have hd1 : cc.toNat < 48 ∨ 57 < cc.toNat := by
                  simp [isDig] at hd
                  omega
                clear hd htk
                rcases hd1 with hd1 | hd1
                · have hd4 : (cc.toNat : Int) < 48 := by omega
                  go_wp2
                  go_ret
                  exact ⟨by rw [HA.out]; rfl, Fr.refl _⟩
                · have hd4 : ¬ (cc.toNat : Int) < 48 := by omega
                  have hd5 : (57 : Int) < cc.toNat := by omega
                  go_wp2
                  go_ret
                  exact ⟨by rw [HA.out]; rfl, Fr.refl _⟩
            · rw [List.take_of_length_le (by omega)] at htk hv1 ⊢
              by_cases hbig : 65535 < digVal 0 s
              · have HA := Lib.hid (HG.out hbig)
                have hbi : (65535 : Int) < digVal 0 s := by omega
                clear htk hbig
                generalize digVal 0 s = q at hv1 hbi ⊢
                go_wp2
                go_ret
                exact ⟨by rw [HA.out]; rfl, Fr.refl _⟩
              · have HA := Lib.hid (HN.out htk hbig)
                have hbi : ¬ (65535 : Int) < digVal 0 s := by omega
                clear htk hbig HN HG
                generalize digVal 0 s = q at hv1 hbi HA ⊢
                go_wp2
                go_ret
                exact ⟨by rw [HA.out]; rfl, Fr.refl _⟩
end Go.Proofs.YthaocbmkkgeomaaDoor
