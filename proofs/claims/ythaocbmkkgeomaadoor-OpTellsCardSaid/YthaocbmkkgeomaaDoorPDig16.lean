/- umpireref04.Digits, umpireref03.digits: a number's decimal numeral. No condition but the number's bounds. -/
import Derived.Test.YthaocbmkkgeomaaDoorPBase
set_option linter.all false
set_option linter.unusedVariables false
set_option linter.unusedSimpArgs false
set_option linter.unnecessarySimpa false
/- umpireref04.Digits, umpireref03.digits: a number's decimal numeral. No condition but the number's bounds. -/
namespace Go.Proofs.YthaocbmkkgeomaaDoor
open Go.RowKit

theorem dd_last {n : Nat} (h : n / 10 = 0) : [48 + UInt8.ofNat (n % 10)] = Lib.decDigits n := by
  have hn : n < 10 := by omega
  have e := Lib.decDigits_one hn
  rw [e, Nat.mod_eq_of_lt hn, UInt8.ofNat_add]; rfl
theorem dd_more {n : Nat} (h : n / 10 ≠ 0) : Lib.decDigits (n / 10) ++ [48 + UInt8.ofNat (n % 10)] = Lib.decDigits n := by
  have hn : ¬ n < 10 := by omega
  have e := decDigits_ten hn
  rw [e, UInt8.ofNat_add]; rfl
theorem Digits4_c (n0 : Nat) (w : World) (hn : n0 < 65536) :
    Calls Tryd.prog 74 #[.int .u16 n0] w fun e w' => e = .returned (.string ⟨(Lib.decDigits n0).toArray⟩) ∧ Fr w w' := by
  go_enter Tryd.func74, Tryd.ntmps74
  go_wp2
  go_loopw [0, 3] (fun a s wr => ∃ n : Nat, ∃ l : List UInt8, a = .int .u16 n ∧ s = .string ⟨l.toArray⟩ ∧ n ≤ n0 ∧ Lib.decDigits n ++ l = Lib.decDigits n0 ∧ Fr w wr) (fun a _ _ => (intOf a).toNat + 1)
  case atStart => exact ⟨n0, [], rfl, rfl, Nat.le_refl _, by simp, Fr.refl _⟩
  case round =>
    obtain ⟨n, l, rfl, rfl, hle, hl, hfr⟩ := hrel
    have hlen : 1 + l.length ≤ 9223372036854775807 := by
      have := congrArg List.length hl; simp at this; have := decDigits_len5 hn; omega
    have HL := Lib.hid hl
    clear hl
    go_wp2
    · have hq : ((n : Int) / 10 == 0) = true := by assumption
      have hq' : n / 10 = 0 := by simp at hq; omega
      go_ret
      refine ⟨?_, hfr.alloc _⟩
      rw [← HL.out, ← dd_last hq']
      exact congrArg (fun x => Ending.returned (Value.string x)) (mk_append _ _)
    · have hq : ((n : Int) / 10 == 0) = false := by assumption
      have hq' : n / 10 ≠ 0 := by simp at hq; omega
      go_roundw
      case rel => exact ⟨n / 10, (48 + UInt8.ofNat (n % 10)) :: l, by go_num, congrArg Value.string (mk_append [_] _), by omega, by rw [← HL.out, ← dd_more hq']; simp, hfr.alloc _⟩
      case measure => simp [intOf]; omega
theorem digits3_c (n0 : Nat) (w : World) (hn : n0 < 65536) :
    Calls Tryd.prog 60 #[.int .u32 n0] w fun e w' => e = .returned (.string ⟨(Lib.decDigits n0).toArray⟩) ∧ Fr w w' := by
  go_enter Tryd.func60, Tryd.ntmps60
  go_wp2
  go_loopw [0, 3] (fun a s wr => ∃ n : Nat, ∃ l : List UInt8, a = .int .u32 n ∧ s = .string ⟨l.toArray⟩ ∧ n ≤ n0 ∧ Lib.decDigits n ++ l = Lib.decDigits n0 ∧ Fr w wr) (fun a _ _ => (intOf a).toNat + 1)
  case atStart => exact ⟨n0, [], rfl, rfl, Nat.le_refl _, by simp, Fr.refl _⟩
  case round =>
    obtain ⟨n, l, rfl, rfl, hle, hl, hfr⟩ := hrel
    have hlen : 1 + l.length ≤ 9223372036854775807 := by
      have := congrArg List.length hl; simp at this; have := decDigits_len5 hn; omega
    have HL := Lib.hid hl
    clear hl
    go_wp2
    · have hq : ((n : Int) / 10 == 0) = true := by assumption
      have hq' : n / 10 = 0 := by simp at hq; omega
      go_ret
      refine ⟨?_, hfr.alloc _⟩
      rw [← HL.out, ← dd_last hq']
      exact congrArg (fun x => Ending.returned (Value.string x)) (mk_append _ _)
    · have hq : ((n : Int) / 10 == 0) = false := by assumption
      have hq' : n / 10 ≠ 0 := by simp at hq; omega
      go_roundw
      case rel => exact ⟨n / 10, (48 + UInt8.ofNat (n % 10)) :: l, by go_num, congrArg Value.string (mk_append [_] _), by omega, by rw [← HL.out, ← dd_more hq']; simp, hfr.alloc _⟩
      case measure => simp [intOf]; omega
end Go.Proofs.YthaocbmkkgeomaaDoor
