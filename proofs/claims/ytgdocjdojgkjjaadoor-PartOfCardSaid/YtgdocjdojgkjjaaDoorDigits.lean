/- umpireref13.Digits: a number's decimal numeral, of any number from 0 on. -/
import Derived.Test.YtgdocjdojgkjjaaDoorStr
import Derived.Lib.ItoaNum
import Derived.Lib.ItoaMem
import Derived.Lib.ItoaLen
namespace Go.Proofs.YtgdocjdojgkjjaaDoor
open Go.RowKit

theorem decDigits_len (n : Nat) (hn : n ≤ 9223372036854775807) : (Lib.decDigits n).length ≤ 21 := by
  rw [← Lib.itoa_nonneg]; exact Lib.itoa_length_le _ (by omega) (by omega)
theorem decDigits_last {n : Nat} (h : n / 10 = 0) : [48 + UInt8.ofNat (n % 10)] = Lib.decDigits n := by
  have hn : n < 10 := by omega
  rw [Lib.decDigits_one hn, Nat.mod_eq_of_lt hn, UInt8.ofNat_add]; rfl
theorem decDigits_more {n : Nat} (h : n / 10 ≠ 0) : Lib.decDigits (n / 10) ++ [48 + UInt8.ofNat (n % 10)] = Lib.decDigits n := by
  have hn : ¬ n < 10 := by omega
  rw [Lib.decDigits.eq_1 n, dif_neg hn, UInt8.ofNat_add]; rfl

theorem Digits_c (n0 : Nat) (w : World) (hn : n0 ≤ 9223372036854775807) :
    Calls Tryd.prog 15 #[.int .i64 n0] w fun e w' => e = .returned (.string ⟨(Lib.decDigits n0).toArray⟩) ∧ Fr w w' := by
  go_enter Tryd.func15, Tryd.ntmps15
  go_wp2
  go_loopw [0, 3] (fun a s wr => ∃ n : Nat, ∃ l : List UInt8, a = .int .i64 n ∧ s = .string ⟨l.toArray⟩ ∧ n ≤ n0 ∧ Lib.decDigits n ++ l = Lib.decDigits n0 ∧ Fr w wr) (fun a _ _ => (intOf a).toNat + 1)
  case atStart => exact ⟨n0, [], rfl, rfl, Nat.le_refl _, by simp, Fr.refl _⟩
  case round =>
    obtain ⟨n, l, rfl, rfl, hle, hl, hfr⟩ := hrel
    have hlen : 1 + l.length ≤ 9223372036854775807 := by
      have := congrArg List.length hl; simp at this; have := decDigits_len n0 hn; omega
    have HL := Lib.hid hl
    clear hl
    go_wp2
    · have hq : ((n : Int) / 10 == 0) = true := by assumption
      have hq' : n / 10 = 0 := by simp at hq; omega
      go_ret
      refine ⟨?_, hfr.alloc _⟩
      rw [← HL.out, ← decDigits_last hq']
      exact congrArg (fun x => Ending.returned (Value.string x)) (mk_append _ _)
    · have hq : ((n : Int) / 10 == 0) = false := by assumption
      have hq' : n / 10 ≠ 0 := by simp at hq; omega
      go_roundw
      case rel => exact ⟨n / 10, (48 + UInt8.ofNat (n % 10)) :: l, by go_num, congrArg Value.string (mk_append [_] _), by omega, by rw [← HL.out, ← decDigits_more hq']; simp, hfr.alloc _⟩
      case measure => simp [intOf]; omega
end Go.Proofs.YtgdocjdojgkjjaaDoor
