/- Decimal numerals: what is read of one is the number, and what is read as a number, in as few digits as it has, is its numeral: plain. -/
import Derived.Test.YtfklgaeejmeipaaGreatDoorPBase
import Derived.Lib.ItoaNum
import Derived.Lib.ItoaMem
import Derived.Lib.ItoaLen
import Derived.Lib.ParseIntB
set_option linter.all false
set_option linter.unusedVariables false
set_option linter.unusedSimpArgs false
set_option linter.unnecessarySimpa false
/- Decimal numerals: what is read of one is the number, and what is read as a number, in as few digits as it has, is its numeral: plain. -/
namespace Go.Proofs.YtfklgaeejmeipaaGreatDoor
open Go.RowKit

theorem decDigits_ten {v : Nat} (h : ¬ v < 10) : Lib.decDigits v = Lib.decDigits (v / 10) ++ [UInt8.ofNat (48 + v % 10)] := by
  rw [Lib.decDigits.eq_1 v, dif_neg h]
theorem digit_nat {d : Nat} (h : d < 10) : (UInt8.ofNat (48 + d)).toNat = 48 + d := by simp; omega
/-- What a row of digits spells. -/
def digVal (acc : Nat) : List UInt8 → Nat
  | [] => acc
  | c :: r => digVal (10 * acc + (c.toNat - 48)) r
def isDig (c : UInt8) : Bool := decide (48 ≤ c.toNat) && decide (c.toNat ≤ 57)
theorem digVal_snoc (acc : Nat) (l : List UInt8) (c : UInt8) : digVal acc (l ++ [c]) = 10 * digVal acc l + (c.toNat - 48) := by
  induction l generalizing acc with
  | nil => rfl
  | cons a l ih => exact ih _
theorem decDigits_val (v : Nat) : digVal 0 (Lib.decDigits v) = v ∧ (Lib.decDigits v).all isDig = true := by
  induction v using Nat.strongRecOn with
  | _ v ih =>
    by_cases h : v < 10
    · have e := Lib.decDigits_one h
      generalize Lib.decDigits v = l at e
      subst e
      have hd := digit_nat h
      generalize UInt8.ofNat (48 + v) = c at hd
      refine ⟨?_, ?_⟩
      · show 10 * 0 + (c.toNat - 48) = v
        omega
      · show (isDig c && true) = true
        unfold isDig
        simp
        omega
    · obtain ⟨h1, h2⟩ := ih (v / 10) (by omega)
      have hd := digit_nat (show v % 10 < 10 by omega)
      rw [decDigits_ten h, digVal_snoc, h1, List.all_append, h2]
      generalize UInt8.ofNat (48 + v % 10) = c at hd
      refine ⟨by omega, ?_⟩
      show (true && (isDig c && true)) = true
      unfold isDig
      simp
      omega
theorem decDigits_ne (v : Nat) : Lib.decDigits v ≠ [] := by
  by_cases h : v < 10
  · rw [Lib.decDigits_one h]; simp
  · rw [decDigits_ten h]; simp
/-- The first digit is 0 of 0 alone. -/
theorem decDigits_head (v : Nat) : (Lib.decDigits v).head? = some 48 → v = 0 := by
  induction v using Nat.strongRecOn with
  | _ v ih =>
    intro hh
    by_cases h : v < 10
    · rw [Lib.decDigits_one h] at hh
      have := congrArg UInt8.toNat (Option.some.inj hh)
      rw [digit_nat h] at this
      simp at this
      omega
    · rw [decDigits_ten h] at hh
      have hne := decDigits_ne (v / 10)
      have h1 : (Lib.decDigits (v / 10)).head? = some 48 := by
        revert hh hne
        generalize Lib.decDigits (v / 10) = l
        cases l with
        | nil => simp
        | cons a l => simp
      have := ih (v / 10) (by omega) h1
      omega
theorem digVal_pos {l : List UInt8} {acc : Nat} (h : 0 < acc) : 0 < digVal acc l := by
  induction l generalizing acc with
  | nil => exact h
  | cons c l ih => exact ih (by omega)
/-- A row of digits without a needless 0 is the numeral of what it spells. -/
theorem decDigits_of : ∀ (n : Nat) (l : List UInt8), l.length = n → l ≠ [] → l.all isDig = true → (l.head? = some 48 → l.length = 1) → Lib.decDigits (digVal 0 l) = l
  | 0, l, hn, hne, _, _ => absurd (List.eq_nil_of_length_eq_zero hn) hne
  | n + 1, l, hn, hne, hd, hz => by
    obtain ⟨c, hc⟩ : ∃ c, l = l.dropLast ++ [c] := ⟨l.getLast hne, (List.dropLast_concat_getLast hne).symm⟩
    generalize l.dropLast = p at hc
    subst hc
    rw [List.all_append, Bool.and_eq_true] at hd
    have hcd : 48 ≤ c.toNat ∧ c.toNat ≤ 57 := by have := hd.2; simpa [isDig] using this
    rw [digVal_snoc]
    by_cases hp : p = []
    · subst hp
      have hv : 10 * digVal 0 [] + (c.toNat - 48) = c.toNat - 48 := by
        show 10 * 0 + (c.toNat - 48) = c.toNat - 48
        omega
      have h10 : c.toNat - 48 < 10 := by omega
      rw [hv]
      have e := Lib.decDigits_one h10
      rw [e]
      have hd := digit_nat h10
      generalize UInt8.ofNat (48 + (c.toNat - 48)) = q at hd
      have hq : q = c := by apply UInt8.toNat_inj.1; rw [hd]; omega
      rw [hq]
      rfl
    · have hh : p.head? ≠ some 48 := by
        intro e
        have : (p ++ [c]).head? = some 48 := by
          cases p with
          | nil => exact absurd rfl hp
          | cons a p => simpa using e
        have := hz this
        simp at this
        exact hp this
      have hpos : 0 < digVal 0 p := by
        cases p with
        | nil => exact absurd rfl hp
        | cons a p =>
          have ha : 48 ≤ a.toNat ∧ a.toNat ≤ 57 := by
            have := hd.1
            simp only [List.all_cons, Bool.and_eq_true] at this
            simpa [isDig] using this.1
          have hne48 : a.toNat ≠ 48 := by
            intro e
            apply hh
            have : a = 48 := by apply UInt8.toNat_inj.1; simpa using e
            simp [this]
          show 0 < digVal (10 * 0 + (a.toNat - 48)) p
          exact digVal_pos (by omega)
      have ih := decDigits_of n p (by simp at hn; exact hn) hp hd.1 (fun e => absurd e hh)
      have h10 : ¬ 10 * digVal 0 p + (c.toNat - 48) < 10 := by omega
      rw [decDigits_ten h10, show (10 * digVal 0 p + (c.toNat - 48)) / 10 = digVal 0 p by omega, ih, show (10 * digVal 0 p + (c.toNat - 48)) % 10 = c.toNat - 48 by omega]
      have hd := digit_nat (show c.toNat - 48 < 10 by omega)
      generalize UInt8.ofNat (48 + (c.toNat - 48)) = q at hd
      have hq : q = c := by apply UInt8.toNat_inj.1; rw [hd]; omega
      rw [hq]
theorem decDigits_inj {a b : Nat} (h : Lib.decDigits a = Lib.decDigits b) : a = b := by
  have h1 := (decDigits_val a).1
  rw [h, (decDigits_val b).1] at h1
  exact h1.symm
theorem decDigits_len5 {v : Nat} (h : v < 65536) : (Lib.decDigits v).length ≤ 5 := by
  rw [Lib.decDigits_length]
  by_cases h1 : v < 10
  · rw [Lib.nDigits_small h1]; omega
  rw [Lib.nDigits_big h1]
  by_cases h2 : v / 10 < 10
  · rw [Lib.nDigits_small h2]; omega
  rw [Lib.nDigits_big h2]
  by_cases h3 : v / 10 / 10 < 10
  · rw [Lib.nDigits_small h3]; omega
  rw [Lib.nDigits_big h3]
  by_cases h4 : v / 10 / 10 / 10 < 10
  · rw [Lib.nDigits_small h4]; omega
  rw [Lib.nDigits_big h4, Lib.nDigits_small (by omega)]
  omega

/-- The number that strconv.ParseUint hands back at 16 bits. -/
def num16 (s : List UInt8) : Nat := match Lib.parseUintB 16 s with | .ok u => u | .range => 65535 | _ => 0
theorem parseM_snoc (M acc : Nat) (l : List UInt8) (c : UInt8) {u : Nat} (h : Lib.parseUintM M acc l = .ok u) : Lib.parseUintM M acc (l ++ [c]) = Lib.parseUintM M u [c] := by
  induction l generalizing acc with
  | nil =>
    have : acc = u := by simpa [Lib.parseUintM] using h
    rw [← this]; rfl
  | cons a l ih =>
    rw [List.cons_append, Lib.parseUintM]
    rw [Lib.parseUintM] at h
    split at h
    · rename_i h1
      rw [if_pos h1]
      split at h
      · cases h
      · rename_i h2
        rw [if_neg h2]
        split at h
        · cases h
        · rename_i h3
          rw [if_neg h3]
          exact ih _ h
    · cases h
theorem parseM_dec (v : Nat) (h : v < 65536) : Lib.parseUintM 65535 0 (Lib.decDigits v) = .ok v := by
  induction v using Nat.strongRecOn with
  | _ v ih =>
    by_cases h1 : v < 10
    · have hd := digit_nat h1
      rw [Lib.decDigits_one h1, Lib.parseUintM, hd, if_pos (by omega), if_neg (by omega), if_neg (by omega), Lib.parseUintM]
      congr 1
      omega
    · have h2 := ih (v / 10) (by omega) (by omega)
      have hd := digit_nat (show v % 10 < 10 by omega)
      rw [decDigits_ten h1, parseM_snoc _ _ _ _ h2, Lib.parseUintM, hd, if_pos (by omega), if_neg (by omega), if_neg (by omega), Lib.parseUintM]
      congr 1
      omega
theorem parse16_dec (v : Nat) (h : v < 65536) : Lib.parseUintB 16 (Lib.decDigits v) = .ok v := by
  unfold Lib.parseUintB
  rw [if_neg (decDigits_ne v)]
  exact parseM_dec v h
theorem num16_dec (v : Nat) (h : v < 65536) : num16 (Lib.decDigits v) = v := by
  unfold num16
  rw [parse16_dec v h]
theorem parseM_le (M acc : Nat) (l : List UInt8) {u : Nat} (ha : acc ≤ M) (h : Lib.parseUintM M acc l = .ok u) : u ≤ M := by
  induction l generalizing acc with
  | nil =>
    have : acc = u := by simpa [Lib.parseUintM] using h
    omega
  | cons a l ih =>
    rw [Lib.parseUintM] at h
    split at h
    · split at h
      · cases h
      · split at h
        · cases h
        · rename_i h3
          exact ih _ (by omega) h
    · cases h
theorem num16_lt (s : List UInt8) : num16 s < 65536 := by
  unfold num16
  split
  · rename_i u h
    unfold Lib.parseUintB at h
    split at h
    · cases h
    · have := parseM_le _ _ _ (by omega) h
      omega
  · omega
  · omega
/-- A word's number, of 0 to 65535, in as few digits as it has. -/
def numW (s : List UInt8) : Option Nat :=
  if s = [] ∨ 5 < s.length ∨ (s.head? = some 48 ∧ 1 < s.length) then none else if s.all isDig then if 65535 < digVal 0 s then none else some (digVal 0 s) else none
theorem numW_some {s : List UInt8} {v : Nat} : numW s = some v ↔ v < 65536 ∧ s = Lib.decDigits v := by
  constructor
  · intro h
    unfold numW at h
    split at h
    · cases h
    · rename_i h1
      split at h
      · rename_i h2
        split at h
        · cases h
        · rename_i h3
          have hv : digVal 0 s = v := Option.some.inj h
          refine ⟨by omega, ?_⟩
          rw [← hv]
          refine (decDigits_of _ s rfl (fun e => h1 (.inl e)) h2 (fun e => ?_)).symm
          have h4 : ¬ 1 < s.length := fun h5 => h1 (.inr (.inr ⟨e, h5⟩))
          have h5 : s ≠ [] := fun e => h1 (.inl e)
          have := List.length_pos_iff.2 h5
          omega
      · cases h
  · rintro ⟨hv, rfl⟩
    have h5 := decDigits_len5 hv
    have hne := decDigits_ne v
    obtain ⟨h1, h2⟩ := decDigits_val v
    unfold numW
    rw [if_neg ?_, if_pos h2, h1, if_neg (by omega)]
    rintro (h | h | ⟨h, h6⟩)
    · exact hne h
    · omega
    · have := decDigits_head v h
      subst this
      rw [Lib.decDigits_one (by omega)] at h6
      simp at h6
end Go.Proofs.YtfklgaeejmeipaaGreatDoor

/- umpireref04.Digits, umpireref03.digits: a number's decimal numeral. No condition but the number's bounds. -/
namespace Go.Proofs.YtfklgaeejmeipaaGreatDoor
open Go.RowKit

theorem dd_last {n : Nat} (h : n / 10 = 0) : [48 + UInt8.ofNat (n % 10)] = Lib.decDigits n := by
  have hn : n < 10 := by omega
  have e := Lib.decDigits_one hn
  rw [e, Nat.mod_eq_of_lt hn, UInt8.ofNat_add]; rfl
theorem dd_more {n : Nat} (h : n / 10 ≠ 0) : Lib.decDigits (n / 10) ++ [48 + UInt8.ofNat (n % 10)] = Lib.decDigits n := by
  have hn : ¬ n < 10 := by omega
  have e := decDigits_ten hn
  rw [e, UInt8.ofNat_add]; rfl
theorem Digits4_c (n0 : Nat) (w : World) (hn : n0 < 65536) :
    Calls Tryz.prog 73 #[.int .u16 n0] w fun e w' => e = .returned (.string ⟨(Lib.decDigits n0).toArray⟩) ∧ Fr w w' := by
  go_enter Tryz.func73, Tryz.ntmps73
  go_wp2
  go_loopw [0, 3] (fun a s wr => ∃ n : Nat, ∃ l : List UInt8, a = .int .u16 n ∧ s = .string ⟨l.toArray⟩ ∧ n ≤ n0 ∧ Lib.decDigits n ++ l = Lib.decDigits n0 ∧ Fr w wr) (fun a _ _ => (intOf a).toNat + 1)
  case atStart => exact ⟨n0, [], rfl, rfl, Nat.le_refl _, by simp, Fr.refl _⟩
  case round =>
    obtain ⟨n, l, rfl, rfl, hle, hl, hfr⟩ := hrel
    have hlen : 1 + l.length ≤ 9223372036854775807 := by
      have := congrArg List.length hl; simp at this; have := decDigits_len5 hn; omega
    have HL := Lib.hid hl
    clear hl
    go_wp2
    · have hq : ((n : Int) / 10 == 0) = true := by assumption
      have hq' : n / 10 = 0 := by simp at hq; omega
      go_ret
      refine ⟨?_, hfr.alloc _⟩
      rw [← HL.out, ← dd_last hq']
      exact congrArg (fun x => Ending.returned (Value.string x)) (mk_append _ _)
    · have hq : ((n : Int) / 10 == 0) = false := by assumption
      have hq' : n / 10 ≠ 0 := by simp at hq; omega
      go_roundw
      case rel => exact ⟨n / 10, (48 + UInt8.ofNat (n % 10)) :: l, by go_num, congrArg Value.string (mk_append [_] _), by omega, by rw [← HL.out, ← dd_more hq']; simp, hfr.alloc _⟩
      case measure => simp [intOf]; omega
theorem digits3_c (n0 : Nat) (w : World) (hn : n0 < 65536) :
    Calls Tryz.prog 74 #[.int .u32 n0] w fun e w' => e = .returned (.string ⟨(Lib.decDigits n0).toArray⟩) ∧ Fr w w' := by
  go_enter Tryz.func74, Tryz.ntmps74
  go_wp2
  go_loopw [0, 3] (fun a s wr => ∃ n : Nat, ∃ l : List UInt8, a = .int .u32 n ∧ s = .string ⟨l.toArray⟩ ∧ n ≤ n0 ∧ Lib.decDigits n ++ l = Lib.decDigits n0 ∧ Fr w wr) (fun a _ _ => (intOf a).toNat + 1)
  case atStart => exact ⟨n0, [], rfl, rfl, Nat.le_refl _, by simp, Fr.refl _⟩
  case round =>
    obtain ⟨n, l, rfl, rfl, hle, hl, hfr⟩ := hrel
    have hlen : 1 + l.length ≤ 9223372036854775807 := by
      have := congrArg List.length hl; simp at this; have := decDigits_len5 hn; omega
    have HL := Lib.hid hl
    clear hl
    go_wp2
    · have hq : ((n : Int) / 10 == 0) = true := by assumption
      have hq' : n / 10 = 0 := by simp at hq; omega
      go_ret
      refine ⟨?_, hfr.alloc _⟩
      rw [← HL.out, ← dd_last hq']
      exact congrArg (fun x => Ending.returned (Value.string x)) (mk_append _ _)
    · have hq : ((n : Int) / 10 == 0) = false := by assumption
      have hq' : n / 10 ≠ 0 := by simp at hq; omega
      go_roundw
      case rel => exact ⟨n / 10, (48 + UInt8.ofNat (n % 10)) :: l, by go_num, congrArg Value.string (mk_append [_] _), by omega, by rw [← HL.out, ← dd_more hq']; simp, hfr.alloc _⟩
      case measure => simp [intOf]; omega
end Go.Proofs.YtfklgaeejmeipaaGreatDoor
