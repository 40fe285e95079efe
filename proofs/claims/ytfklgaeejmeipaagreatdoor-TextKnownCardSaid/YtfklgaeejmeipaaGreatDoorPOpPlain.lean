/- Operations as bytes: what is written is read as the operation, what is read has these bytes: plain. -/
import Derived.Test.YtfklgaeejmeipaaGreatDoorPOpTake
set_option linter.all false
set_option linter.unusedVariables false
set_option linter.unusedSimpArgs false
set_option linter.unnecessarySimpa false
/- Operations as bytes: what is written is read as the operation, what is read has these bytes: plain. -/
namespace Go.Proofs.YtfklgaeejmeipaaGreatDoor
open Go.RowKit

theorem ofBe_take_lt' (r : List UInt8) (n : Nat) : ofBe (r.take n) < 256 ^ n :=
  Nat.lt_of_lt_of_le (ofBe_lt _) (Nat.pow_le_pow_right (by omega) (by simp; omega))
theorem tk_lt {n : Nat} {b : Bool} {r r' : List UInt8} {v : Nat} (h : tk n b r = some (v, r')) : v < 256 ^ n := by
  unfold tk at h
  split at h
  · split at h
    · cases h
    · cases h; exact ofBe_take_lt' r n
  · cases h; exact Nat.pos_pow_of_pos' n
where
  Nat.pos_pow_of_pos' (n : Nat) : 0 < 256 ^ n := Nat.pow_pos (by omega)
/-- An operation's bounds. -/
structure OpD.Ok (x : OpD) : Prop where
  F : x.F < 256
  O : x.O < 256
  K : x.K < 256
  A : x.A < 65536
  B : x.B < 65536
theorem OpD.zero_ok : OpD.zero.Ok := ⟨by decide, by decide, by decide, by decide, by decide⟩
theorem takeOp_ok : ∀ s : List UInt8, (takeOp s).1.Ok
  | [] => OpD.zero_ok
  | f :: s => by
    rw [takeOp]
    split
    · exact OpD.zero_ok
    · cases h1 : tk 1 true s with
      | none => exact OpD.zero_ok
      | some v1 =>
        obtain ⟨O, r1⟩ := v1
        simp only
        cases h2 : tk 1 (hasK f.toNat) r1 with
        | none => exact OpD.zero_ok
        | some v2 =>
          obtain ⟨K, r2⟩ := v2
          simp only
          cases h3 : tk 2 (hasA f.toNat) r2 with
          | none => exact OpD.zero_ok
          | some v3 =>
            obtain ⟨A, r3⟩ := v3
            simp only
            cases h4 : tk 2 (hasB f.toNat) r3 with
            | none => exact OpD.zero_ok
            | some v4 =>
              obtain ⟨B, r4⟩ := v4
              simp only
              split
              · exact ⟨f.toNat_lt, by simpa using tk_lt h1, by simpa using tk_lt h2, by simpa using tk_lt h3, by simpa using tk_lt h4⟩
              · exact OpD.zero_ok
theorem be_one' (n : Nat) : be n 1 = [UInt8.ofNat n] := by simp [be]
theorem be_two' (n : Nat) : be n 2 = [UInt8.ofNat (n / 256), UInt8.ofNat n] := by simp [be]
theorem ofBe_be (k n : Nat) (h : n < 256 ^ k) : ofBe (be n k) = n := by
  induction k generalizing n with
  | zero => simp at h; subst h; rfl
  | succ k ih =>
    rw [be, ofBe_snoc, ih (n / 256) (by rw [Nat.pow_succ] at h; omega)]
    have : (UInt8.ofNat n).toNat = n % 256 := by simp
    omega
/-- An operation's bytes behind its first one. -/
def opTail (x : OpD) : List UInt8 := UInt8.ofNat x.O :: ((if hasK x.F then [UInt8.ofNat x.K] else []) ++ ((if hasA x.F then be x.A 2 else []) ++ (if hasB x.F then be x.B 2 else [])))
theorem opBytes_tail (x : OpD) : opBytes x.F x.O x.K x.A x.B = UInt8.ofNat x.F :: opTail x := by simp [opBytes, opTail, List.append_assoc]
theorem tk_whole (n : Nat) (b : Bool) (v : Nat) (r : List UInt8) (hv : v < 256 ^ n) (hz : b = false → v = 0) : tk n b ((if b then be v n else []) ++ r) = some (v, r) := by
  unfold tk
  cases b with
  | false => simp [hz rfl]
  | true =>
    simp only [if_true]
    rw [if_neg (by simp [be_len]), List.take_left' (be_len v n), List.drop_left' (be_len v n), ofBe_be n v hv]
theorem tk_torn (n : Nat) (b : Bool) (v : Nat) (c d : List UInt8) (hb : (if b then be v n else []) = c ++ d) (hd : d ≠ []) : tk n b c = none := by
  have hd2 : 0 < d.length := List.length_pos_iff.2 hd
  have hl := congrArg List.length hb
  cases b with
  | false => simp at hl; omega
  | true =>
    simp [be_len] at hl
    unfold tk
    simp only [if_true]
    rw [if_pos (by omega)]
theorem pre_split {α : Type} {b1 b2 c d : List α} (hb : b1 ++ b2 = c ++ d) (hd : d ≠ []) : (∃ d1, d1 ≠ [] ∧ b1 = c ++ d1) ∨ ∃ c2, c = b1 ++ c2 ∧ b2 = c2 ++ d := by
  by_cases hl : c.length < b1.length
  · left
    refine ⟨b1.drop c.length, fun e => by have := congrArg List.length e; simp at this; omega, ?_⟩
    have h3 : b1.take c.length = c := by
      have h := congrArg (List.take c.length) hb
      rw [List.take_append_of_le_length (by omega), List.take_left' rfl] at h
      exact h
    conv => lhs; rw [← List.take_append_drop c.length b1]
    rw [h3]
  · right
    refine ⟨c.drop b1.length, ?_, ?_⟩
    · have h3 : b1 = c.take b1.length := by
        have h := congrArg (List.take b1.length) hb
        rw [List.take_left' rfl, List.take_append_of_le_length (by omega)] at h
        exact h
      conv => lhs; rw [← List.take_append_drop b1.length c]
      rw [← h3]
    · have h := congrArg (List.drop b1.length) hb
      rw [List.drop_left' rfl, List.drop_append_of_le_length (by omega)] at h
      exact h
theorem may_facts {x : OpD} (hm : x.may = true) : 1 ≤ x.F ∧ x.F ≤ 11 ∧ x.O < 8 ∧ x.K < 8 ∧ (hasK x.F = false → x.K = 0) ∧ (hasA x.F = false → x.A = 0) ∧ (hasB x.F = false → x.B = 0) := by
  unfold OpD.may mayB at hm
  simp only [Bool.and_eq_true, decide_eq_true_eq, Bool.or_eq_true, beq_iff_eq] at hm
  obtain ⟨⟨⟨⟨⟨⟨h1, h2⟩, h3⟩, h4⟩, h5⟩, h6⟩, h7⟩ := hm
  refine ⟨by omega, by omega, by omega, by omega, fun h => ?_, fun h => ?_, fun h => ?_⟩
  · rcases h5 with h5 | h5
    · rw [h] at h5; cases h5
    · omega
  · rcases h6 with h6 | h6
    · rw [h] at h6; cases h6
    · omega
  · rcases h7 with h7 | h7
    · rw [h] at h7; cases h7
    · omega
theorem takeOp_whole (x : OpD) (ok : x.Ok) (hm : x.may = true) : takeOp (opBytes x.F x.O x.K x.A x.B) = (x, [], 0) := by
  obtain ⟨h1, h2, h3, h4, h5, h6, h7⟩ := may_facts hm
  rw [opBytes_tail, takeOp]
  have hF : (UInt8.ofNat x.F).toNat = x.F := by simp; omega
  rw [hF, if_neg (by omega)]
  have e1 := tk_whole 1 true x.O ((if hasK x.F then [UInt8.ofNat x.K] else []) ++ ((if hasA x.F then be x.A 2 else []) ++ (if hasB x.F then be x.B 2 else []))) (by omega) (fun h => by cases h)
  have e2 := tk_whole 1 (hasK x.F) x.K ((if hasA x.F then be x.A 2 else []) ++ (if hasB x.F then be x.B 2 else [])) (by omega) h5
  have e3 := tk_whole 2 (hasA x.F) x.A (if hasB x.F then be x.B 2 else []) ok.A h6
  have e4 := tk_whole 2 (hasB x.F) x.B [] ok.B h7
  rw [be_one'] at e1 e2
  simp only [if_true, List.cons_append, List.nil_append, List.append_nil] at e1 e4
  unfold opTail
  rw [e1]
  simp only [e2, e3, e4]
  rw [if_pos hm]
theorem takeOp_pre (x : OpD) (ok : x.Ok) (hm : x.may = true) (c d : List UInt8) (hb : opBytes x.F x.O x.K x.A x.B = c ++ d) (hd : d ≠ []) : takeOp c = (.zero, [], 5) := by
  obtain ⟨h1, h2, h3, h4, h5, h6, h7⟩ := may_facts hm
  rw [opBytes_tail] at hb
  cases c with
  | nil => rfl
  | cons f c =>
    simp only [List.cons_append, List.cons.injEq] at hb
    obtain ⟨rfl, hb⟩ := hb
    rw [takeOp]
    have hF : (UInt8.ofNat x.F).toNat = x.F := by simp; omega
    rw [hF, if_neg (by omega)]
    unfold opTail at hb
    rw [show UInt8.ofNat x.O :: ((if hasK x.F then [UInt8.ofNat x.K] else []) ++ ((if hasA x.F then be x.A 2 else []) ++ (if hasB x.F then be x.B 2 else []))) = (if true then be x.O 1 else []) ++ ((if hasK x.F then be x.K 1 else []) ++ ((if hasA x.F then be x.A 2 else []) ++ ((if hasB x.F then be x.B 2 else []) ++ []))) by simp [be_one']] at hb
    rcases pre_split hb hd with ⟨d1, hd1, hb1⟩ | ⟨c2, hc2, hb2⟩
    · rw [tk_torn 1 true x.O c d1 hb1 hd1]
    · subst hc2
      rw [tk_whole 1 true x.O c2 (by omega) (fun h => by cases h)]
      simp only
      rcases pre_split hb2 hd with ⟨d1, hd1, hb1⟩ | ⟨c3, hc3, hb3⟩
      · rw [tk_torn 1 (hasK x.F) x.K c2 d1 hb1 hd1]
      · subst hc3
        rw [tk_whole 1 (hasK x.F) x.K c3 (by omega) h5]
        simp only
        rcases pre_split hb3 hd with ⟨d1, hd1, hb1⟩ | ⟨c4, hc4, hb4⟩
        · rw [tk_torn 2 (hasA x.F) x.A c3 d1 hb1 hd1]
        · subst hc4
          rw [tk_whole 2 (hasA x.F) x.A c4 ok.A h6]
          simp only
          rcases pre_split hb4 hd with ⟨d1, hd1, hb1⟩ | ⟨c5, hc5, hb5⟩
          · rw [tk_torn 2 (hasB x.F) x.B c4 d1 hb1 hd1]
          · have := congrArg List.length hb5
            have h2 : 0 < d.length := List.length_pos_iff.2 hd
            simp at this
            omega
theorem takeOp_more (x : OpD) (ok : x.Ok) (hm : x.may = true) (s : List UInt8) : takeOp (opBytes x.F x.O x.K x.A x.B ++ s) = (x, s, 0) := by
  obtain ⟨h1, h2, h3, h4, h5, h6, h7⟩ := may_facts hm
  rw [opBytes_tail, List.cons_append, takeOp]
  have hF : (UInt8.ofNat x.F).toNat = x.F := by simp; omega
  rw [hF, if_neg (by omega)]
  have e1 := tk_whole 1 true x.O ((if hasK x.F then [UInt8.ofNat x.K] else []) ++ ((if hasA x.F then be x.A 2 else []) ++ ((if hasB x.F then be x.B 2 else []) ++ s))) (by omega) (fun h => by cases h)
  have e2 := tk_whole 1 (hasK x.F) x.K ((if hasA x.F then be x.A 2 else []) ++ ((if hasB x.F then be x.B 2 else []) ++ s)) (by omega) h5
  have e3 := tk_whole 2 (hasA x.F) x.A ((if hasB x.F then be x.B 2 else []) ++ s) ok.A h6
  have e4 := tk_whole 2 (hasB x.F) x.B s ok.B h7
  rw [be_one'] at e1 e2
  simp only [if_true, List.cons_append, List.nil_append] at e1
  unfold opTail
  simp only [List.cons_append, List.append_assoc]
  rw [e1]
  simp only [e2, e3, e4]
  rw [if_pos hm]
theorem be_ofBe (l : List UInt8) (n : Nat) (h : l.length = n) : be (ofBe l) n = l := by
  induction n generalizing l with
  | zero => rw [List.eq_nil_of_length_eq_zero h]; rfl
  | succ n ih =>
    have hne : l ≠ [] := fun e => by rw [e] at h; simp at h
    rw [← List.dropLast_concat_getLast hne, be, ofBe_snoc]
    have hl : (l.getLast hne).toNat < 256 := UInt8.toNat_lt _
    have h1 : (ofBe l.dropLast * 256 + (l.getLast hne).toNat) / 256 = ofBe l.dropLast := by omega
    have h2 : UInt8.ofNat (ofBe l.dropLast * 256 + (l.getLast hne).toNat) = l.getLast hne := by
      apply UInt8.toNat_inj.1
      simp
    rw [h1, h2, ih _ (by simp [h])]
theorem tk_back {n : Nat} {b : Bool} {r r' : List UInt8} {v : Nat} (h : tk n b r = some (v, r')) : r = (if b then be v n else []) ++ r' ∧ (b = false → v = 0) := by
  unfold tk at h
  cases b with
  | false => simp at h; obtain ⟨rfl, rfl⟩ := h; simp
  | true =>
    simp only [if_true] at h ⊢
    split at h
    · cases h
    · rename_i h1
      cases h
      refine ⟨?_, fun h => by cases h⟩
      rw [be_ofBe _ n (by simp; omega), List.take_append_drop]
/-- What is read of bytes has these bytes. -/
theorem takeOp_back {s : List UInt8} {x : OpD} {r : List UInt8} (h : takeOp s = (x, r, 0)) : x.may = true ∧ s = opBytes x.F x.O x.K x.A x.B ++ r := by
  cases s with
  | nil => cases h
  | cons f s =>
    rw [takeOp] at h
    split at h
    · cases h
    · split at h
      · cases h
      · rename_i O r1 h1
        split at h
        · cases h
        · rename_i K r2 h2
          split at h
          · cases h
          · rename_i A r3 h3
            split at h
            · cases h
            · rename_i B r4 h4
              split at h
              · rename_i hm
                cases h
                refine ⟨hm, ?_⟩
                obtain ⟨e1, _⟩ := tk_back h1
                obtain ⟨e2, _⟩ := tk_back h2
                obtain ⟨e3, _⟩ := tk_back h3
                obtain ⟨e4, _⟩ := tk_back h4
                rw [opBytes_tail, List.cons_append, e1, e2, e3, e4]
                have hF : UInt8.ofNat f.toNat = f := by simp
                simp [opTail, hF, be_one']
              · cases h
/-- What is none: nothing is told. -/
theorem takeOp_none {s : List UInt8} {x : OpD} {r : List UInt8} {e : Nat} (h : takeOp s = (x, r, e)) (he : e ≠ 0) : x = .zero ∧ r = [] := by
  cases s with
  | nil => cases h; exact ⟨rfl, rfl⟩
  | cons f s =>
    rw [takeOp] at h
    repeat (first | (split at h) | (cases h; first | exact ⟨rfl, rfl⟩ | exact absurd rfl he))
end Go.Proofs.YtfklgaeejmeipaaGreatDoor
