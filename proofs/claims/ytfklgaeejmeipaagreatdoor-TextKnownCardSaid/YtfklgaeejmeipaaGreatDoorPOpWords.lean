/- Operations as words: what is written is parsed as the operation, what is parsed has these words: plain. -/
import Derived.Test.YtfklgaeejmeipaaGreatDoorPOpPlain
import Derived.Test.YtfklgaeejmeipaaGreatDoorPNum
set_option linter.all false
set_option linter.unusedVariables false
set_option linter.unusedSimpArgs false
set_option linter.unnecessarySimpa false
/- Operations as words: what is written is parsed as the operation, what is parsed has these words: plain. -/
namespace Go.Proofs.YtfklgaeejmeipaaGreatDoor
open Go.RowKit

def wordsOf (x : OpD) : List (List UInt8) := Lib.decDigits x.O :: kName x.F :: ((if hasK x.F then [Lib.decDigits x.K] else []) ++ ((if hasA x.F then [Lib.decDigits x.A] else []) ++ (if hasB x.F then [Lib.decDigits x.B] else [])))
def OpD.words (x : OpD) : List (List UInt8) := if x.may then wordsOf x else []
/-- The last of the first k operations with that name; 0: none. -/
def lastF (w : List UInt8) : Nat → Nat
  | 0 => 0
  | k + 1 => if 0 < k ∧ kName k = w then k else lastF w k
/-- A number out of the next word, if it is needed. -/
def wordN (need : Bool) (m : Nat) : List (List UInt8) → Nat × List (List UInt8)
  | [] => (0, [])
  | s :: r => if need then (num16 s % m, r) else (0, s :: r)
def candOp (f : Nat) (o : List UInt8) (r : List (List UInt8)) : OpD :=
  ⟨f, num16 o % 256, (wordN (hasK f) 256 r).1, (wordN (hasA f) 65536 (wordN (hasK f) 256 r).2).1, (wordN (hasB f) 65536 (wordN (hasA f) 65536 (wordN (hasK f) 256 r).2).2).1⟩
/-- The operation that words are. -/
def parseOp : List (List UInt8) → OpD × Nat
  | o :: n :: r => if lastF n 12 = 0 then (.zero, 4) else if (candOp (lastF n 12) o r).words = o :: n :: r then (candOp (lastF n 12) o r, 0) else (.zero, 4)
  | _ => (.zero, 4)
theorem parseOp_cons (o n : List UInt8) (r : List (List UInt8)) : parseOp (o :: n :: r) = if lastF n 12 = 0 then (.zero, 4) else if (candOp (lastF n 12) o r).words = o :: n :: r then (candOp (lastF n 12) o r, 0) else (.zero, 4) := rfl
theorem lastF_le (w : List UInt8) : ∀ k, lastF w k ≤ k - 1
  | 0 => Nat.le_refl _
  | k + 1 => by
    have := lastF_le w k
    rw [lastF]
    split <;> omega
theorem lastF_is (w : List UInt8) : ∀ k, lastF w k = 0 ∨ kName (lastF w k) = w
  | 0 => .inl rfl
  | k + 1 => by
    rw [lastF]
    split
    · rename_i h; exact .inr h.2
    · exact lastF_is w k
theorem lastF_name (f : Nat) (h1 : 1 ≤ f) (h2 : f ≤ 11) : lastF (kName f) 12 = f := by
  rcases (show f = 1 ∨ f = 2 ∨ f = 3 ∨ f = 4 ∨ f = 5 ∨ f = 6 ∨ f = 7 ∨ f = 8 ∨ f = 9 ∨ f = 10 ∨ f = 11 by omega) with rfl | rfl | rfl | rfl | rfl | rfl | rfl | rfl | rfl | rfl | rfl <;> decide
theorem wordN_yes (need : Bool) (m v : Nat) (r : List (List UInt8)) (hv : v < m) (hm : m ≤ 65536) (hz : need = false → v = 0) : wordN need m ((if need then [Lib.decDigits v] else []) ++ r) = (v, r) := by
  cases need with
  | false =>
    rw [hz rfl]
    cases r <;> simp [wordN]
  | true =>
    simp only [if_true, List.cons_append, List.nil_append, wordN]
    rw [num16_dec v (by omega), Nat.mod_eq_of_lt hv]
theorem candOp_words (x : OpD) (ok : x.Ok) (hm : x.may = true) : candOp x.F (Lib.decDigits x.O) ((if hasK x.F then [Lib.decDigits x.K] else []) ++ ((if hasA x.F then [Lib.decDigits x.A] else []) ++ (if hasB x.F then [Lib.decDigits x.B] else []))) = x := by
  obtain ⟨h1, h2, h3, h4, h5, h6, h7⟩ := may_facts hm
  have e1 := wordN_yes (hasK x.F) 256 x.K ((if hasA x.F then [Lib.decDigits x.A] else []) ++ (if hasB x.F then [Lib.decDigits x.B] else [])) ok.K (by omega) h5
  have e2 := wordN_yes (hasA x.F) 65536 x.A (if hasB x.F then [Lib.decDigits x.B] else []) ok.A (by omega) h6
  have e3 := wordN_yes (hasB x.F) 65536 x.B [] ok.B (by omega) h7
  rw [List.append_nil] at e3
  unfold candOp
  rw [e1]
  simp only
  rw [e2]
  simp only
  rw [e3]
  simp only
  rw [num16_dec x.O (by omega), Nat.mod_eq_of_lt ok.O]
/-- An operation's words are parsed as the operation. -/
theorem parseOp_words (x : OpD) (ok : x.Ok) (hm : x.may = true) : parseOp (wordsOf x) = (x, 0) := by
  obtain ⟨h1, h2, h3, h4, h5, h6, h7⟩ := may_facts hm
  unfold wordsOf
  rw [parseOp_cons, lastF_name x.F h1 h2, if_neg (by omega), candOp_words x ok hm, if_pos]
  unfold OpD.words
  rw [if_pos hm]
  rfl
/-- What is parsed has these words. -/
theorem parseOp_back {l : List (List UInt8)} {x : OpD} (h : parseOp l = (x, 0)) : x.may = true ∧ wordsOf x = l ∧ 2 ≤ l.length := by
  unfold parseOp at h
  split at h
  · split at h
    · cases h
    · split at h
      · rename_i h2
        cases h
        unfold OpD.words at h2
        split at h2
        · rename_i hm
          exact ⟨hm, h2, by simp⟩
        · cases h2
      · cases h
  · cases h
theorem parseOp_none {l : List (List UInt8)} {x : OpD} {e : Nat} (h : parseOp l = (x, e)) (he : e ≠ 0) : x = .zero ∧ e = 4 := by
  unfold parseOp at h
  split at h
  · split at h
    · cases h; exact ⟨rfl, rfl⟩
    · split at h
      · cases h; exact absurd rfl he
      · cases h; exact ⟨rfl, rfl⟩
  · cases h; exact ⟨rfl, rfl⟩
theorem wordN_lt (need : Bool) (m : Nat) (hm : 0 < m) (r : List (List UInt8)) : (wordN need m r).1 < m := by
  unfold wordN
  split
  · exact hm
  · split
    · exact Nat.mod_lt _ hm
    · exact hm
theorem candOp_ok (f : Nat) (o : List UInt8) (r : List (List UInt8)) (hf : f < 256) : (candOp f o r).Ok := ⟨hf, Nat.mod_lt _ (by omega), wordN_lt _ _ (by omega) _, wordN_lt _ _ (by omega) _, wordN_lt _ _ (by omega) _⟩
theorem parseOp_ok (l : List (List UInt8)) : (parseOp l).1.Ok := by
  unfold parseOp
  split
  · split
    · exact OpD.zero_ok
    · split
      · exact candOp_ok _ _ _ (by have := lastF_le ‹_› 12; omega)
      · exact OpD.zero_ok
  · exact OpD.zero_ok
/-- Words are an operation just if they are one's words. -/
theorem parseOp_iff (l : List (List UInt8)) (x : OpD) : parseOp l = (x, 0) ↔ x.Ok ∧ x.may = true ∧ wordsOf x = l := by
  constructor
  · intro h
    obtain ⟨h1, h2, _⟩ := parseOp_back h
    have := parseOp_ok l
    rw [h] at this
    exact ⟨this, h1, h2⟩
  · rintro ⟨ok, hm, rfl⟩
    exact parseOp_words x ok hm
end Go.Proofs.YtfklgaeejmeipaaGreatDoor
