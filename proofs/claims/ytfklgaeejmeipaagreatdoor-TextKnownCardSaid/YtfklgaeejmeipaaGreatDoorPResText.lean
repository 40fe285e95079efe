/- Answers as texts: what is written is parsed as the answer, what is parsed has this text: plain. -/
import Derived.Test.YtfklgaeejmeipaaGreatDoorPReader
import Derived.Test.YtfklgaeejmeipaaGreatDoorPNum
import Derived.Lib.IndexMore
import Derived.Lib.IndexBytes
set_option linter.all false
set_option linter.unusedVariables false
set_option linter.unusedSimpArgs false
set_option linter.unnecessarySimpa false
/- Answers as texts: what is written is parsed as the answer, what is parsed has this text: plain. -/
namespace Go.Proofs.YtfklgaeejmeipaaGreatDoor
open Go.RowKit

def resText (K V : Nat) : List UInt8 := resWord K ++ (if K = 1 then 32 :: Lib.decDigits V else [])
def textRes (K V : Nat) : List UInt8 × Nat := if goodB K V then (resText K V, 0) else ([], 4)
/-- The word and the number of a text. -/
def resV (s : List UInt8) (k : Nat) : Nat := if k = 1 then num16 (Lib.cut s [32]).2.1 else 0
def resIs (s : List UInt8) (k : Nat) : Bool := decide (resWord k = (Lib.cut s [32]).1) && decide (resText k (resV s k) = s)
/-- The answer that a text is. -/
def parseRes (s : List UInt8) : Nat × Nat × Nat := match (List.range 5).find? (resIs s) with | some k => (k, resV s k, 0) | none => (0, 0, 4)
theorem index_at (w r : List UInt8) (h : (32 : UInt8) ∉ w) : Lib.index (w ++ 32 :: r) [32] = w.length := by
  induction w with
  | nil => simp [Lib.index]
  | cons b w ih =>
    have hb : b ≠ 32 := fun e => h (by simp [e])
    have ih := ih (fun e => h (by simp [e]))
    rw [List.cons_append, Lib.index, ih]
    have hp : ([32] : List UInt8).isPrefixOf (b :: (w ++ 32 :: r)) = false := by simp [List.isPrefixOf]; exact fun e => hb e.symm
    rw [hp]
    simp only [Bool.false_eq_true, if_false, List.length_cons]
    rw [if_neg (by first | (simp; done) | (simp; omega))]
    first | omega | (simp; done) | (simp; omega)
theorem index_no (w : List UInt8) (h : (32 : UInt8) ∉ w) : Lib.index w [32] = -1 := by
  induction w with
  | nil => simp [Lib.index]
  | cons b w ih =>
    have hb : b ≠ 32 := fun e => h (by simp [e])
    have ih := ih (fun e => h (by simp [e]))
    rw [Lib.index, ih]
    have hp : ([32] : List UInt8).isPrefixOf (b :: w) = false := by simp [List.isPrefixOf]; exact fun e => hb e.symm
    rw [hp]
    simp
theorem cut_at (w r : List UInt8) (h : (32 : UInt8) ∉ w) : Lib.cut (w ++ 32 :: r) [32] = (w, r, true) := by
  unfold Lib.cut
  rw [index_at w r h, if_pos (by omega)]
  simp
theorem cut_no (w : List UInt8) (h : (32 : UInt8) ∉ w) : Lib.cut w [32] = (w, [], false) := by
  unfold Lib.cut
  rw [index_no w h, if_neg (by omega)]
theorem resWord_no (K : Nat) : (32 : UInt8) ∉ resWord K := by
  unfold resWord
  repeat (first | (split) | decide)
theorem resWord_inj {j k : Nat} (hj : j < 5) (hk : k < 5) (h : resWord j = resWord k) : j = k := by
  rcases (show j = 0 ∨ j = 1 ∨ j = 2 ∨ j = 3 ∨ j = 4 by omega) with rfl | rfl | rfl | rfl | rfl <;> rcases (show k = 0 ∨ k = 1 ∨ k = 2 ∨ k = 3 ∨ k = 4 by omega) with rfl | rfl | rfl | rfl | rfl <;> first | rfl | (revert h; decide)
theorem cut_text (K V : Nat) : (Lib.cut (resText K V) [32]).1 = resWord K ∧ (K = 1 → (Lib.cut (resText K V) [32]).2.1 = Lib.decDigits V) := by
  unfold resText
  by_cases h : K = 1
  · subst h
    rw [if_pos rfl, cut_at _ _ (resWord_no 1)]
    exact ⟨rfl, fun _ => rfl⟩
  · rw [if_neg h, List.append_nil, cut_no _ (resWord_no K)]
    exact ⟨rfl, fun e => absurd e h⟩
theorem good_lt {K V : Nat} (h : goodB K V = true) : K < 5 ∧ (K ≠ 1 → V = 0) := by
  rcases res_cases K V with ⟨_, h2⟩ | ⟨h1, _⟩ | ⟨h1, _, h3, _⟩ | ⟨_, _, _, h2⟩
  · rw [h2] at h; cases h
  · exact ⟨by omega, fun e => absurd h1 e⟩
  · exact ⟨by omega, fun _ => h3⟩
  · rw [h2] at h; cases h
theorem resIs_iff (s : List UInt8) (k : Nat) (hk : k < 5) : resIs s k = true ↔ resText k (resV s k) = s := by
  unfold resIs
  simp only [Bool.and_eq_true, decide_eq_true_eq]
  constructor
  · exact fun h => h.2
  · intro h
    refine ⟨?_, h⟩
    have := (cut_text k (resV s k)).1
    rw [h] at this
    exact this.symm
theorem resIs_text {K V : Nat} (hg : goodB K V = true) (hV : V < 65536) : resIs (resText K V) K = true ∧ resV (resText K V) K = V := by
  obtain ⟨hK, h0⟩ := good_lt hg
  have hv : resV (resText K V) K = V := by
    unfold resV
    split
    · rename_i h1
      rw [(cut_text K V).2 h1, num16_dec V hV]
    · rename_i h1
      exact (h0 h1).symm
  exact ⟨(resIs_iff _ K hK).2 (by rw [hv]), hv⟩
theorem find_range {p : Nat → Bool} {n k : Nat} (hk : k < n) (hp : p k = true) (hu : ∀ j, j < n → p j = true → j = k) : (List.range n).find? p = some k := by
  cases h : (List.range n).find? p with
  | none =>
    have := List.find?_eq_none.1 h k (List.mem_range.2 hk)
    exact absurd hp this
  | some j =>
    have h1 := List.find?_some h
    have h2 := List.mem_range.1 (List.mem_of_find?_eq_some h)
    rw [hu j h2 h1]
/-- A text is an answer just if it is that one's text. -/
theorem parseRes_iff (s : List UInt8) (K V : Nat) : parseRes s = (K, V, 0) ↔ goodB K V = true ∧ V < 65536 ∧ resText K V = s := by
  constructor
  · intro h
    unfold parseRes at h
    split at h
    · rename_i k hk
      have h1 := List.find?_some hk
      have h2 := List.mem_range.1 (List.mem_of_find?_eq_some hk)
      simp only [Prod.mk.injEq, and_true] at h
      obtain ⟨rfl, hV⟩ := h
      have h3 := (resIs_iff s k h2).1 h1
      rw [hV] at h3
      refine ⟨?_, ?_, h3⟩
      · rw [← hV]
        unfold goodB resV
        by_cases h4 : k = 1
        · simp [h4]
        · simp [h4]; omega
      · rw [← hV]
        unfold resV
        split
        · exact num16_lt _
        · omega
    · cases h
  · rintro ⟨hg, hV, rfl⟩
    obtain ⟨h1, h2⟩ := resIs_text hg hV
    obtain ⟨hK, _⟩ := good_lt hg
    have hf := find_range (p := resIs (resText K V)) hK h1 (fun j hj hp => by
      have e1 := (resIs_iff _ j hj).1 hp
      have e2 := (cut_text j (resV (resText K V) j)).1
      rw [e1, (cut_text K V).1] at e2
      exact (resWord_inj hK hj e2).symm)
    unfold parseRes
    rw [hf]
    simp only [h2]
theorem parseRes_none {s : List UInt8} {K V e : Nat} (h : parseRes s = (K, V, e)) (he : e ≠ 0) : K = 0 ∧ V = 0 ∧ e = 4 := by
  unfold parseRes at h
  split at h
  · simp only [Prod.mk.injEq] at h
    exact absurd h.2.2.symm he
  · cases h; exact ⟨rfl, rfl, rfl⟩
theorem parseRes_lt (s : List UInt8) : (parseRes s).1 < 256 ∧ (parseRes s).2.1 < 65536 := by
  unfold parseRes
  split
  · rename_i k hk
    have h2 := List.mem_range.1 (List.mem_of_find?_eq_some hk)
    refine ⟨by show k < 256; omega, ?_⟩
    show resV s k < 65536
    unfold resV
    split
    · exact num16_lt _
    · omega
  · exact ⟨by decide, by decide⟩
end Go.Proofs.YtfklgaeejmeipaaGreatDoor
