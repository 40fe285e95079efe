/- A text parted at a byte, plain: structural, and as the library has it; joined again. No condition but what each says. -/
import Derived.Lib.Split
import Derived.Lib.Join
import Derived.Lib.IndexBytes
set_option linter.all false
set_option linter.unusedVariables false
set_option linter.unusedSimpArgs false
set_option linter.unnecessarySimpa false
/- A text parted at a byte, plain: structural, and as the library has it; joined again. No condition but what each says. -/
namespace Go.Proofs.YtfklgaeejmeipaaGreatDoor

def splitS (c : UInt8) : List UInt8 → List (List UInt8)
  | [] => [[]]
  | a :: s => if a = c then [] :: splitS c s else match splitS c s with
    | [] => [[a]]
    | w :: ws => (a :: w) :: ws
theorem splitS_ne (c : UInt8) (s : List UInt8) : splitS c s ≠ [] := by
  cases s with
  | nil => simp [splitS]
  | cons a s =>
    unfold splitS
    split
    · simp
    · split <;> simp
theorem splitS_none {c : UInt8} : ∀ {s : List UInt8}, c ∉ s → splitS c s = [s]
  | [], _ => rfl
  | a :: s, h => by
    have h1 : a ≠ c := fun e => h (by rw [e]; exact List.mem_cons_self)
    have h2 := splitS_none (c := c) (s := s) fun e => h (List.mem_cons_of_mem _ e)
    unfold splitS
    rw [if_neg h1, h2]
theorem splitS_app {c : UInt8} : ∀ {w : List UInt8} (s : List UInt8), c ∉ w → splitS c (w ++ c :: s) = w :: splitS c s
  | [], s, _ => by
    show (if c = c then [] :: splitS c s else _) = _
    rw [if_pos rfl]
  | a :: w, s, h => by
    have h1 : a ≠ c := fun e => h (by rw [e]; exact List.mem_cons_self)
    have h2 := splitS_app (c := c) (w := w) s fun e => h (List.mem_cons_of_mem _ e)
    show (if a = c then [] :: splitS c (w ++ c :: s) else match splitS c (w ++ c :: s) with | [] => [[a]] | w :: ws => (a :: w) :: ws) = _
    rw [if_neg h1, h2]
/-- Parts are joined to the text. -/
def joinS (c : UInt8) : List (List UInt8) → List UInt8
  | [] => []
  | [w] => w
  | w :: v :: ws => w ++ c :: joinS c (v :: ws)
theorem joinS_cons (c : UInt8) (w : List UInt8) {ws : List (List UInt8)} (h : ws ≠ []) : joinS c (w :: ws) = w ++ c :: joinS c ws := by
  cases ws with
  | nil => exact absurd rfl h
  | cons v ws => rfl
theorem join_is (c : UInt8) : ∀ ws : List (List UInt8), Lib.join ws [c] = joinS c ws
  | [] => rfl
  | [w] => Lib.join_one w [c]
  | w :: v :: ws => by
    have ih := join_is c (v :: ws)
    rw [Lib.join_cons] at ih ⊢
    show w ++ Lib.joinTail [c] (v :: ws) = w ++ c :: joinS c (v :: ws)
    rw [← ih]
    simp [Lib.joinTail]
theorem splitS_join {c : UInt8} : ∀ {ws : List (List UInt8)}, ws ≠ [] → (∀ w ∈ ws, c ∉ w) → splitS c (joinS c ws) = ws
  | [], h, _ => absurd rfl h
  | [w], _, h => splitS_none (h w (by simp))
  | w :: v :: ws, _, h => by
    show splitS c (w ++ c :: joinS c (v :: ws)) = _
    rw [splitS_app _ (h w (by simp)), splitS_join (by simp) fun u hu => h u (List.mem_cons_of_mem _ hu)]
theorem joinS_split (c : UInt8) : ∀ s : List UInt8, joinS c (splitS c s) = s
  | [] => rfl
  | a :: s => by
    have ih := joinS_split c s
    unfold splitS
    split
    · rename_i h
      rw [joinS_cons c [] (splitS_ne c s), ih, h]; rfl
    · cases e : splitS c s with
      | nil => exact absurd e (splitS_ne c s)
      | cons w ws =>
        rw [e] at ih
        show joinS c ((a :: w) :: ws) = a :: s
        rw [← ih]
        cases ws <;> rfl
theorem splitS_free {c : UInt8} : ∀ {s : List UInt8} {w : List UInt8}, w ∈ splitS c s → c ∉ w
  | [], w, h => by
    have : w = [] := by simpa [splitS] using h
    rw [this]; simp
  | a :: s, w, h => by
    unfold splitS at h
    split at h
    · rcases List.mem_cons.1 h with rfl | h
      · simp
      · exact splitS_free h
    · rename_i hac
      cases e : splitS c s with
      | nil => exact absurd e (splitS_ne c s)
      | cons u us =>
        rw [e] at h
        rcases List.mem_cons.1 h with rfl | h
        · have := splitS_free (c := c) (s := s) (w := u) (by rw [e]; exact List.mem_cons_self)
          intro hm
          rcases List.mem_cons.1 hm with h1 | h1
          · exact hac h1.symm
          · exact this h1
        · exact splitS_free (c := c) (s := s) (by rw [e]; exact List.mem_cons_of_mem _ h)
theorem splitS_len (c : UInt8) : ∀ s : List UInt8, (splitS c s).length = s.count c + 1
  | [] => rfl
  | a :: s => by
    have ih := splitS_len c s
    unfold splitS
    split
    · rename_i h
      subst h
      rw [List.length_cons, ih, List.count_cons_self]
    · rename_i h
      rw [List.count_cons_of_ne h]
      cases e : splitS c s with
      | nil => exact absurd e (splitS_ne c s)
      | cons u us => rw [e] at ih; exact ih
/-- The parts are no longer than the text. -/
theorem splitS_short {c : UInt8} {s w : List UInt8} (h : w ∈ splitS c s) : w.length ≤ s.length := by
  induction s generalizing w with
  | nil =>
    have : w = [] := by simpa [splitS] using h
    rw [this]; exact Nat.le_refl _
  | cons a s ih =>
    unfold splitS at h
    split at h
    · rcases List.mem_cons.1 h with rfl | h
      · exact Nat.zero_le _
      · have := ih h; simp; omega
    · cases e : splitS c s with
      | nil => exact absurd e (splitS_ne c s)
      | cons u us =>
        rw [e] at h
        rcases List.mem_cons.1 h with rfl | h
        · have := ih (w := u) (by rw [e]; exact List.mem_cons_self); simp; omega
        · have := ih (w := w) (by rw [e]; exact List.mem_cons_of_mem _ h); simp; omega
/-- .. as the library has it. -/
theorem index_miss {c : UInt8} {s : List UInt8} : Lib.index s [c] = -1 ↔ c ∉ s := by
  rw [Lib.index_one]
  induction s with
  | nil => simp [Lib.indexByte]
  | cons a s ih =>
    have hge := Lib.indexByte_ge s c
    unfold Lib.indexByte
    by_cases h : a = c
    · subst h; simp
    · have h2 : (a == c) = false := by simpa using h
      rw [h2]
      by_cases h3 : Lib.indexByte s c = -1
      · have := ih.1 h3
        simp [h3, this, Ne.symm h]
      · have hm : c ∈ s := Classical.byContradiction fun hn => h3 (ih.2 hn)
        have h4 : (Lib.indexByte s c == -1) = false := by simpa using h3
        simp only [Bool.false_eq_true, if_false, h4]
        constructor
        · intro h5; omega
        · intro h5; exact absurd (List.mem_cons_of_mem _ hm) h5
theorem index_hit {c : UInt8} : ∀ {w : List UInt8} (s : List UInt8), c ∉ w → Lib.index (w ++ c :: s) [c] = w.length
  | [], s, _ => by rw [Lib.index_one]; unfold Lib.indexByte; simp
  | a :: w, s, h => by
    have h1 : a ≠ c := fun e => h (by rw [e]; exact List.mem_cons_self)
    have h2 := index_hit (c := c) (w := w) s fun e => h (List.mem_cons_of_mem _ e)
    rw [Lib.index_one] at h2 ⊢
    show Lib.indexByte (a :: (w ++ c :: s)) c = _
    unfold Lib.indexByte
    have h3 : (a == c) = false := by simpa using h1
    rw [h3, h2]
    have h4 : (((w.length : Nat) : Int) == -1) = false := by simp
    simp only [Bool.false_eq_true, if_false, h4]
    simp
theorem split_first {c : UInt8} : ∀ {s : List UInt8}, c ∈ s → ∃ w r, s = w ++ c :: r ∧ c ∉ w
  | a :: s, h => by
    by_cases e : a = c
    · subst e; exact ⟨[], s, rfl, by simp⟩
    · rcases List.mem_cons.1 h with h | h
      · exact absurd h.symm e
      · obtain ⟨w, r, rfl, hw⟩ := split_first h
        refine ⟨a :: w, r, rfl, fun hm => ?_⟩
        rcases List.mem_cons.1 hm with h1 | h1
        · exact e h1.symm
        · exact hw h1
theorem splitK_is {c : UInt8} : ∀ (k : Nat) (s : List UInt8), s.count c ≤ k → Lib.splitK [c] 0 k s = splitS c s
  | 0, s, h => by
    have hn : c ∉ s := fun hm => by have := List.count_pos_iff.2 hm; omega
    rw [splitS_none hn]; rfl
  | k + 1, s, h => by
    by_cases hm : c ∈ s
    · obtain ⟨w, r, rfl, hw⟩ := split_first hm
      have hi := index_hit (c := c) r hw
      have hcr : r.count c ≤ k := by
        rw [List.count_append, List.count_cons_self] at h
        omega
      unfold Lib.splitK
      rw [hi]
      have h4 : (((w.length : Nat) : Int) == -1) = false := by simp
      simp only [h4, Bool.false_eq_true, if_false, Int.toNat_natCast, Nat.add_zero, List.length_singleton]
      rw [splitS_app r hw]
      have e1 : (w ++ c :: r).take w.length = w := by simp
      have e2 : (w ++ c :: r).drop (w.length + 1) = r := by
        rw [show w.length + 1 = (w ++ [c]).length by simp, show w ++ c :: r = (w ++ [c]) ++ r by simp, List.drop_left]
      rw [e1, e2, splitK_is k r hcr]
    · have hi := index_miss.2 hm
      unfold Lib.splitK
      rw [hi, splitS_none hm]
      rfl
theorem count_is {c : UInt8} : ∀ (fuel : Nat) (s : List UInt8), s.length ≤ fuel → Lib.countFrom [c] fuel s = s.count c
  | 0, s, h => by
    have : s = [] := List.eq_nil_of_length_eq_zero (by omega)
    subst this; rfl
  | fuel + 1, s, h => by
    by_cases hm : c ∈ s
    · obtain ⟨w, r, rfl, hw⟩ := split_first hm
      have hi := index_hit (c := c) r hw
      unfold Lib.countFrom
      rw [hi]
      have h4 : (((w.length : Nat) : Int) == -1) = false := by simp
      simp only [h4, Bool.false_eq_true, if_false, Int.toNat_natCast, List.length_singleton]
      have e2 : (w ++ c :: r).drop (w.length + 1) = r := by
        rw [show w.length + 1 = (w ++ [c]).length by simp, show w ++ c :: r = (w ++ [c]) ++ r by simp, List.drop_left]
      rw [e2, count_is fuel r (by rw [List.length_append, List.length_cons] at h; omega), List.count_append, List.count_cons_self, List.count_eq_zero.2 hw]
      omega
    · have hi := index_miss.2 hm
      unfold Lib.countFrom
      rw [hi, List.count_eq_zero.2 hm]
      rfl
end Go.Proofs.YtfklgaeejmeipaaGreatDoor
