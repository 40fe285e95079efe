/- Layer 16: EntriesAll, the plain half: which rows are free. No condition but what each says. -/
import Derived.Test.YtjomjlodmelnbaaPEntLaw
set_option linter.all false
set_option linter.unusedVariables false
set_option linter.unusedSimpArgs false
set_option linter.unnecessarySimpa false
/- Layer 16: EntriesAll, the plain half: which rows are free. No condition but what each says. -/
namespace Go.Proofs.Ytjomjlodmelnbaa
open Go.RowKit Go.Sort

/-- The first rows that may be next. -/
def mayL (rs : List ERow) (up : List Nat) (n : Nat) : List Nat := (List.range n).filter (nextB rs up)
theorem mayL_succ (rs : List ERow) (up : List Nat) (n : Nat) : mayL rs up (n + 1) = if nextB rs up n then mayL rs up n ++ [n] else mayL rs up n := by
  unfold mayL
  rw [List.range_succ, List.filter_append]
  cases h : nextB rs up n <;> simp [h]
theorem mayL_len (rs : List ERow) (up : List Nat) (n : Nat) : (mayL rs up n).length ≤ n := by
  have := List.length_filter_le (nextB rs up) (List.range n)
  rwa [List.length_range] at this
theorem mem_mayL {rs : List ERow} {up : List Nat} {n i : Nat} : i ∈ mayL rs up n ↔ i < n ∧ isNext rs up i := by
  unfold mayL
  rw [List.mem_filter, List.mem_range, nextB_iff]
theorem mayL_some {rs : List ERow} {up : List Nat} (hm : mayRows rs = true) (hn : up.length < rs.length) : mayL rs up rs.length ≠ [] := by
  obtain ⟨i, hi, hu⟩ := some_out hn
  intro h
  have h2 := nexts_some hm hi hu
  cases h3 : nexts rs up with
  | nil => exact h2 h3
  | cons k l =>
    have h4 := mem_nexts.1 (show k ∈ nexts rs up by rw [h3]; simp)
    have h5 : k ∈ mayL rs up rs.length := mem_mayL.2 ⟨h4.2.1, h4⟩
    rw [h] at h5; cases h5
/-- Is a row free of the first ones? -/
def freeTo (rs : List ERow) (up : List Nat) (i k : Nat) : Bool := !up.contains i && match rs[i]? with | some r => (List.range k).all (fun k => up.contains k || (match rs[k]? with | some q => !beforeB q r | none => true)) | none => false
theorem freeTo_all (rs : List ERow) (up : List Nat) (i : Nat) : freeTo rs up i rs.length = nextB rs up i := rfl
theorem freeTo_zero {rs : List ERow} {up : List Nat} {i : Nat} (h : i < rs.length) : freeTo rs up i 0 = !up.contains i := by
  unfold freeTo
  simp [h]
theorem freeTo_succ {rs : List ERow} {up : List Nat} {i k : Nat} (h : i < rs.length) (hk : k < rs.length) : freeTo rs up i (k + 1) = (freeTo rs up i k && (up.contains k || !beforeB rs[k] rs[i])) := by
  unfold freeTo
  simp only [List.getElem?_eq_getElem h, List.range_succ, List.all_append, List.all_cons, List.all_nil, Bool.and_true, List.getElem?_eq_getElem hk, Bool.and_assoc]
/-- Which rows are done: 1, else 0. -/
def doneL (n : Nat) (up : List Nat) : List Nat := (List.range n).map fun k => if up.contains k then 1 else 0
theorem doneL_len (n : Nat) (up : List Nat) : (doneL n up).length = n := by simp [doneL]
theorem doneL_at {n : Nat} {up : List Nat} {k : Nat} (h : k < n) : (doneL n up)[k]'(by rw [doneL_len]; exact h) = if up.contains k then 1 else 0 := by simp [doneL]
theorem doneL_nil (n : Nat) : doneL n [] = List.replicate n 0 := by
  refine List.ext_getElem (by simp [doneL]) fun i h1 h2 => ?_
  rw [doneL_len] at h1
  rw [doneL_at h1]; simp
theorem doneL_set {n : Nat} {up : List Nat} (i : Nat) : (doneL n up).set i 1 = doneL n (up ++ [i]) := by
  refine List.ext_getElem (by simp [doneL]) fun k h1 h2 => ?_
  rw [doneL_len] at h2
  rw [List.getElem_set, doneL_at h2, doneL_at h2]
  by_cases h : i = k
  · subst h; simp
  · rw [if_neg h]
    have : (up ++ [i]).contains k = up.contains k := by
      rw [Bool.eq_iff_iff]
      simp
      intro e; exact absurd e.symm h
    rw [this]
end Go.Proofs.Ytjomjlodmelnbaa
