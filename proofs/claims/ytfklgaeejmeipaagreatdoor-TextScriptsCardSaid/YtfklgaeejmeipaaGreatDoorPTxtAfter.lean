/- A text parted behind its ends (strings.SplitAfter), joined with nothing between, an end trimmed. Of texts of lines without ends. -/
import Derived.Test.YtfklgaeejmeipaaGreatDoorPTxtRow
import Derived.Test.YtfklgaeejmeipaaGreatDoorPTxtLen
set_option linter.all false
set_option linter.unusedVariables false
set_option linter.unusedSimpArgs false
set_option linter.unnecessarySimpa false
/- A text parted behind its ends (strings.SplitAfter), joined with nothing between, an end trimmed. Of texts of lines without ends. -/
namespace Go.Proofs.YtfklgaeejmeipaaGreatDoor
open Go.RowKit
attribute [local go_sem] Oper.semAt_some

def afters (ws : List W8) : List W8 := ws.map (· ++ [10]) ++ [[]]
theorem afters_flat (ws : List W8) : (afters ws).flatten = endsOf ws := by unfold afters endsOf; rw [List.flatMap_def]; simp
theorem splitK_after : ∀ {ws : List W8} (k : Nat), (∀ w ∈ ws, (10 : UInt8) ∉ w) → ws.length ≤ k → Lib.splitK [10] 1 k (endsOf ws) = afters ws
  | [], 0, _, _ => rfl
  | [], k + 1, _, _ => by
    have hi := index_miss (c := 10) (s := ([] : W8)) |>.2 (by simp)
    unfold Lib.splitK
    rw [show endsOf [] = [] from rfl, hi]
    rfl
  | w :: ws, 0, _, h => by simp at h
  | w :: ws, k + 1, hw, h => by
    have hi := index_hit (c := 10) (endsOf ws) (hw w (by simp))
    unfold Lib.splitK
    rw [endsOf_cons, hi]
    have h4 : (((w.length : Nat) : Int) == -1) = false := by simp
    simp only [h4, Bool.false_eq_true, if_false, Int.toNat_natCast, List.length_singleton]
    have e1 : (w ++ 10 :: endsOf ws).take (w.length + 1) = w ++ [10] := by
      rw [show w ++ 10 :: endsOf ws = (w ++ [10]) ++ endsOf ws by simp, show w.length + 1 = (w ++ [10]).length by simp, List.take_left]
    have e2 : (w ++ 10 :: endsOf ws).drop (w.length + 1) = endsOf ws := by
      rw [show w ++ 10 :: endsOf ws = (w ++ [10]) ++ endsOf ws by simp, show w.length + 1 = (w ++ [10]).length by simp, List.drop_left]
    rw [e1, e2, splitK_after k (fun v hv => hw v (by simp [hv])) (by simp at h; omega)]
    rfl
theorem count_ends {ws : List W8} (h : ∀ w ∈ ws, (10 : UInt8) ∉ w) : (endsOf ws).count 10 = ws.length := by
  have h1 := splitS_len 10 (endsOf ws)
  rw [split_ends h, List.length_append] at h1
  simp at h1
  exact h1.symm
theorem After_c (ws : List W8) (w : World) (hE : Env0 w) (h : ∀ v ∈ ws, (10 : UInt8) ∉ v) (hs : (endsOf ws).length < 1000000) : Calls Tryz.prog 26 #[.string ⟨(endsOf ws).toArray⟩, .string ⟨#[10]⟩] w fun e w' =>
    ∃ v, e = .returned v ∧ RowS w w' v (afters ws) := by
  have hsz := size_mk (endsOf ws)
  obtain ⟨m, hm⟩ := hE.maxl
  have hcb : Lib.countB ⟨(endsOf ws).toArray⟩ ⟨#[10]⟩ = ws.length := by
    rw [← count_ends h]
    unfold Lib.countB Lib.count
    exact count_is _ _ (by simp)
  have hwl : ws.length ≤ (endsOf ws).length := by rw [← count_ends h]; exact List.count_le_length
  have hG := fun W (hW : W.cell? ⟨4, 0, none⟩ = some (.int .i64 m)) => Tryz.strings_genSplit ⟨(endsOf ws).toArray⟩ ⟨#[10]⟩ 1 (-1) (ws.length + 1) m W (by rw [hsz]; omega) hW (by show 1 ≤ 1; omega) (by show 1 ≤ 1; omega) (by omega) (by omega) (by rw [hcb, hsz]; simp; omega)
  have hdat : (Lib.splitB ⟨#[10]⟩ 1 (ws.length + 1 - 1) ⟨(endsOf ws).toArray⟩).map (·.data.toList) = afters ws := by
    rw [Lib.splitB_data]
    exact splitK_after _ h (by omega)
  have hlen : (Lib.splitB ⟨#[10]⟩ 1 (ws.length + 1 - 1) ⟨(endsOf ws).toArray⟩).length = (afters ws).length := by rw [← hdat, List.length_map]
  have hal : (afters ws).length = ws.length + 1 := by simp [afters]
  have hcel : Lib.cellsOf (Lib.splitB ⟨#[10]⟩ 1 (ws.length + 1 - 1) ⟨(endsOf ws).toArray⟩) (ws.length + 1) = (strCells (afters ws)).toArray := by
    unfold Lib.cellsOf
    rw [hlen, hal, Nat.sub_self, ← hdat]
    unfold strCells
    simp [Function.comp_def]
  have HG := Lib.hid (hG w hm)
  rw [hcel, hlen, hal] at HG
  have HL : Hid (RowS w (w.alloc (.cells (strCells (afters ws)).toArray 9)) (.slice (some ⟨w.heap.size, 0, none⟩) (ws.length + 1) (ws.length + 1)) (afters ws)) := Lib.hid (by
    have := RowS.lit (Fr.refl w) (afters ws) (by rw [hal]; omega)
    rw [hal] at this
    exact this)
  clear hG hdat hlen hal hcel hcb hwl hE hm
  generalize afters ws = A at HG HL ⊢
  generalize endsOf ws = q at HG hs hsz ⊢
  go_enter Tryz.func26, Tryz.ntmps26
  go_wp2_with fail
  refine HG.out.mono ?_
  rintro e w1 ⟨rfl, rfl⟩
  go_wp2_with fail
  go_ret
  exact ⟨_, rfl, HL.out⟩
theorem join_nil : ∀ ls : List W8, Lib.join ls [] = ls.flatten
  | [] => rfl
  | w :: ws => by rw [Lib.join_cons]; unfold Lib.joinTail; simp
theorem JoinE_c (v : Value) (ls : List W8) (w : World) (h : RdS w v ls) (hl : ls.flatten.length < 1000000) (hn : ls.length < 1000000) : Calls Tryz.prog 27 #[v, .string ⟨#[]⟩] w fun e w' => e = .returned (.string ⟨ls.flatten.toArray⟩) ∧ Fr w w' := by
  have hmap : (ls.map fun s : List UInt8 => (⟨s.toArray⟩ : ByteArray)).map (·.data.toList) = ls := by simp [Function.comp_def]
  cases ls with
  | nil =>
    obtain ⟨a, k, rfl, _, _, _⟩ := h
    refine (Tryz.strings_Join_none a k ⟨#[]⟩ w).mono ?_
    rintro e w' ⟨rfl, rfl⟩
    exact ⟨rfl, Fr.refl _⟩
  | cons s r =>
    obtain ⟨b, off, cap, rfl, hc, hm, hb, hcell⟩ := h.at (k := 0) (by simp)
    have := (Tryz.strings_Join b off cap ((s :: r).map fun s : List UInt8 => (⟨s.toArray⟩ : ByteArray)) ⟨#[]⟩ w (fun j x hj => ?_) hb (by simp; simp at hn; omega) (by simpa using hc) (by rw [hmap]; show (Lib.join (s :: r) []).length ≤ _; rw [join_nil]; omega))
    · rw [hmap, List.length_map] at this
      rw [← join_nil]
      exact this
    · rw [List.getElem?_map] at hj
      obtain ⟨y, hy, rfl⟩ := Option.map_eq_some_iff.1 hj
      exact hcell j y hy
theorem trim_ends (ws : List W8) : Lib.trimSuffix (endsOf ws) [10] = joinS 10 ws := by
  by_cases h : ws = []
  · subst h; rfl
  · rw [ends_join h]
    unfold Lib.trimSuffix Lib.hasSuffix
    simp
end Go.Proofs.YtfklgaeejmeipaaGreatDoor
