/- The document's list. No condition but the numbers' bounds. Printed by gen_refline.py. -/
import Derived.Test.YtfklgaeejmeipaaGreatDoorPTxtRefA
import Derived.Test.YtfklgaeejmeipaaGreatDoorPTxtLen
import Derived.Test.YtfklgaeejmeipaaGreatDoorPTxtRefB
import Derived.Test.YtfklgaeejmeipaaGreatDoorPRefMayE
import Derived.Test.YtfklgaeejmeipaaGreatDoorPResTextW
import Derived.Deep.Cut
import Derived.Test.YtfklgaeejmeipaaGreatDoorPArms
set_option linter.all false
set_option linter.unusedVariables false
set_option linter.unusedSimpArgs false
set_option linter.unnecessarySimpa false
/- The document's list. No condition but the numbers' bounds. Printed by gen_refline.py. -/
namespace Go.Proofs.YtfklgaeejmeipaaGreatDoor
open Go.RowKit
attribute [local go_sem] Oper.semAt_some

theorem joinS_snoc (c : UInt8) : ∀ {ws : List W8} (w : W8), ws ≠ [] → joinS c (ws ++ [w]) = joinS c ws ++ c :: w
  | [], w, h => absurd rfl h
  | [v], w, _ => rfl
  | v :: u :: ws, w, _ => by
    rw [List.cons_append, joinS_cons c v (by simp), joinS_snoc c (ws := u :: ws) w (by simp), joinS_cons c v (by simp)]
    simp
def listS (l : List Nat) : W8 := joinS 44 (l.map Lib.decDigits)
theorem listS_next {l : List Nat} {k : Nat} (hk : k < l.length) (h0 : k ≠ 0) : listS (l.take (k + 1)) = listS (l.take k) ++ [44] ++ Lib.decDigits l[k] := by
  unfold listS
  rw [List.take_succ_eq_append_getElem hk, List.map_append, List.map_cons, List.map_nil, joinS_snoc]
  · simp
  · intro e
    have := congrArg List.length e
    rw [List.length_map, List.length_take, Nat.min_eq_left (by omega)] at this
    simp at this
    omega
theorem listS_first {l : List Nat} (hk : 0 < l.length) : listS (l.take (0 + 1)) = listS (l.take 0) ++ Lib.decDigits l[0] := by
  unfold listS
  rw [List.take_succ_eq_append_getElem hk]
  rfl
theorem listS_len {l : List Nat} (hb : ∀ n ∈ l, n < 65536) : (listS l).length ≤ l.length * 6 := by
  have := join_le 44 (l.map Lib.decDigits) 5 (fun x hx => by obtain ⟨n, hn1, rfl⟩ := List.mem_map.1 hx; exact decDigits_short (hb n hn1))
  rw [join_is, List.length_map] at this
  exact this
theorem listS_word {l : List Nat} (h : l ≠ []) : listWord l = listS l := by unfold listWord listS; rw [if_neg h, join_is]
theorem listS_ne {l : List Nat} (h : l ≠ []) : listS l ≠ [] := by
  cases l with
  | nil => exact absurd rfl h
  | cons n l =>
    unfold listS
    have := decDigits_ne n
    cases l with
    | nil => exact this
    | cons m l =>
      rw [List.map_cons, joinS_cons 44 _ (by simp)]
      intro e
      exact this (List.append_eq_nil_iff.1 e).1
set_option maxRecDepth 100000 in
set_option maxHeartbeats 1000000 in
theorem list06_c (v : Value) (l : List Nat) (w : World) (hl : Rd16 w v l) (hn : l.length ≤ 60000) (hb : ∀ n ∈ l, n < 65536) :
    Calls Tryz.prog 41 #[v] w fun e w' => e = .returned (.string ⟨(listWord l).toArray⟩) ∧ Fr w w' := by
  obtain ⟨a, cap, rfl, hc1, hc2, hx⟩ := hl
  by_cases h0 : l = []
  · subst h0
    go_enter Tryz.func41, Tryz.ntmps41
    go_wp2_with fail
    go_loopw [3, 4] (fun s i wr => s = .string ⟨#[]⟩ ∧ i = .int .i64 0 ∧ Fr w wr) (fun _ i _ => 0)
    case atStart => exact ⟨rfl, rfl, Fr.refl _⟩
    case round =>
      obtain ⟨rfl, rfl, hf⟩ := hrel
      go_wp2_with fail
      go_ret
      exact ⟨rfl, hf⟩
  · obtain ⟨b, off, rfl, hlt, hcell⟩ := SlAt.at (n := 0) (cap := 0) hx (by simp [u16Cells]; exact h0)
    have HT := Lib.hid (fun (n : Nat) (hn : n < 65536) W => d06_c n W (by omega))
    have HW := Lib.hid (listS_word h0)
    have HNE := Lib.hid (listS_ne h0)
    have hne : 0 < l.length := List.length_pos_iff.2 h0
    unfold maxLen at hc2
    clear hx h0
    go_enter Tryz.func41, Tryz.ntmps41
    go_wp2_with fail
    go_loopw [3, 4] (fun s i wr => ∃ k : Nat, k ≤ l.length ∧ i = .int .i64 k ∧ s = .string ⟨(listS (l.take k)).toArray⟩ ∧ Fr w wr) (fun _ i _ => l.length - (intOf i).toNat)
    case atStart => exact ⟨0, Nat.zero_le _, rfl, rfl, Fr.refl _⟩
    case round =>
      obtain ⟨k, hk, rfl, rfl, hf⟩ := hrel
      by_cases hlt2 : k < l.length
      · have hbl := listS_len (l := l.take k) fun n hn => hb n (List.mem_of_mem_take hn)
        rw [List.length_take] at hbl
        have hbl2 : (listS (l.take k)).length ≤ 360000 := by omega
        have hsz := size_mk (listS (l.take k))
        have hnk := hb l[k] (List.getElem_mem hlt2)
        have hdl := decDigits_len5 hnk
        have hdz := size_mk (Lib.decDigits l[k])
        have c1 := hf.keep (hcell k (.int .u16 l[k]) (by simp [u16Cells, hlt2]))
        have hk1 : k < cap := by omega
        have HD := Lib.hid (fun W => HT.out l[k] hnk W)
        by_cases hk0 : k = 0
        · subst hk0
          rw [Nat.add_zero] at c1
          have HN := Lib.hid (listS_first hlt2)
          generalize listS (l.take 0) = acc at hbl2 hsz HN
          generalize l[0] = x at c1 HD hdl hdz hnk HN
          have HF := Lib.hid hf
          clear hbl hcell hf
          go_wp2_with fail
          refine (HD.out _).mono ?_
          rintro e w2 ⟨rfl, f2⟩
          go_wp2_with fail
          go_roundw
          case rel => exact ⟨0 + 1, by omega, by go_num, by rw [HN.out, mk_append], HF.out.trans f2⟩
          case measure => simp [intOf]; omega
        · have HN := Lib.hid (listS_next hlt2 hk0)
          have hk2 : (0 : Int) < (k : Int) := by omega
          generalize listS (l.take k) = acc at hbl2 hsz HN
          generalize l[k] = x at c1 HD hdl hdz hnk HN
          have HF := Lib.hid hf
          clear hbl hcell hf hk0
          go_wp2_with fail
          refine (HD.out _).mono ?_
          rintro e w2 ⟨rfl, f2⟩
          go_wp2_with fail
          go_roundw
          case rel => exact ⟨k + 1, by omega, by go_num, by rw [HN.out]; simp [mk_append], HF.out.trans f2⟩
          case measure => simp [intOf]; omega
      · have hkl : l.take k = l := List.take_of_length_le (by omega)
        rw [hkl]
        have n1 : (listS l == []) = false := by simpa using HNE.out
        have n2 : ¬ listS l = [] := HNE.out
        have HF := Lib.hid hf
        clear hkl hcell HNE hf
        generalize listS l = q at n1 n2 HW ⊢
        go_wp2_with fail
        go_ret
        exact ⟨by rw [HW.out]; rfl, HF.out⟩
end Go.Proofs.YtfklgaeejmeipaaGreatDoor
