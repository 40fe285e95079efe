/- umpirelaw06.all. No condition but that the events can be read. -/
import Derived.Test.YtfklgaeejmeipaaGreatDoorPTxtPar
import Derived.Test.YtfklgaeejmeipaaGreatDoorPTxtWr
set_option linter.all false
set_option linter.unusedVariables false
set_option linter.unusedSimpArgs false
set_option linter.unnecessarySimpa false
/- umpirelaw06.all. No condition but that the events can be read. -/
namespace Go.Proofs.YtfklgaeejmeipaaGreatDoor
open Go.RowKit
attribute [local go_sem] Oper.semAt_some

def AllRet (w : World) (l : List Ev) (e : Ending) (w' : World) : Prop := ∃ b, e = .returned (.bool b) ∧ (b = true → l.length ≤ 20) ∧ Fr w w'
set_option maxRecDepth 100000 in
set_option maxHeartbeats 4000000 in
theorem all06_c (l : List Ev) (v : Value) (w : World) (hl : RdE w v l) : Calls Tryz.prog 19 #[v] w (AllRet w l) := by
  obtain ⟨a, cap, rfl, hcap, hmax, _⟩ := id hl
  unfold maxLen at hmax
  have HL := Lib.hid hl
  clear hl
  go_enter Tryz.func19, Tryz.ntmps19
  go_wp2_with fail
  go_loopw [3] (fun i wr => ∃ k : Nat, k ≤ l.length ∧ i = .int .i64 k ∧ Fr w wr) (fun i _ => l.length - (intOf i).toNat)
  case atStart => exact ⟨0, Nat.zero_le _, rfl, Fr.refl _⟩
  case round =>
    obtain ⟨k, hk, rfl, hf⟩ := hrel
    have HF := Lib.hid hf
    by_cases hlt : k < l.length
    · by_cases h30 : k < 30
      · obtain ⟨b1, o1, t, r, rfl, hb1, hx, ht, hr⟩ := RdE.at (HL.out.keep hf) hlt
        have h30' : (k : Int) < 30 := by omega
        have hk1 : k < cap := by omega
        generalize l[k] = x at hx ht hr
        have HFW := Lib.hid (few06_c x t r wr ht hr)
        obtain ⟨ta, tn, tc, rfl⟩ := ht.slice
        obtain ⟨ra, rn, rc, rfl⟩ := hr.slice
        unfold Ev.val at HFW
        clear ht hr hf
        go_wp2_with ((with_reducible refine wpList_here (.load 32 (.tmp 16)) rfl ?_); refine wpList_load_midW 32 (.tmp 16) rfl b1 (o1 + k * 19) rfl (x.cells (.slice ta tn tc) (.slice ra rn rc)).toList _ hx Tryz.underlying32 rfl Tryz.infoEv rfl ?_)
        refine HFW.out.mono ?_
        rintro e w2 ⟨b, rfl, f2⟩
        have F2 := Lib.hid (HF.out.trans f2)
        clear f2 hx HFW
        cases b
        · go_wp2_with fail
          go_ret
          exact ⟨false, rfl, fun h => (by cases h), F2.out⟩
        · go_wp2_with fail
          go_roundw
          case rel => exact ⟨k + 1, by omega, by go_num, F2.out⟩
          case measure => simp [intOf]; omega
      · have h30' : ¬ (k : Int) < 30 := by omega
        have hi : ¬ (l.length : Int) ≤ 20 := by omega
        clear hf
        go_wp2_with fail
        go_ret
        exact ⟨false, by first | rfl | simp [hi] | (congr 2; simp; omega), fun h => (by cases h), HF.out⟩
    · clear hf
      by_cases h20 : l.length ≤ 20
      · have hi : (l.length : Int) ≤ 20 := by omega
        have H20 := Lib.hid h20
        clear h20
        go_wp2_with fail
        go_ret
        exact ⟨true, by first | rfl | simp [hi], fun _ => H20.out, HF.out⟩
      · have hi : ¬ (l.length : Int) ≤ 20 := by omega
        clear h20
        go_wp2_with fail
        go_ret
        exact ⟨false, by first | rfl | simp [hi], fun h => (by cases h), HF.out⟩
end Go.Proofs.YtfklgaeejmeipaaGreatDoor
