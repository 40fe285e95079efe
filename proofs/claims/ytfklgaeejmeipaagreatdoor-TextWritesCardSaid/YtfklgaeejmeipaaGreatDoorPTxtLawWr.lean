/- umpirelaw06.all, TextWrites: the law holds. No condition but the tables' content. -/
import Derived.Test.YtfklgaeejmeipaaGreatDoorPTxtPar
import Derived.Test.YtfklgaeejmeipaaGreatDoorPTxtWr
import Derived.Test.YtfklgaeejmeipaaGreatDoorPTxtRefL5
set_option linter.all false
set_option linter.unusedVariables false
set_option linter.unusedSimpArgs false
set_option linter.unnecessarySimpa false
/- umpirelaw06.all, TextWrites: the law holds. No condition but the tables' content. -/
namespace Go.Proofs.YtfklgaeejmeipaaGreatDoor
open Go.RowKit
attribute [local go_sem] Oper.semAt_some

def AllRet (w : World) (l : List Ev) (e : Ending) (w' : World) : Prop := ∃ b, e = .returned (.bool b) ∧ (b = true → l.length ≤ 20) ∧ Fr w w'
set_option maxRecDepth 100000 in
set_option maxHeartbeats 4000000 in
theorem all06_c (l : List Ev) (v : Value) (w : World) (hl : RdE w v l) : Calls Tryz.prog 19 #[v] w (AllRet w l) := by
  obtain ⟨a, cap, rfl, hcap, hmax, _⟩ := id hl
  unfold maxLen at hmax
  have HL := Lib.hid hl
  clear hl
  go_enter Tryz.func19, Tryz.ntmps19
  go_wp2_with fail
  go_loopw [3] (fun i wr => ∃ k : Nat, k ≤ l.length ∧ i = .int .i64 k ∧ Fr w wr) (fun i _ => l.length - (intOf i).toNat)
  case atStart => exact ⟨0, Nat.zero_le _, rfl, Fr.refl _⟩
  case round =>
    obtain ⟨k, hk, rfl, hf⟩ := hrel
    have HF := Lib.hid hf
    by_cases hlt : k < l.length
    · by_cases h30 : k < 30
      · obtain ⟨b1, o1, t, r, rfl, hb1, hx, ht, hr⟩ := RdE.at (HL.out.keep hf) hlt
        have h30' : (k : Int) < 30 := by omega
        have hk1 : k < cap := by omega
        generalize l[k] = x at hx ht hr
        have HFW := Lib.hid (few06_c x t r wr ht hr)
        obtain ⟨ta, tn, tc, rfl⟩ := ht.slice
        obtain ⟨ra, rn, rc, rfl⟩ := hr.slice
        unfold Ev.val at HFW
        clear ht hr hf
        go_wp2_with ((with_reducible refine wpList_here (.load 32 (.tmp 16)) rfl ?_); refine wpList_load_midW 32 (.tmp 16) rfl b1 (o1 + k * 19) rfl (x.cells (.slice ta tn tc) (.slice ra rn rc)).toList _ hx Tryz.underlying32 rfl Tryz.infoEv rfl ?_)
        refine HFW.out.mono ?_
        rintro e w2 ⟨b, rfl, f2⟩
        have F2 := Lib.hid (HF.out.trans f2)
        clear f2 hx HFW
        cases b
        · go_wp2_with fail
          go_ret
          exact ⟨false, rfl, fun h => (by cases h), F2.out⟩
        · go_wp2_with fail
          go_roundw
          case rel => exact ⟨k + 1, by omega, by go_num, F2.out⟩
          case measure => simp [intOf]; omega
      · have h30' : ¬ (k : Int) < 30 := by omega
        have hi : ¬ (l.length : Int) ≤ 20 := by omega
        clear hf
        go_wp2_with fail
        go_ret
        exact ⟨false, by first | rfl | simp [hi] | (congr 2; simp; omega), fun h => (by cases h), HF.out⟩
    · clear hf
      by_cases h20 : l.length ≤ 20
      · have hi : (l.length : Int) ≤ 20 := by omega
        have H20 := Lib.hid h20
        clear h20
        go_wp2_with fail
        go_ret
        exact ⟨true, by first | rfl | simp [hi], fun _ => H20.out, HF.out⟩
      · have hi : ¬ (l.length : Int) ≤ 20 := by omega
        clear h20
        go_wp2_with fail
        go_ret
        exact ⟨false, by first | rfl | simp [hi], fun h => (by cases h), HF.out⟩
/-- What the law's loop has so far. -/
def WrSt (l : List Ev) (k : Nat) (acc : W8) (bad : Int) : Prop := (bad = 0 ∧ acc = endsOf ((l.take k).map Ev.line) ∧ ∀ x ∈ l.take k, x.may = true) ∨ (bad = 4 ∧ writeT l = ([], 4) ∧ acc.length ≤ 13000000)
set_option maxRecDepth 100000 in
set_option maxHeartbeats 8000000 in
theorem writes06_c (l : List Ev) (v : Value) (w : World) (hE : EnvT w) (hl : RdE w v l) (hok : ∀ x ∈ l, x.Ok) : Calls Tryz.prog 5 #[v] w fun e w' => e = .returned (.bool true) ∧ Fr w w' := by
  have HAL := Lib.hid (all06_c l v w hl)
  have HWK := Lib.hid (fun W (f : Fr w W) => works06_c W (hE.keep f))
  have HWR := Lib.hid (fun W (f : Fr w W) (hn : l.length ≤ 1000) => Write_txt l v W (hE.keep f) (hl.keep f) hok hn)
  obtain ⟨a, cap, rfl, hcap, hmax, _⟩ := id hl
  unfold maxLen at hmax
  have HL := Lib.hid hl
  have HOK := Lib.hid hok
  clear hl hE hok
  go_enter Tryz.func5, Tryz.ntmps5
  go_wp2_with fail
  refine HAL.out.mono ?_
  rintro e w1 ⟨b, rfl, hb20, f1⟩
  have F1 := Lib.hid f1
  clear f1 HAL
  cases b
  · go_wp2_with fail
    refine (HWK.out _ F1.out).mono ?_
    rintro e w2 ⟨rfl, f2⟩
    have F2 := Lib.hid (F1.out.trans f2)
    clear f2
    go_wp2_with fail
    go_ret
    exact ⟨rfl, F2.out⟩
  have h20 := hb20 rfl
  clear hb20
  have HWC := Lib.hid (HWR.out w1 F1.out (by omega))
  clear HWR
  obtain ⟨sw, nw, HSW⟩ : ∃ a, ∃ n : Int, Hid ((writeT l).1 = a ∧ ((writeT l).2 : Int) = n) := ⟨_, _, Lib.hid ⟨rfl, rfl⟩⟩
  unfold StrRet at HWC
  rw [HSW.out.1, HSW.out.2] at HWC
  go_wp2_with fail
  refine HWC.out.mono ?_
  rintro e w2 ⟨rfl, f2⟩
  have F2 := Lib.hid (F1.out.trans f2)
  clear f2 HWC
  go_wp2_with fail
  go_loopw [5, 6, 7] (fun s bd i wr => ∃ (k : Nat) (acc : W8) (n : Int), k ≤ l.length ∧ i = .int .i64 k ∧ s = .string ⟨acc.toArray⟩ ∧ bd = .int .i64 n ∧ Hid (WrSt l k acc n) ∧ Fr w wr) (fun _ _ i _ => l.length - (intOf i).toNat)
  case atStart => exact ⟨0, [], 0, Nat.zero_le _, rfl, rfl, rfl, Lib.hid (.inl ⟨rfl, rfl, fun x hx => by cases hx⟩), F2.out⟩
  case round =>
    obtain ⟨k, acc, n, hk, rfl, rfl, rfl, HST, hf⟩ := hrel
    have HF := Lib.hid hf
    rcases HST.out with ⟨rfl, hacc, hmay⟩ | ⟨rfl, hY, hacl⟩
    · have HM := Lib.hid hmay
      have HA := Lib.hid hacc
      clear hmay
      by_cases hlt : k < l.length
      · obtain ⟨b1, o1, t, r, rfl, hb1, hx, ht, hr⟩ := RdE.at (HL.out.keep hf) hlt
        have hmem := List.getElem_mem hlt
        have ok := HOK.out l[k] hmem
        have hle := ends_len (l := l.take k) (fun x h => HOK.out x (List.mem_of_mem_take h)) HM.out
        rw [List.length_take, ← hacc] at hle
        have hal : acc.length ≤ 300000 := by omega
        have haz := size_mk acc
        have HN := Lib.hid (ends_next hlt)
        rw [← hacc] at HN
        have HBX := Lib.hid (fun (h : ¬ l[k].may = true) => show writeT l = ([], 4) by unfold writeT; rw [if_neg (fun hh => h (List.all_eq_true.1 hh _ hmem))])
        have HMN := Lib.hid (fun (h : l[k].may = true) => show ∀ x ∈ l.take (k + 1), x.may = true by
          intro x hx
          rw [List.take_succ_eq_append_getElem hlt] at hx
          rcases List.mem_append.1 hx with hx | hx
          · exact HM.out x hx
          · rw [List.mem_singleton.1 hx]; exact h)
        generalize l[k] = x at hx ht hr ok HN HBX HMN
        have hk1 : k < cap := by omega
        obtain ⟨ta, tn, tc, rfl⟩ := ht.slice
        obtain ⟨ra, rn, rc, rfl⟩ := hr.slice
        obtain ⟨ax, nx, HSX⟩ : ∃ a, ∃ n : Int, Hid (x.said.1 = a ∧ (x.said.2 : Int) = n) := ⟨_, _, Lib.hid ⟨rfl, rfl⟩⟩
        have HLX : Hid (Calls Tryz.prog 12 #[x.val (.slice ta tn tc) (.slice ra rn rc)] wr fun e w' => e = .returned (.tuple #[.string ⟨ax.toArray⟩, .int .i64 nx]) ∧ Fr wr w') := Lib.hid (by
          have := rLine_c x (x.val (.slice ta tn tc) (.slice ra rn rc)) wr ⟨_, _, rfl, ht, hr⟩ ok
          unfold StrRet at this
          rw [HSX.out.1, HSX.out.2] at this
          exact this)
        have OK := Lib.hid ok
        unfold Ev.val at HLX
        clear ht hr hf hle ok hmem hacc HST
        by_cases hm : x.may = true
        · have hsx := HSX.out
          rw [Ev.said_iff.2 ⟨hm, rfl⟩] at hsx
          obtain ⟨h1, h2⟩ : x.line = ax ∧ (0 : Int) = nx := hsx
          subst h1 h2
          have hls := line_short OK.out hm
          have hlz := size_mk x.line
          have HMM := Lib.hid (HMN.out hm)
          clear hm HSX HBX HMN OK HA
          generalize x.line = q at hls hlz HN HLX
          go_wp2_with ((with_reducible refine wpList_here (.load 32 (.tmp 32)) rfl ?_); refine wpList_load_midW 32 (.tmp 32) rfl b1 (o1 + k * 19) rfl (x.cells (.slice ta tn tc) (.slice ra rn rc)).toList _ hx Tryz.underlying32 rfl Tryz.infoEv rfl ?_)
          refine HLX.out.mono ?_
          rintro e w4 ⟨rfl, f4⟩
          have F4 := Lib.hid (HF.out.trans f4)
          clear f4 hx HLX
          go_wp2_with fail
          go_roundw
          case rel => exact ⟨k + 1, acc ++ q ++ [10], 0, by omega, by go_num, by rw [mk_append, mk_append], rfl, Lib.hid (.inl ⟨rfl, HN.out.symm, HMM.out⟩), F4.out⟩
          case measure => simp [intOf]; omega
        · have hsx := HSX.out
          rw [show x.said = ([], 4) by unfold Ev.said; rw [if_neg hm]] at hsx
          obtain ⟨h1, h2⟩ : [] = ax ∧ (4 : Int) = nx := hsx
          subst h1 h2
          have HY := Lib.hid (HBX.out hm)
          clear hm HSX HMN HBX OK HA
          go_wp2_with ((with_reducible refine wpList_here (.load 32 (.tmp 32)) rfl ?_); refine wpList_load_midW 32 (.tmp 32) rfl b1 (o1 + k * 19) rfl (x.cells (.slice ta tn tc) (.slice ra rn rc)).toList _ hx Tryz.underlying32 rfl Tryz.infoEv rfl ?_)
          refine HLX.out.mono ?_
          rintro e w4 ⟨rfl, f4⟩
          have F4 := Lib.hid (HF.out.trans f4)
          clear f4 hx HLX
          go_wp2_with fail
          go_roundw
          case rel => exact ⟨k + 1, acc ++ [] ++ [10], 4, by omega, by go_num, by rw [← mk_append, ← mk_append], rfl, Lib.hid (.inr ⟨rfl, HY.out, by simp; omega⟩), F4.out⟩
          case measure => simp [intOf]; omega
      · have hkl : l.take k = l := List.take_of_length_le (by omega)
        have hsw := HSW.out
        rw [show writeT l = (acc, 0) by unfold writeT; rw [if_pos (List.all_eq_true.2 (by rw [← hkl]; exact HM.out)), hacc, hkl]] at hsw
        obtain ⟨h1, h2⟩ : acc = sw ∧ (0 : Int) = nw := hsw
        subst h1 h2
        clear hkl hacc HA hf HST HSW
        go_wp2_with fail
        refine (HWK.out _ HF.out).mono ?_
        rintro e w4 ⟨rfl, f4⟩
        have F4 := Lib.hid (HF.out.trans f4)
        clear f4
        go_wp2_with fail
        go_ret
        exact ⟨rfl, F4.out⟩
    · have hsw := HSW.out
      rw [hY] at hsw
      obtain ⟨h1, h2⟩ : [] = sw ∧ (4 : Int) = nw := hsw
      subst h1 h2
      clear hY hf HST HSW hacl
      by_cases hlt : k < l.length
      all_goals
        go_wp2_with fail
        refine (HWK.out _ HF.out).mono ?_
        rintro e w4 ⟨rfl, f4⟩
        have F4 := Lib.hid (HF.out.trans f4)
        clear f4
        go_wp2_with fail
        go_ret
        exact ⟨rfl, F4.out⟩
end Go.Proofs.YtfklgaeejmeipaaGreatDoor
