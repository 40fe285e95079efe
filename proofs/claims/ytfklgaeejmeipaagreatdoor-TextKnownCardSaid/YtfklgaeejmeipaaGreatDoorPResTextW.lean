/- result.Text and umpireref03.Text: the walks. No condition but the numbers' bounds and what the table of words holds. -/
import Derived.Test.YtfklgaeejmeipaaGreatDoorPKinds
import Derived.Test.YtfklgaeejmeipaaGreatDoorPResText
import Derived.Test.YtfklgaeejmeipaaGreatDoorPItoa
import Derived.Test.YtfklgaeejmeipaaGreatDoorPNum
set_option linter.all false
set_option linter.unusedVariables false
set_option linter.unusedSimpArgs false
set_option linter.unnecessarySimpa false
/- result.Text and umpireref03.Text: the walks. No condition but the numbers' bounds and what the table of words holds. -/
namespace Go.Proofs.YtfklgaeejmeipaaGreatDoor
open Go.RowKit

theorem ret_str2e {a : ByteArray} {l : List UInt8} {v : Value} (h : a.data.toList = l) : Ending.returned (.tuple #[.string a, v]) = Ending.returned (.tuple #[.string ⟨l.toArray⟩, v]) := by subst h; simp
/-- It returns a text and a number. -/
def StrRet (w : World) (x : List UInt8 × Nat) (e : Ending) (w' : World) : Prop := e = .returned (.tuple #[.string ⟨x.1.toArray⟩, .int .i64 x.2]) ∧ Fr w w'
theorem resText_c (K V : Nat) (w : World) (hE : EnvR w) (hV : V < 65536) :
    Calls Tryz.prog 32 #[.agg #[.int .u8 K, .int .u16 V]] w (StrRet w (textRes K V)) := by
  have hchk := fun W => resCheck_c K V W
  cases hg : goodB K V
  · have HR : Hid (textRes K V = ([], 4)) := by simp [Hid, textRes, hg]
    have HC : Hid (checkRes K V = 4) := by simp [Hid, checkRes, hg]
    rw [HC.out] at hchk
    rw [HR.out]
    have HK := Lib.hid hchk
    clear hg hchk hE
    go_enter Tryz.func32, Tryz.ntmps32
    go_wp2_with fail
    refine (HK.out _).mono ?_
    rintro e w1 ⟨rfl, hb⟩
    go_wp2
    go_ret2
    exact ⟨rfl, Fr.trans ((Fr.refl _).alloc _) hb⟩
  · have HR : Hid (textRes K V = (resText K V, 0)) := by simp [Hid, textRes, hg]
    have HC : Hid (checkRes K V = 0) := by simp [Hid, checkRes, hg]
    rw [HC.out] at hchk
    rw [HR.out]
    have HK := Lib.hid hchk
    obtain ⟨hK5, hK0⟩ := good_lt hg
    have hwd := hE.words K hK5
    have hK5i : (K : Int) < 5 := by omega
    clear hg hchk hK0
    by_cases h1 : K = 1
    · subst h1
      have hit := fun W (f : Fr w W) => Itoa_c V W (hE.keep f).toEnv0 (by omega)
      have HI := Lib.hid hit
      have hlen : (Lib.decDigits V).length ≤ 5 := decDigits_len5 hV
      clear hit hE
      have hr1 : resWord 1 = [118, 97, 108, 117, 101] := rfl
      rw [hr1] at hwd
      go_enter Tryz.func32, Tryz.ntmps32
      go_wp2_with fail
      refine (HK.out _).mono ?_
      rintro e w1 ⟨rfl, hb⟩
      have hf1 := Fr.trans ((Fr.refl _).alloc (.cells #[.int .u8 1, .int .u16 V] 26)) hb
      have b0 : w1.cell? ⟨w.heap.size, 0, none⟩ = some (.int .u8 1) := hb.keep (by simp)
      have b1 : w1.cell? ⟨w.heap.size, 1, none⟩ = some (.int .u16 V) := hb.keep (by simp)
      have hw1 := hf1.keep hwd
      have hz := hb.size1
      have hgz := lt_of_cell hw1
      simp only at hgz
      clear hwd
      go_wp2_with fail
      refine (HI.out _ hf1).mono ?_
      rintro e w2 ⟨rfl, hb2⟩
      go_wp2
      go_ret2
      exact ⟨ret_str2e (by simp [resText, resWord]), hf1.trans hb2⟩
    · have hr1 : resText K V = resWord K := by simp [resText, h1]
      have HW := Lib.hid hr1
      have hk1 : ((K : Int) == 1) = false := by simp; omega
      clear h1 hE hr1
      go_enter Tryz.func32, Tryz.ntmps32
      go_wp2_with fail
      refine (HK.out _).mono ?_
      rintro e w1 ⟨rfl, hb⟩
      have hf1 := Fr.trans ((Fr.refl _).alloc (.cells #[.int .u8 K, .int .u16 V] 26)) hb
      have b0 : w1.cell? ⟨w.heap.size, 0, none⟩ = some (.int .u8 K) := hb.keep (by simp)
      have hw1 := hf1.keep hwd
      have hz := hb.size1
      have hgz := lt_of_cell hw1
      simp only at hgz
      clear hwd
      go_wp2
      go_ret2
      exact ⟨by rw [HW.out]; rfl, hf1⟩
theorem rText_c (K V : Nat) (w : World) (hV : V < 65536) :
    Calls Tryz.prog 40 #[.agg #[.int .u8 K, .int .u16 V]] w (StrRet w (textRes K V)) := by
  have hgood := fun W => rGood_c K V W
  cases hg : goodB K V
  · have HR : Hid (textRes K V = ([], 4)) := by simp [Hid, textRes, hg]
    rw [hg] at hgood
    rw [HR.out]
    have HK := Lib.hid hgood
    clear hg hgood
    go_enter Tryz.func40, Tryz.ntmps40
    go_wp2_with fail
    refine (HK.out _).mono ?_
    rintro e w1 ⟨rfl, hb⟩
    go_wp2
    go_ret2
    exact ⟨rfl, Fr.trans ((Fr.refl _).alloc _) hb⟩
  · have HR : Hid (textRes K V = (resText K V, 0)) := by simp [Hid, textRes, hg]
    rw [hg] at hgood
    rw [HR.out]
    have HK := Lib.hid hgood
    obtain ⟨hK5, hK0⟩ := good_lt hg
    have HD := Lib.hid (fun W => digits3_c V W hV)
    have hlen : (Lib.decDigits V).length ≤ 5 := decDigits_len5 hV
    clear hg hgood hK0
    rcases (show K = 0 ∨ K = 1 ∨ K = 2 ∨ K = 3 ∨ K = 4 by omega) with rfl | rfl | rfl | rfl | rfl
    all_goals
      go_enter Tryz.func40, Tryz.ntmps40
      go_wp2_with fail
      refine (HK.out _).mono ?_
      rintro e w1 ⟨rfl, hb⟩
      have hf1 := Fr.trans ((Fr.refl _).alloc (.cells #[.int .u8 _, .int .u16 V] 26)) hb
      have b0 := hb.keep (p := ⟨w.heap.size, 0, none⟩) (v := .int .u8 _) (by simp; rfl)
      have b1 := hb.keep (p := ⟨w.heap.size, 1, none⟩) (v := .int .u16 V) (by simp)
      have hz := hb.size1
      first
        | (go_wp2_with fail
           go_ret2
           exact ⟨by simp [resText, resWord], hf1⟩)
        | (go_wp2_with fail
           refine (HD.out _).mono ?_
           rintro e w2 ⟨rfl, hb2⟩
           go_wp2
           go_ret2
           exact ⟨ret_str2e (by simp [resText, resWord]), hf1.trans hb2⟩)
end Go.Proofs.YtfklgaeejmeipaaGreatDoor
