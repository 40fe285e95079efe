/- The walks of umpireref04: Of, May, Check: as op's own (mayB, checkN). No condition but the numbers' bounds. -/
import Derived.Test.YthaocbmkkgeomaaDoorPBase
set_option linter.all false
set_option linter.unusedVariables false
set_option linter.unusedSimpArgs false
set_option linter.unnecessarySimpa false
/- The walks of umpireref04: Of, May, Check: as op's own (mayB, checkN). No condition but the numbers' bounds. -/
namespace Go.Proofs.YthaocbmkkgeomaaDoor
open Go.RowKit

theorem eleven {f : Int} (h0 : 1 ≤ f) (h1 : f ≤ 11) : f = 1 ∨ f = 2 ∨ f = 3 ∨ f = 4 ∨ f = 5 ∨ f = 6 ∨ f = 7 ∨ f = 8 ∨ f = 9 ∨ f = 10 ∨ f = 11 := by omega

theorem rOf_1 (w : World) :
    Calls Tryd.prog 43 #[.int .u8 1] w fun e w' => e = .returned (.tuple #[.agg #[.int .i64 0, .string ⟨#[114, 101, 97, 100]⟩, .bool false, .bool false, .bool false], .bool true]) ∧ Fr w w' := by
  go_enter Tryd.func43, Tryd.ntmps43
  go_wp2
  exact bodyPost_ret (v := .tuple #[.agg #[.int .i64 0, .string ⟨#[114, 101, 97, 100]⟩, .bool false, .bool false, .bool false], .bool true]) (by simp [results, Tryd.results43, go_sem]) rfl ⟨rfl, (Fr.refl _).alloc _⟩
theorem rOf_2 (w : World) :
    Calls Tryd.prog 43 #[.int .u8 2] w fun e w' => e = .returned (.tuple #[.agg #[.int .i64 0, .string ⟨#[119, 114, 105, 116, 101]⟩, .bool false, .bool true, .bool false], .bool true]) ∧ Fr w w' := by
  go_enter Tryd.func43, Tryd.ntmps43
  go_wp2
  exact bodyPost_ret (v := .tuple #[.agg #[.int .i64 0, .string ⟨#[119, 114, 105, 116, 101]⟩, .bool false, .bool true, .bool false], .bool true]) (by simp [results, Tryd.results43, go_sem]) rfl ⟨rfl, (Fr.refl _).alloc _⟩
theorem rOf_3 (w : World) :
    Calls Tryd.prog 43 #[.int .u8 3] w fun e w' => e = .returned (.tuple #[.agg #[.int .i64 0, .string ⟨#[99, 97, 115]⟩, .bool false, .bool true, .bool true], .bool true]) ∧ Fr w w' := by
  go_enter Tryd.func43, Tryd.ntmps43
  go_wp2
  exact bodyPost_ret (v := .tuple #[.agg #[.int .i64 0, .string ⟨#[99, 97, 115]⟩, .bool false, .bool true, .bool true], .bool true]) (by simp [results, Tryd.results43, go_sem]) rfl ⟨rfl, (Fr.refl _).alloc _⟩
theorem rOf_4 (w : World) :
    Calls Tryd.prog 43 #[.int .u8 4] w fun e w' => e = .returned (.tuple #[.agg #[.int .i64 1, .string ⟨#[101, 110, 113]⟩, .bool false, .bool true, .bool false], .bool true]) ∧ Fr w w' := by
  go_enter Tryd.func43, Tryd.ntmps43
  go_wp2
  exact bodyPost_ret (v := .tuple #[.agg #[.int .i64 1, .string ⟨#[101, 110, 113]⟩, .bool false, .bool true, .bool false], .bool true]) (by simp [results, Tryd.results43, go_sem]) rfl ⟨rfl, (Fr.refl _).alloc _⟩
theorem rOf_5 (w : World) :
    Calls Tryd.prog 43 #[.int .u8 5] w fun e w' => e = .returned (.tuple #[.agg #[.int .i64 1, .string ⟨#[100, 101, 113]⟩, .bool false, .bool false, .bool false], .bool true]) ∧ Fr w w' := by
  go_enter Tryd.func43, Tryd.ntmps43
  go_wp2
  exact bodyPost_ret (v := .tuple #[.agg #[.int .i64 1, .string ⟨#[100, 101, 113]⟩, .bool false, .bool false, .bool false], .bool true]) (by simp [results, Tryd.results43, go_sem]) rfl ⟨rfl, (Fr.refl _).alloc _⟩
theorem rOf_6 (w : World) :
    Calls Tryd.prog 43 #[.int .u8 6] w fun e w' => e = .returned (.tuple #[.agg #[.int .i64 2, .string ⟨#[103, 101, 116]⟩, .bool true, .bool false, .bool false], .bool true]) ∧ Fr w w' := by
  go_enter Tryd.func43, Tryd.ntmps43
  go_wp2
  exact bodyPost_ret (v := .tuple #[.agg #[.int .i64 2, .string ⟨#[103, 101, 116]⟩, .bool true, .bool false, .bool false], .bool true]) (by simp [results, Tryd.results43, go_sem]) rfl ⟨rfl, (Fr.refl _).alloc _⟩
theorem rOf_7 (w : World) :
    Calls Tryd.prog 43 #[.int .u8 7] w fun e w' => e = .returned (.tuple #[.agg #[.int .i64 2, .string ⟨#[112, 117, 116]⟩, .bool true, .bool true, .bool false], .bool true]) ∧ Fr w w' := by
  go_enter Tryd.func43, Tryd.ntmps43
  go_wp2
  exact bodyPost_ret (v := .tuple #[.agg #[.int .i64 2, .string ⟨#[112, 117, 116]⟩, .bool true, .bool true, .bool false], .bool true]) (by simp [results, Tryd.results43, go_sem]) rfl ⟨rfl, (Fr.refl _).alloc _⟩
theorem rOf_8 (w : World) :
    Calls Tryd.prog 43 #[.int .u8 8] w fun e w' => e = .returned (.tuple #[.agg #[.int .i64 2, .string ⟨#[100, 101, 108]⟩, .bool true, .bool false, .bool false], .bool true]) ∧ Fr w w' := by
  go_enter Tryd.func43, Tryd.ntmps43
  go_wp2
  exact bodyPost_ret (v := .tuple #[.agg #[.int .i64 2, .string ⟨#[100, 101, 108]⟩, .bool true, .bool false, .bool false], .bool true]) (by simp [results, Tryd.results43, go_sem]) rfl ⟨rfl, (Fr.refl _).alloc _⟩
theorem rOf_9 (w : World) :
    Calls Tryd.prog 43 #[.int .u8 9] w fun e w' => e = .returned (.tuple #[.agg #[.int .i64 2, .string ⟨#[115, 119, 97, 112]⟩, .bool true, .bool true, .bool true], .bool true]) ∧ Fr w w' := by
  go_enter Tryd.func43, Tryd.ntmps43
  go_wp2
  exact bodyPost_ret (v := .tuple #[.agg #[.int .i64 2, .string ⟨#[115, 119, 97, 112]⟩, .bool true, .bool true, .bool true], .bool true]) (by simp [results, Tryd.results43, go_sem]) rfl ⟨rfl, (Fr.refl _).alloc _⟩
theorem rOf_10 (w : World) :
    Calls Tryd.prog 43 #[.int .u8 10] w fun e w' => e = .returned (.tuple #[.agg #[.int .i64 3, .string ⟨#[97, 99, 113, 117, 105, 114, 101]⟩, .bool false, .bool false, .bool false], .bool true]) ∧ Fr w w' := by
  go_enter Tryd.func43, Tryd.ntmps43
  go_wp2
  exact bodyPost_ret (v := .tuple #[.agg #[.int .i64 3, .string ⟨#[97, 99, 113, 117, 105, 114, 101]⟩, .bool false, .bool false, .bool false], .bool true]) (by simp [results, Tryd.results43, go_sem]) rfl ⟨rfl, (Fr.refl _).alloc _⟩
theorem rOf_11 (w : World) :
    Calls Tryd.prog 43 #[.int .u8 11] w fun e w' => e = .returned (.tuple #[.agg #[.int .i64 3, .string ⟨#[114, 101, 108, 101, 97, 115, 101]⟩, .bool false, .bool false, .bool false], .bool true]) ∧ Fr w w' := by
  go_enter Tryd.func43, Tryd.ntmps43
  go_wp2
  exact bodyPost_ret (v := .tuple #[.agg #[.int .i64 3, .string ⟨#[114, 101, 108, 101, 97, 115, 101]⟩, .bool false, .bool false, .bool false], .bool true]) (by simp [results, Tryd.results43, go_sem]) rfl ⟨rfl, (Fr.refl _).alloc _⟩
theorem rOf_yes (f : Int) (w : World) (h0 : 1 ≤ f) (h1 : f ≤ 11) :
    Calls Tryd.prog 43 #[.int .u8 f] w fun e w' => e = .returned (.tuple #[.agg #[.int .i64 (kModel f), .string ⟨(kName f).toArray⟩, .bool (hasK f), .bool (hasA f), .bool (hasB f)], .bool true]) ∧ Fr w w' := by
  rcases eleven h0 h1 with h | h | h | h | h | h | h | h | h | h | h
  · subst h; exact rOf_1 w
  · subst h; exact rOf_2 w
  · subst h; exact rOf_3 w
  · subst h; exact rOf_4 w
  · subst h; exact rOf_5 w
  · subst h; exact rOf_6 w
  · subst h; exact rOf_7 w
  · subst h; exact rOf_8 w
  · subst h; exact rOf_9 w
  · subst h; exact rOf_10 w
  · subst h; exact rOf_11 w
theorem rOf_no (f : Int) (w : World) (h0 : 0 ≤ f) (h1 : f ≤ 255) (h : f = 0 ∨ 12 ≤ f) :
    Calls Tryd.prog 43 #[.int .u8 f] w fun e w' => e = .returned (.tuple #[.agg #[.int .i64 0, .string ⟨#[]⟩, .bool false, .bool false, .bool false], .bool false]) ∧ Fr w w' := by
  go_enter Tryd.func43, Tryd.ntmps43
  go_wp2
  exact bodyPost_ret (v := .tuple #[.agg #[.int .i64 0, .string ⟨#[]⟩, .bool false, .bool false, .bool false], .bool false]) (by simp [results, Tryd.results43, go_sem]) rfl ⟨rfl, (Fr.refl _).alloc _⟩

theorem rMay_c (F : Nat) (O K A B : Int) (w : World) (hF : F ≤ 255) :
    Calls Tryd.prog 68 #[.agg #[.int .u8 F, .int .u8 O, .int .u8 K, .int .u16 A, .int .u16 B]] w fun e w' => e = .returned (.bool (mayB F O K A B)) ∧ Fr w w' := by
  by_cases hf : 1 ≤ F ∧ F ≤ 11
  · obtain ⟨h1, h2⟩ := hf
    have HM : Hid (mayB F O K A B = (decide (O < 8) && decide (K < 8) && (hasK F || K == 0) && (hasA F || A == 0) && (hasB F || B == 0))) := by
      unfold Hid mayB; rw [show decide (1 ≤ (F : Int)) = true by simp; omega, show decide ((F : Int) ≤ 11) = true by simp; omega]; simp
    go_enter Tryd.func68, Tryd.ntmps68
    go_wp2_with (go_at_call 43; refine (rOf_yes F _ (by omega) (by omega)).mono ?_; rintro e w1 ⟨rfl, hb⟩; have hc := hb.cell; have hz := hb.size1)
    all_goals
      go_ret
      refine ⟨?_, ?_⟩
      · rw [HM.out]; first | (simp_all; done) | (simp_all; intros; omega)
      · repeat (first | exact Fr.refl _ | assumption | apply Fr.alloc | refine Fr.trans ?_ (by assumption))
  · have HM : Hid (mayB F O K A B = false) := by
      unfold Hid mayB
      rcases Nat.lt_or_ge F 1 with h | h
      · rw [show decide (1 ≤ (F : Int)) = false by simp; omega]; simp
      · rw [show decide ((F : Int) ≤ 11) = false by simp; omega]; simp
    go_enter Tryd.func68, Tryd.ntmps68
    go_wp2_with (go_at_call 43; refine (rOf_no F _ (by omega) (by omega) (by omega)).mono ?_; rintro e w1 ⟨rfl, hb⟩; have hc := hb.cell; have hz := hb.size1)
    all_goals
      go_ret
      refine ⟨?_, ?_⟩
      · rw [HM.out]; rfl
      · repeat (first | exact Fr.refl _ | assumption | apply Fr.alloc | refine Fr.trans ?_ (by assumption))

theorem rCheck_c (m : Int) (F : Nat) (O K A B : Int) (w : World) (hm0 : 0 ≤ m) (hm1 : m ≤ 255) (hF : F ≤ 255) :
    Calls Tryd.prog 46 #[.int .u8 m, .agg #[.int .u8 F, .int .u8 O, .int .u8 K, .int .u16 A, .int .u16 B]] w fun e w' => e = .returned (.int .i64 (checkN m F O K A B)) ∧ Fr w w' := by
  by_cases hf : 1 ≤ F ∧ F ≤ 11
  · obtain ⟨h1, h2⟩ := hf
    go_enter Tryd.func46, Tryd.ntmps46
    go_wp2_with (first | (go_at_call 43; refine (rOf_yes F _ (by omega) (by omega)).mono ?_; rintro e w1 ⟨rfl, hb⟩; have hc := hb.cell; have hz := hb.size1) | (go_at_call 68; refine (rMay_c F O K A B _ hF).mono ?_; rintro e w2 ⟨rfl, hb2⟩; have hc2 := hb2.cell; have hz2 := hb2.size1; cases hm : mayB F O K A B))
    all_goals
      go_ret
      refine ⟨?_, ?_⟩
      · first | (simp_all [checkN]; done) | (unfold checkN; rw [hm]; simp_all; done)
      · repeat (first | exact Fr.refl _ | assumption | apply Fr.alloc | refine Fr.trans ?_ (by assumption))
  · have hm : mayB F O K A B = false := by
      unfold mayB
      rcases Nat.lt_or_ge F 1 with h | h
      · rw [show decide (1 ≤ (F : Int)) = false by simp; omega]; simp
      · rw [show decide ((F : Int) ≤ 11) = false by simp; omega]; simp
    have HM := Lib.hid hm
    clear hm
    go_enter Tryd.func46, Tryd.ntmps46
    go_wp2_with (first | (go_at_call 43; refine (rOf_no F _ (by omega) (by omega) (by omega)).mono ?_; rintro e w1 ⟨rfl, hb⟩; have hc := hb.cell; have hz := hb.size1) | (go_at_call 68; refine (rMay_c F O K A B _ hF).mono ?_; rw [HM.out]; rintro e w2 ⟨rfl, hb2⟩; have hc2 := hb2.cell; have hz2 := hb2.size1))
    all_goals
      go_ret
      refine ⟨?_, ?_⟩
      · rw [checkN, HM.out]; rfl
      · repeat (first | exact Fr.refl _ | assumption | apply Fr.alloc | refine Fr.trans ?_ (by assumption))
end Go.Proofs.YthaocbmkkgeomaaDoor
