/- The walks of umpire/op: which kind an operation is, whether it may be, whose it is. No condition but the tables' content ('Env') and the numbers' bounds. -/
import Derived.Test.YtgdocjdojgkjjaaDoorBase
namespace Go.Proofs.YtgdocjdojgkjjaaDoor
open Go.RowKit

theorem find_no (f : Int) (w : World) (h0 : 0 ≤ f) (h1 : f ≤ 255) (h : f = 0 ∨ 12 ≤ f) :
    Calls Tryd.prog 25 #[.int .u8 f] w fun e w' => e = .returned (.tuple #[.agg #[.int .u8 0, .string ⟨#[]⟩, .int .u8 0], .bool false]) ∧ Fr w w' := by
  rcases h with h | h
  · subst h
    go_enter Tryd.func25, Tryd.ntmps25
    go_wp2
    exact bodyPost_ret (v := .tuple #[.agg #[.int .u8 0, .string ⟨#[]⟩, .int .u8 0], .bool false]) (by simp [results, Tryd.results25, go_sem]) rfl ⟨rfl, (Fr.refl _).alloc _⟩
  · go_enter Tryd.func25, Tryd.ntmps25
    go_wp2
    exact bodyPost_ret (v := .tuple #[.agg #[.int .u8 0, .string ⟨#[]⟩, .int .u8 0], .bool false]) (by simp [results, Tryd.results25, go_sem]) rfl ⟨rfl, (Fr.refl _).alloc _⟩

theorem find_yes (f : Nat) (w : World) (h0 : 1 ≤ f) (h1 : f ≤ 11) (hE : Env w) :
    Calls Tryd.prog 25 #[.int .u8 f] w fun e w' => e = .returned (.tuple #[.agg #[.int .u8 (kModel f), .string ⟨(kName f).toArray⟩, .int .u8 (kNeeds f)], .bool true]) ∧ Fr w w' := by
  have c0 := hE.kinds.model f h0 h1
  have c1 := hE.kinds.name f h0 h1
  have c2 := hE.kinds.needs f h0 h1
  have hz : 0 < w.heap.size := lt_of_cell c0
  have hf0 : ((f : Int) == 0) = false := by simp; omega
  clear hE
  go_enter Tryd.func25, Tryd.ntmps25
  go_wp2
  exact bodyPost_ret (v := .tuple #[.agg #[.int .u8 (kModel f), .string ⟨(kName f).toArray⟩, .int .u8 (kNeeds f)], .bool true]) (by simp [results, Tryd.results25, go_sem, hz]) rfl ⟨rfl, (Fr.refl _).alloc _⟩

def hasK (f : Int) : Bool := bits BinOp.and IntKind.u8 (kNeeds f) 1 != 0
def hasA (f : Int) : Bool := bits BinOp.and IntKind.u8 (kNeeds f) 2 != 0
def hasB (f : Int) : Bool := bits BinOp.and IntKind.u8 (kNeeds f) 4 != 0
def mayB (F O K A B : Int) : Bool := decide (1 ≤ F) && decide (F ≤ 11) && decide (O < 8) && decide (K < 8) && (hasK F || K == 0) && (hasA F || A == 0) && (hasB F || B == 0)

theorem may_c (F : Nat) (O K A B : Int) (w : World) (hE : Env w) (hF : F ≤ 255) :
    Calls Tryd.prog 18 #[.agg #[.int .u8 F, .int .u8 O, .int .u8 K, .int .u16 A, .int .u16 B]] w fun e w' => e = .returned (.bool (mayB F O K A B)) ∧ Fr w w' := by
  by_cases hf : 1 ≤ F ∧ F ≤ 11
  · obtain ⟨h1, h2⟩ := hf
    have HM : Hid (mayB F O K A B = (decide (O < 8) && decide (K < 8) && (hasK F || K == 0) && (hasA F || A == 0) && (hasB F || B == 0))) := by
      unfold Hid mayB; rw [show decide (1 ≤ (F : Int)) = true by simp; omega, show decide ((F : Int) ≤ 11) = true by simp; omega]; simp
    go_enter Tryd.func18, Tryd.ntmps18
    go_wp2_with (go_at_call 25; refine (find_yes F _ h1 h2 (by repeat (first | assumption | apply Env.alloc))).mono ?_; rintro e w1 ⟨rfl, hb⟩; have hc := hb.cell; have hz := hb.size1)
    all_goals
      go_ret
      refine ⟨?_, ?_⟩
      · rw [HM.out]; first | (simp_all [hasK, hasA, hasB]; done) | (simp_all [hasK, hasA, hasB]; intros; omega)
      · repeat (first | exact Fr.refl _ | assumption | apply Fr.alloc | refine Fr.trans ?_ (by assumption))
  · have HM : Hid (mayB F O K A B = false) := by
      unfold Hid mayB
      rcases Nat.lt_or_ge F 1 with h | h
      · rw [show decide (1 ≤ (F : Int)) = false by simp; omega]; simp
      · rw [show decide ((F : Int) ≤ 11) = false by simp; omega]; simp
    go_enter Tryd.func18, Tryd.ntmps18
    go_wp2_with (go_at_call 25; refine (find_no F _ (by omega) (by omega) (by omega)).mono ?_; rintro e w1 ⟨rfl, hb⟩; have hc := hb.cell; have hz := hb.size1)
    all_goals
      go_ret
      refine ⟨?_, ?_⟩
      · rw [HM.out]; rfl
      · repeat (first | exact Fr.refl _ | assumption | apply Fr.alloc | refine Fr.trans ?_ (by assumption))

theorem Model_no (f : Int) (w : World) (h0 : 0 ≤ f) (h1 : f ≤ 255) (h : f = 0 ∨ 12 ≤ f) :
    Calls Tryd.prog 17 #[.int .u8 f] w fun e w' => e = .returned (.tuple #[.int .u8 0, .bool false]) ∧ Fr w w' := by
  go_enter Tryd.func17, Tryd.ntmps17
  go_wp2_with (go_at_call 25; refine (find_no f _ h0 h1 h).mono ?_; rintro e w1 ⟨rfl, hb⟩; have hc := hb.cell; have hz := hb.size)
  go_ret2
  exact ⟨rfl, by repeat (first | exact Fr.refl _ | assumption | apply Fr.alloc | refine Fr.trans ?_ (by assumption))⟩
theorem Model_yes (f : Nat) (w : World) (h0 : 1 ≤ f) (h1 : f ≤ 11) (hE : Env w) :
    Calls Tryd.prog 17 #[.int .u8 f] w fun e w' => e = .returned (.tuple #[.int .u8 (kModel f), .bool true]) ∧ Fr w w' := by
  go_enter Tryd.func17, Tryd.ntmps17
  go_wp2_with (go_at_call 25; refine (find_yes f _ h0 h1 hE).mono ?_; rintro e w1 ⟨rfl, hb⟩; have hc := hb.cell; have hz := hb.size)
  go_ret2
  exact ⟨rfl, by repeat (first | exact Fr.refl _ | assumption | apply Fr.alloc | refine Fr.trans ?_ (by assumption))⟩

/-- Whose an operation is, as op.Check tells. -/
def checkN (m F O K A B : Int) : Int := if mayB F O K A B && kModel F == m then 0 else 10

theorem Check_c (m : Int) (F : Nat) (O K A B : Int) (w : World) (hE : Env w) (hF : F ≤ 255) :
    Calls Tryd.prog 11 #[.int .u8 m, .agg #[.int .u8 F, .int .u8 O, .int .u8 K, .int .u16 A, .int .u16 B]] w fun e w' => e = .returned (.int .i64 (checkN m F O K A B)) ∧ Fr w w' := by
  by_cases hf : 1 ≤ F ∧ F ≤ 11
  · obtain ⟨h1, h2⟩ := hf
    go_enter Tryd.func11, Tryd.ntmps11
    go_wp2_with (first | (go_at_call 17; refine (Model_yes F _ h1 h2 (by repeat (first | assumption | apply Env.alloc))).mono ?_; rintro e w1 ⟨rfl, hb⟩; have hc := hb.cell; have hz := hb.size1; have hE1 := Env.keep (by repeat (first | assumption | apply Env.alloc)) hb) | (go_at_call 18; refine (may_c F O K A B _ hE1 hF).mono ?_; rintro e w2 ⟨rfl, hb2⟩; cases hm : mayB F O K A B))
    all_goals
      go_ret
      refine ⟨?_, ?_⟩
      · first | (simp_all [checkN]; done) | (unfold checkN; rw [hm]; simp_all; done)
      · repeat (first | exact Fr.refl _ | assumption | apply Fr.alloc | refine Fr.trans ?_ (by assumption))
  · have hm : mayB F O K A B = false := by
      unfold mayB
      rcases Nat.lt_or_ge F 1 with h | h
      · rw [show decide (1 ≤ (F : Int)) = false by simp; omega]; simp
      · rw [show decide ((F : Int) ≤ 11) = false by simp; omega]; simp
    have HM := Lib.hid hm
    clear hm
    go_enter Tryd.func11, Tryd.ntmps11
    go_wp2_with (first | (go_at_call 17; refine (Model_no F _ (by omega) (by omega) (by omega)).mono ?_; rintro e w1 ⟨rfl, hb⟩; have hc := hb.cell; have hz := hb.size1; have hE1 := Env.keep (by repeat (first | assumption | apply Env.alloc)) hb) | (go_at_call 18; refine (may_c F O K A B _ hE1 hF).mono ?_; rw [HM.out]; rintro e w2 ⟨rfl, hb2⟩))
    all_goals
      go_ret
      refine ⟨?_, ?_⟩
      · rw [checkN, HM.out]; rfl
      · repeat (first | exact Fr.refl _ | assumption | apply Fr.alloc | refine Fr.trans ?_ (by assumption))
end Go.Proofs.YtgdocjdojgkjjaaDoor
