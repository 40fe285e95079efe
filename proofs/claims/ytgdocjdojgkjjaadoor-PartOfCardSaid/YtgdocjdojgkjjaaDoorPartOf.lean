/- The walks of part.Of, part.Count and of umpireref21's: whose part an operation is, how many there are. No condition but the tables' content and the numbers' bounds. -/
import Derived.Test.YtgdocjdojgkjjaaDoorRefOp
namespace Go.Proofs.YtgdocjdojgkjjaaDoor
open Go.RowKit

theorem checkN_01 (m F O K A B : Int) : checkN m F O K A B = 0 ∨ checkN m F O K A B = 10 := by unfold checkN; split <;> simp
theorem checkN_model {m F O K A B : Int} (h : checkN m F O K A B = 0) : m = kModel F := by
  unfold checkN at h; split at h
  · rename_i h'; simp at h'; exact h'.2.symm
  · omega
theorem kModel_le (F : Int) : 0 ≤ kModel F ∧ kModel F ≤ 3 := by unfold kModel; repeat' split <;> omega
/-- The part of an operation. -/
def partN (m O K : Int) (p : Bool) : Int := if p then (if m = 2 then 8 * O + K else O) else 0
def countN (m : Int) (p : Bool) : Int := if 4 ≤ m then 0 else if p then (if m = 2 then 64 else 8) else 1

theorem Of_no (m : Int) (F : Nat) (O K A B : Int) (p : Bool) (w : World) (hE : Env w) (hF : F ≤ 255) (h : checkN m F O K A B = 10) :
    Calls Tryd.prog 4 #[.int .u8 m, .agg #[.int .u8 F, .int .u8 O, .int .u8 K, .int .u16 A, .int .u16 B], .bool p] w fun e w' => e = .returned (.tuple #[.int .i64 0, .int .i64 10]) ∧ Fr w w' := by
  have H := Lib.hid h; clear h
  go_enter Tryd.func4, Tryd.ntmps4
  go_wp2_with (go_at_call 11; refine (Check_c m F O K A B _ (by repeat (first | assumption | apply Env.alloc)) hF).mono ?_; rw [H.out]; rintro e w1 ⟨rfl, hb⟩; have hc := hb.cell; have hz := hb.size1)
  go_ret2
  exact ⟨rfl, by repeat (first | exact Fr.refl _ | assumption | apply Fr.alloc | refine Fr.trans ?_ (by assumption))⟩

theorem Of_yes (m : Int) (F : Nat) (O K A B : Int) (p : Bool) (w : World) (hE : Env w) (hF : F ≤ 255) (hO : 0 ≤ O) (hO1 : O ≤ 255) (hK : 0 ≤ K) (hK1 : K ≤ 255) (h : checkN m F O K A B = 0) :
    Calls Tryd.prog 4 #[.int .u8 m, .agg #[.int .u8 F, .int .u8 O, .int .u8 K, .int .u16 A, .int .u16 B], .bool p] w fun e w' => e = .returned (.tuple #[.int .i64 (partN m O K p), .int .i64 0]) ∧ Fr w w' := by
  have hm := checkN_model h
  have hl := kModel_le F
  have hm3 : m ≤ 3 := by omega
  clear hm hl
  have H := Lib.hid h; clear h
  cases p
  · go_enter Tryd.func4, Tryd.ntmps4
    go_wp2_with (first | (go_at_call 11; refine (Check_c m F O K A B _ (by repeat (first | assumption | apply Env.alloc)) hF).mono ?_; rw [H.out]; rintro e w1 ⟨rfl, hb⟩; have hc := hb.cell; have hz := hb.size1) | go_in)
    go_ret2
    exact ⟨rfl, by repeat (first | exact Fr.refl _ | assumption | apply Fr.alloc | refine Fr.trans ?_ (by assumption))⟩
  · by_cases h2 : m = 2
    · subst h2
      go_enter Tryd.func4, Tryd.ntmps4
      go_wp2_with (first | (go_at_call 11; refine (Check_c _ F O K A B _ (by repeat (first | assumption | apply Env.alloc)) hF).mono ?_; rw [H.out]; rintro e w1 ⟨rfl, hb⟩; have hc := hb.cell; have hz := hb.size1) | go_in)
      go_ret2
      exact ⟨rfl, by repeat (first | exact Fr.refl _ | assumption | apply Fr.alloc | refine Fr.trans ?_ (by assumption))⟩
    · have h2' : (m == 2) = false := by simp; omega
      have hp : partN m O K true = O := by unfold partN; simp [h2]
      have HP := Lib.hid hp
      clear hp h2
      go_enter Tryd.func4, Tryd.ntmps4
      go_wp2_with (first | (go_at_call 11; refine (Check_c m F O K A B _ (by repeat (first | assumption | apply Env.alloc)) hF).mono ?_; rw [H.out]; rintro e w1 ⟨rfl, hb⟩; have hc := hb.cell; have hz := hb.size1) | go_in)
      go_ret2
      exact ⟨by rw [HP.out]; rfl, by repeat (first | exact Fr.refl _ | assumption | apply Fr.alloc | refine Fr.trans ?_ (by assumption))⟩

/-- What umpireref21.Of tells. -/
def rOfN (m F O K A B : Int) (p : Bool) : Value := .tuple #[.int .i64 (if checkN m F O K A B = 0 then partN m O K p else 0), .int .i64 (checkN m F O K A B)]

theorem rOf_c (m : Int) (F : Nat) (O K A B : Int) (p : Bool) (w : World) (hF : F ≤ 255) (hm0 : 0 ≤ m) (hm1 : m ≤ 255) (hO : 0 ≤ O) (hO1 : O ≤ 255) (hK : 0 ≤ K) (hK1 : K ≤ 255) :
    Calls Tryd.prog 5 #[.int .u8 m, .agg #[.int .u8 F, .int .u8 O, .int .u8 K, .int .u16 A, .int .u16 B], .bool p] w fun e w' => e = .returned (rOfN m F O K A B p) ∧ Fr w w' := by
  rcases checkN_01 m F O K A B with h | h
  · have H := Lib.hid h; clear h
    cases p
    · have HR : Hid (rOfN m F O K A B false = .tuple #[.int .i64 0, .int .i64 0]) := by unfold Hid rOfN; rw [H.out]; rfl
      go_enter Tryd.func5, Tryd.ntmps5
      go_wp2_with (go_at_call 13; refine (rCheck_c m F O K A B _ hm0 hm1 hF).mono ?_; rw [H.out]; rintro e w1 ⟨rfl, hb⟩; have hc := hb.cell; have hz := hb.size1)
      go_ret2
      refine ⟨by rw [HR.out]; rfl, by repeat (first | exact Fr.refl _ | assumption | apply Fr.alloc | refine Fr.trans ?_ (by assumption))⟩
    · by_cases h2 : m = 2
      · subst h2
        have HR : Hid (rOfN 2 F O K A B true = .tuple #[.int .i64 (8 * O + K), .int .i64 0]) := by unfold Hid rOfN; rw [H.out]; rfl
        go_enter Tryd.func5, Tryd.ntmps5
        go_wp2_with (go_at_call 13; refine (rCheck_c _ F O K A B _ hm0 hm1 hF).mono ?_; rw [H.out]; rintro e w1 ⟨rfl, hb⟩; have hc := hb.cell; have hz := hb.size1)
        go_ret2
        refine ⟨by rw [HR.out]; rfl, by repeat (first | exact Fr.refl _ | assumption | apply Fr.alloc | refine Fr.trans ?_ (by assumption))⟩
      · have h2' : (m == 2) = false := by simp; omega
        have HR : Hid (rOfN m F O K A B true = .tuple #[.int .i64 O, .int .i64 0]) := by unfold Hid rOfN partN; rw [H.out]; simp [h2]
        clear h2
        go_enter Tryd.func5, Tryd.ntmps5
        go_wp2_with (go_at_call 13; refine (rCheck_c m F O K A B _ hm0 hm1 hF).mono ?_; rw [H.out]; rintro e w1 ⟨rfl, hb⟩; have hc := hb.cell; have hz := hb.size1)
        go_ret2
        refine ⟨by rw [HR.out]; rfl, by repeat (first | exact Fr.refl _ | assumption | apply Fr.alloc | refine Fr.trans ?_ (by assumption))⟩
  · have H := Lib.hid h; clear h
    have HR : Hid (rOfN m F O K A B p = .tuple #[.int .i64 0, .int .i64 10]) := by unfold Hid rOfN; rw [H.out]; rfl
    go_enter Tryd.func5, Tryd.ntmps5
    go_wp2_with (go_at_call 13; refine (rCheck_c m F O K A B _ hm0 hm1 hF).mono ?_; rw [H.out]; rintro e w1 ⟨rfl, hb⟩; have hc := hb.cell; have hz := hb.size1)
    go_ret2
    refine ⟨by rw [HR.out]; rfl, by repeat (first | exact Fr.refl _ | assumption | apply Fr.alloc | refine Fr.trans ?_ (by assumption))⟩

theorem Count_c (m : Int) (p : Bool) (w : World) :
    Calls Tryd.prog 6 #[.int .u8 m, .bool p] w fun e w' => e = .returned (.int .i64 (countN m p)) ∧ Fr w w' := by
  by_cases h4 : 4 ≤ m
  · have H : Hid (countN m p = 0) := by unfold Hid countN; rw [if_pos h4]
    go_enter Tryd.func6, Tryd.ntmps6
    go_wp2
    go_ret
    exact ⟨by rw [H.out]; rfl, by repeat (first | exact Fr.refl _ | assumption | apply Fr.alloc | refine Fr.trans ?_ (by assumption))⟩
  · cases p
    · have H : Hid (countN m false = 1) := by unfold Hid countN; rw [if_neg h4]; rfl
      go_enter Tryd.func6, Tryd.ntmps6
      go_wp2
      go_ret
      exact ⟨by rw [H.out]; rfl, by repeat (first | exact Fr.refl _ | assumption | apply Fr.alloc | refine Fr.trans ?_ (by assumption))⟩
    · by_cases h2 : m = 2
      · subst h2
        go_enter Tryd.func6, Tryd.ntmps6
        go_wp2
        go_ret
        exact ⟨rfl, by repeat (first | exact Fr.refl _ | assumption | apply Fr.alloc | refine Fr.trans ?_ (by assumption))⟩
      · have H : Hid (countN m true = 8) := by unfold Hid countN; rw [if_neg h4]; simp [h2]
        have h2' : (m == 2) = false := by simp; omega
        clear h2
        go_enter Tryd.func6, Tryd.ntmps6
        go_wp2
        go_ret
        exact ⟨by rw [H.out]; rfl, by repeat (first | exact Fr.refl _ | assumption | apply Fr.alloc | refine Fr.trans ?_ (by assumption))⟩

theorem rCount_c (m : Int) (p : Bool) (w : World) :
    Calls Tryd.prog 7 #[.int .u8 m, .bool p] w fun e w' => e = .returned (.int .i64 (countN m p)) ∧ Fr w w' := by
  by_cases h4 : 4 ≤ m
  · have H : Hid (countN m p = 0) := by unfold Hid countN; rw [if_pos h4]
    have h3 : 3 < m := by omega
    go_enter Tryd.func7, Tryd.ntmps7
    go_wp2
    go_ret
    exact ⟨by rw [H.out]; rfl, Fr.refl _⟩
  · have h3 : ¬ 3 < m := by omega
    cases p
    · have H : Hid (countN m false = 1) := by unfold Hid countN; rw [if_neg h4]; rfl
      go_enter Tryd.func7, Tryd.ntmps7
      go_wp2
      go_ret
      exact ⟨by rw [H.out]; rfl, Fr.refl _⟩
    · by_cases h2 : m = 2
      · subst h2
        go_enter Tryd.func7, Tryd.ntmps7
        go_wp2
        go_ret
        exact ⟨rfl, Fr.refl _⟩
      · have H : Hid (countN m true = 8) := by unfold Hid countN; rw [if_neg h4]; simp [h2]
        have h2' : (m == 2) = false := by simp; omega
        clear h2
        go_enter Tryd.func7, Tryd.ntmps7
        go_wp2
        go_ret
        exact ⟨by rw [H.out]; rfl, Fr.refl _⟩
end Go.Proofs.YtgdocjdojgkjjaaDoor
