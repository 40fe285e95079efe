/- The walks of part.Name and umpireref21.Name. No condition but the tables' content. -/
import Derived.Test.YtgdocjdojgkjjaaDoorPartOf
import Derived.Test.YtgdocjdojgkjjaaDoorDigits
import Derived.Test.YtgdocjdojgkjjaaDoorItoa
namespace Go.Proofs.YtgdocjdojgkjjaaDoor
open Go.RowKit

def nameS (m n : Int) (p : Bool) : List UInt8 :=
  if n < 0 ∨ countN m p ≤ n then [] else if p then (if m = 2 then [111, 98, 106, 101, 99, 116, 32] ++ Lib.decDigits (n / 8).toNat ++ [32, 107, 101, 121, 32] ++ Lib.decDigits (n % 8).toNat else [111, 98, 106, 101, 99, 116, 32] ++ Lib.decDigits n.toNat) else [97, 108, 108]
theorem countN_le (m : Int) (p : Bool) : 0 ≤ countN m p ∧ countN m p ≤ 64 := by unfold countN; repeat' split <;> omega

theorem Name_none (m n : Int) (p : Bool) (w : World) (h : n < 0 ∨ countN m p ≤ n) :
    Calls Tryd.prog 8 #[.int .u8 m, .int .i64 n, .bool p] w fun e w' => e = .returned (.string ⟨#[]⟩) ∧ Fr w w' := by
  have hl := countN_le m p
  by_cases h0 : n < 0
  · go_enter Tryd.func8, Tryd.ntmps8
    go_wp2
    go_ret
    exact ⟨rfl, Fr.refl _⟩
  · have hx : decide (countN m p ≤ n) = true := by simp; omega
    go_enter Tryd.func8, Tryd.ntmps8
    go_wp2_with (go_at_call 6; refine (Count_c m p _).mono ?_; rintro e w1 ⟨rfl, hb⟩)
    go_ret
    exact ⟨rfl, by repeat (first | exact Fr.refl _ | assumption)⟩
theorem Name_all (m n : Int) (w : World) (h0 : 0 ≤ n) (h1 : n < countN m false) :
    Calls Tryd.prog 8 #[.int .u8 m, .int .i64 n, .bool false] w fun e w' => e = .returned (.string ⟨#[97, 108, 108]⟩) ∧ Fr w w' := by
  have hl := countN_le m false
  go_enter Tryd.func8, Tryd.ntmps8
  go_wp2_with (go_at_call 6; refine (Count_c m false _).mono ?_; rintro e w1 ⟨rfl, hb⟩)
  go_ret
  exact ⟨rfl, by repeat (first | exact Fr.refl _ | assumption)⟩
theorem Name_key (n : Nat) (w : World) (hE : Env w) (h1 : n < 64) :
    Calls Tryd.prog 8 #[.int .u8 2, .int .i64 n, .bool true] w fun e w' => e = .returned (.string ⟨([111, 98, 106, 101, 99, 116, 32] ++ Lib.decDigits (n / 8) ++ [32, 107, 101, 121, 32] ++ Lib.decDigits (n % 8)).toArray⟩) ∧ Fr w w' := by
  have d1 := decDigits_len (n / 8) (by omega)
  have d2 := decDigits_len (n % 8) (by omega)
  have c1 : (n : Int) / 8 = ((n / 8 : Nat) : Int) := by omega
  have c2 : (n : Int) % 8 = ((n % 8 : Nat) : Int) := by omega
  have C1 := Lib.hid c1; clear c1
  have C2 := Lib.hid c2; clear c2
  go_enter Tryd.func8, Tryd.ntmps8
  go_wp2_with fail
  refine (Count_c 2 true _).mono ?_
  rintro e w1 ⟨rfl, hb⟩
  have hE1 := hE.keep hb
  have hn : ¬ countN 2 true ≤ (n : Int) := by rw [show countN 2 true = 64 from rfl]; omega
  go_wp2_with fail
  rw [C1.out]
  refine (Itoa_c _ _ hE1 (by omega)).mono ?_
  rintro e w2 ⟨rfl, hb2⟩
  have hE2 := hE1.keep hb2
  go_wp2_with fail
  rw [C2.out]
  refine (Itoa_c _ _ hE2 (by omega)).mono ?_
  rintro e w3 ⟨rfl, hb3⟩
  go_wp2
  go_ret
  exact ⟨ret_str (by simp), by repeat (first | exact Fr.refl _ | assumption | refine Fr.trans ?_ (by assumption))⟩
theorem Name_obj (m : Int) (n : Nat) (w : World) (hE : Env w) (hm : m ≤ 3) (hm2 : (m == 2) = false) (h1 : n < 8) :
    Calls Tryd.prog 8 #[.int .u8 m, .int .i64 n, .bool true] w fun e w' => e = .returned (.string ⟨([111, 98, 106, 101, 99, 116, 32] ++ Lib.decDigits n).toArray⟩) ∧ Fr w w' := by
  have d1 := decDigits_len n (by omega)
  have hc : Hid (countN m true = 8) := by simp at hm2; simp [Hid, countN, hm2]; omega
  go_enter Tryd.func8, Tryd.ntmps8
  go_wp2_with fail
  refine (Count_c m true _).mono ?_
  rw [hc.out]
  rintro e w1 ⟨rfl, hb⟩
  have hE1 := hE.keep hb
  go_wp2_with fail
  refine (Itoa_c _ _ hE1 (by omega)).mono ?_
  rintro e w2 ⟨rfl, hb2⟩
  go_wp2
  go_ret
  exact ⟨ret_str (by simp), by repeat (first | exact Fr.refl _ | assumption | refine Fr.trans ?_ (by assumption))⟩
theorem rName_none (m n : Int) (p : Bool) (w : World) (h : n < 0 ∨ countN m p ≤ n) :
    Calls Tryd.prog 9 #[.int .u8 m, .int .i64 n, .bool p] w fun e w' => e = .returned (.string ⟨#[]⟩) ∧ Fr w w' := by
  have hl := countN_le m p
  by_cases h0 : n < 0
  · go_enter Tryd.func9, Tryd.ntmps9
    go_wp2
    go_ret
    exact ⟨rfl, Fr.refl _⟩
  · have hx : decide (countN m p ≤ n) = true := by simp; omega
    go_enter Tryd.func9, Tryd.ntmps9
    go_wp2_with (go_at_call 7; refine (rCount_c m p _).mono ?_; rintro e w1 ⟨rfl, hb⟩)
    go_ret
    exact ⟨rfl, by repeat (first | exact Fr.refl _ | assumption)⟩
theorem rName_all (m n : Int) (w : World) (h0 : 0 ≤ n) (h1 : n < countN m false) :
    Calls Tryd.prog 9 #[.int .u8 m, .int .i64 n, .bool false] w fun e w' => e = .returned (.string ⟨#[97, 108, 108]⟩) ∧ Fr w w' := by
  have hl := countN_le m false
  go_enter Tryd.func9, Tryd.ntmps9
  go_wp2_with (go_at_call 7; refine (rCount_c m false _).mono ?_; rintro e w1 ⟨rfl, hb⟩)
  go_ret
  exact ⟨rfl, by repeat (first | exact Fr.refl _ | assumption)⟩
theorem rName_key (n : Nat) (w : World) (h1 : n < 64) :
    Calls Tryd.prog 9 #[.int .u8 2, .int .i64 n, .bool true] w fun e w' => e = .returned (.string ⟨([111, 98, 106, 101, 99, 116, 32] ++ Lib.decDigits (n / 8) ++ [32, 107, 101, 121, 32] ++ Lib.decDigits (n % 8)).toArray⟩) ∧ Fr w w' := by
  have d1 := decDigits_len (n / 8) (by omega)
  have d2 := decDigits_len (n % 8) (by omega)
  have c1 : (n : Int) / 8 = ((n / 8 : Nat) : Int) := by omega
  have c2 : (n : Int) % 8 = ((n % 8 : Nat) : Int) := by omega
  have C1 := Lib.hid c1; clear c1
  have C2 := Lib.hid c2; clear c2
  go_enter Tryd.func9, Tryd.ntmps9
  go_wp2_with fail
  refine (rCount_c 2 true _).mono ?_
  rintro e w1 ⟨rfl, hb⟩
  have hn : ¬ countN 2 true ≤ (n : Int) := by rw [show countN 2 true = 64 from rfl]; omega
  go_wp2_with fail
  rw [C1.out]
  refine (Digits_c _ _ (by omega)).mono ?_
  rintro e w2 ⟨rfl, hb2⟩
  go_wp2_with fail
  rw [C2.out]
  refine (Digits_c _ _ (by omega)).mono ?_
  rintro e w3 ⟨rfl, hb3⟩
  go_wp2
  go_ret
  exact ⟨ret_str (by simp), by repeat (first | exact Fr.refl _ | assumption | refine Fr.trans ?_ (by assumption))⟩
theorem rName_obj (m : Int) (n : Nat) (w : World) (hm : m ≤ 3) (hm2 : (m == 2) = false) (h1 : n < 8) :
    Calls Tryd.prog 9 #[.int .u8 m, .int .i64 n, .bool true] w fun e w' => e = .returned (.string ⟨([111, 98, 106, 101, 99, 116, 32] ++ Lib.decDigits n).toArray⟩) ∧ Fr w w' := by
  have d1 := decDigits_len n (by omega)
  have hc : Hid (countN m true = 8) := by simp at hm2; simp [Hid, countN, hm2]; omega
  go_enter Tryd.func9, Tryd.ntmps9
  go_wp2_with fail
  refine (rCount_c m true _).mono ?_
  rw [hc.out]
  rintro e w1 ⟨rfl, hb⟩
  go_wp2_with fail
  refine (Digits_c _ _ (by omega)).mono ?_
  rintro e w2 ⟨rfl, hb2⟩
  go_wp2
  go_ret
  exact ⟨ret_str (by simp), by repeat (first | exact Fr.refl _ | assumption | refine Fr.trans ?_ (by assumption))⟩

theorem Name_c (m n : Int) (p : Bool) (w : World) (hE : Env w) :
    Calls Tryd.prog 8 #[.int .u8 m, .int .i64 n, .bool p] w fun e w' => e = .returned (.string ⟨(nameS m n p).toArray⟩) ∧ Fr w w' := by
  by_cases h : n < 0 ∨ countN m p ≤ n
  · rw [nameS, if_pos h]; exact Name_none m n p w h
  · rw [nameS, if_neg h]
    have hl := countN_le m p
    obtain ⟨k, rfl⟩ := Int.eq_ofNat_of_zero_le (show 0 ≤ n by omega)
    cases p
    · exact Name_all m k w (by omega) (by omega)
    · rw [if_pos rfl]
      by_cases h2 : m = 2
      · subst h2
        rw [if_pos rfl]
        exact Name_key k w hE (by have : countN 2 true = 64 := rfl; omega)
      · rw [if_neg h2]
        by_cases h4 : 4 ≤ m
        · exfalso; apply h; right; rw [countN, if_pos h4]; omega
        · exact Name_obj m k w hE (by omega) (by simp [h2]) (by have : countN m true = 8 := by simp [countN, h2, h4]
                                                                omega)
theorem rName_c (m n : Int) (p : Bool) (w : World) :
    Calls Tryd.prog 9 #[.int .u8 m, .int .i64 n, .bool p] w fun e w' => e = .returned (.string ⟨(nameS m n p).toArray⟩) ∧ Fr w w' := by
  by_cases h : n < 0 ∨ countN m p ≤ n
  · rw [nameS, if_pos h]; exact rName_none m n p w h
  · rw [nameS, if_neg h]
    have hl := countN_le m p
    obtain ⟨k, rfl⟩ := Int.eq_ofNat_of_zero_le (show 0 ≤ n by omega)
    cases p
    · exact rName_all m k w (by omega) (by omega)
    · rw [if_pos rfl]
      by_cases h2 : m = 2
      · subst h2
        rw [if_pos rfl]
        exact rName_key k w (by have : countN 2 true = 64 := rfl; omega)
      · rw [if_neg h2]
        by_cases h4 : 4 ≤ m
        · exfalso; apply h; right; rw [countN, if_pos h4]; omega
        · exact rName_obj m k w (by omega) (by simp [h2]) (by have : countN m true = 8 := by simp [countN, h2, h4]
                                                              omega)
end Go.Proofs.YtgdocjdojgkjjaaDoor
