/- The walks of umpirelaw21.is, awake, PartOf: the statement's own body. No condition but the tables' content and the numbers' bounds. -/
import Derived.Test.YtgdocjdojgkjjaaDoorPartName
import Derived.Deep.QuietTactic
import Derived.BigQuiet
namespace Go.Proofs.YtgdocjdojgkjjaaDoor
open Go.RowKit

theorem is_yes (m : Int) (F : Nat) (O K A B : Int) (p : Bool) (want : Int) (w : World) (hE : Env w) (hF : F ≤ 255) (hO : 0 ≤ O) (hO1 : O ≤ 255) (hK : 0 ≤ K) (hK1 : K ≤ 255) (h : checkN m F O K A B = 0) (hw : partN m O K p = want) :
    Calls Tryd.prog 16 #[.int .u8 m, .agg #[.int .u8 F, .int .u8 O, .int .u8 K, .int .u16 A, .int .u16 B], .bool p, .int .i64 want] w fun e w' => e = .returned (.bool true) ∧ Fr w w' := by
  have H := Lib.hid h; clear h
  have HW := Lib.hid hw; clear hw
  go_enter Tryd.func16, Tryd.ntmps16
  go_wp2_with fail
  refine (Of_yes m F O K A B p _ (by repeat (first | assumption | apply Env.alloc)) hF hO hO1 hK hK1 H.out).mono ?_
  rw [HW.out]
  rintro e w1 ⟨rfl, hb⟩
  go_wp2
  go_ret
  exact ⟨rfl, by repeat (first | exact Fr.refl _ | assumption | apply Fr.alloc | refine Fr.trans ?_ (by assumption))⟩

theorem name19 : nameS 2 19 true = [111, 98, 106, 101, 99, 116, 32, 50, 32, 107, 101, 121, 32, 51] := by
  simp [nameS, countN, Lib.decDigits_one]
theorem awake_c (w : World) (hE : Env w) : Calls Tryd.prog 10 #[] w fun e w' => e = .returned (.bool true) ∧ Fr w w' := by
  go_enter Tryd.func10, Tryd.ntmps10
  go_wp2_with fail
  refine (is_yes 2 6 2 3 0 0 true 19 _ (by repeat (first | assumption | apply Env.alloc)) (by omega) (by omega) (by omega) (by omega) (by omega) (by decide) (by decide)).mono ?_
  rintro e w1 ⟨rfl, hb⟩
  have hc := hb.cell
  have hz := hb.size1
  have hE1 := Env.keep (hE.alloc _) hb
  go_wp2_with fail
  refine (is_yes 2 6 2 3 0 0 false 0 _ hE1 (by omega) (by omega) (by omega) (by omega) (by omega) (by decide) (by decide)).mono ?_
  rintro e w2 ⟨rfl, hb2⟩
  have hE2 := hE1.keep hb2
  go_wp2_with fail
  refine (Count_c 2 true _).mono ?_
  rintro e w3 ⟨rfl, hb3⟩
  have hE3 := hE2.keep hb3
  go_wp2_with fail
  refine (Name_c 2 19 true _ hE3).mono ?_
  rw [name19]
  rintro e w4 ⟨rfl, hb4⟩
  go_wp2
  go_ret
  exact ⟨rfl, by repeat (first | exact Fr.refl _ | assumption | apply Fr.alloc | refine Fr.trans ?_ (by assumption))⟩

theorem PartOf_c (m : Int) (F : Nat) (O K A B n : Int) (p : Bool) (w : World) (hE : Env w) (hF : F ≤ 255) (hm0 : 0 ≤ m) (hm1 : m ≤ 255) (hO : 0 ≤ O) (hO1 : O ≤ 255) (hK : 0 ≤ K) (hK1 : K ≤ 255) :
    Calls Tryd.prog 3 #[.int .u8 m, .agg #[.int .u8 F, .int .u8 O, .int .u8 K, .int .u16 A, .int .u16 B], .agg #[.int .i64 n, .bool p]] w fun e w' => e = .returned (.bool true) ∧ Fr w w' := by
  have hs : ∀ l : List UInt8, (l == l) = true := fun l => by simp
  obtain ⟨v, c, hv⟩ : ∃ v c : Int, (∀ w, Env w → Calls Tryd.prog 4 #[.int .u8 m, .agg #[.int .u8 F, .int .u8 O, .int .u8 K, .int .u16 A, .int .u16 B], .bool p] w fun e w' => e = .returned (.tuple #[.int .i64 v, .int .i64 c]) ∧ Fr w w') ∧ rOfN m F O K A B p = .tuple #[.int .i64 v, .int .i64 c] := by
    rcases checkN_01 m F O K A B with h | h
    · exact ⟨partN m O K p, 0, fun w hE => Of_yes m F O K A B p w hE hF hO hO1 hK hK1 h, by rw [rOfN, h]; rfl⟩
    · exact ⟨0, 10, fun w hE => Of_no m F O K A B p w hE hF h, by rw [rOfN, h]; rfl⟩
  obtain ⟨h1, h2⟩ := hv
  have H1 := Lib.hid h1; clear h1
  have H2 := Lib.hid h2; clear h2
  go_enter Tryd.func3, Tryd.ntmps3
  go_wp2_with fail
  go_quiet (fail)
  go_wp2_with fail
  have hE0 := ((hE.alloc (Obj.cells #[Value.int IntKind.u8 ↑F, Value.int IntKind.u8 O, Value.int IntKind.u8 K, Value.int IntKind.u16 A, Value.int IntKind.u16 B] 24)).alloc (Obj.cells #[Value.int IntKind.i64 n, Value.bool p] 26)).drewN nq
  refine (H1.out _ hE0).mono ?_
  rintro e w1 ⟨rfl, hb⟩
  have hc := hb.cell
  have hE1 := hE0.keep hb
  go_wp2_with fail
  refine (rOf_c m F O K A B p _ hF hm0 hm1 hO hO1 hK hK1).mono ?_
  rw [H2.out]
  rintro e w2 ⟨rfl, hb2⟩
  have hE2 := hE1.keep hb2
  go_wp2_with fail
  refine (Count_c m p _).mono ?_
  rintro e w3 ⟨rfl, hb3⟩
  have hE3 := hE2.keep hb3
  go_wp2_with fail
  refine (rCount_c m p _).mono ?_
  rintro e w4 ⟨rfl, hb4⟩
  have hE4 := hE3.keep hb4
  go_wp2_with fail
  refine (Name_c m n p _ hE4).mono ?_
  rintro e w5 ⟨rfl, hb5⟩
  have hE5 := hE4.keep hb5
  go_wp2_with fail
  refine (rName_c m n p _).mono ?_
  rintro e w6 ⟨rfl, hb6⟩
  have hE6 := hE5.keep hb6
  go_wp2_with fail
  refine (awake_c _ hE6).mono ?_
  rintro e w7 ⟨rfl, hb7⟩
  go_wp2
  go_ret
  exact ⟨rfl, by repeat (first | exact Fr.refl _ | assumption | apply Fr.alloc | apply Fr.drewN | refine Fr.trans ?_ (by assumption))⟩
end Go.Proofs.YtgdocjdojgkjjaaDoor
