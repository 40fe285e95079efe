/- umpireref05.n, bit. No condition but the numbers' bounds. -/
import Derived.Test.YtgbaanioppblhaaDoorPReader
import Derived.Test.YtgbaanioppblhaaDoorPArms
set_option linter.unusedVariables false
set_option linter.unusedSimpArgs false
/- umpireref05.n, bit. No condition but the numbers' bounds. -/
namespace Go.Proofs.YtgbaanioppblhaaDoor
open Go.RowKit

theorem n_c (x W : Nat) (w : World) (hx : x < 4294967296) (hW : W ≤ 100) :
    Calls Tryd.prog 26 #[.int .i64 x, .int .i64 W] w fun e w' => e = .returned (.string ⟨(be x W).toArray⟩) ∧ Fr w w' := by
  go_enter Tryd.func26, Tryd.ntmps26
  go_wp2_with fail
  refine (rNumber_c x W _ hx hW).mono ?_
  rintro e w1 ⟨rfl, hb⟩
  go_wp2_with fail
  go_ret
  exact ⟨rfl, hb⟩
theorem bit_c (b : Bool) (n : Int) (w : World) :
    Calls Tryd.prog 27 #[.bool b, .int .i64 n] w fun e w' => e = .returned (.int .i64 (if b then n else 0)) ∧ w = w' := by
  cases b
  · go_enter Tryd.func27, Tryd.ntmps27
    go_wp2_with fail
    go_ret
    exact ⟨rfl, rfl⟩
  · go_enter Tryd.func27, Tryd.ntmps27
    go_wp2_with fail
    go_ret
    exact ⟨rfl, rfl⟩
theorem n1_e (x : Nat) (i : Int) (w : World) (h : i = x) (hx : x < 4294967296) : Calls Tryd.prog 26 #[.int .i64 i, .int .i64 1] w fun e w' => e = .returned (.string ⟨(be x 1).toArray⟩) ∧ Fr w w' := by
  subst h; exact n_c x 1 w hx (by omega)
theorem n2_e (x : Nat) (i : Int) (w : World) (h : i = x) (hx : x < 4294967296) : Calls Tryd.prog 26 #[.int .i64 i, .int .i64 2] w fun e w' => e = .returned (.string ⟨(be x 2).toArray⟩) ∧ Fr w w' := by
  subst h; exact n_c x 2 w hx (by omega)
theorem n4_e (x : Nat) (i : Int) (w : World) (h : i = x) (hx : x < 4294967296) : Calls Tryd.prog 26 #[.int .i64 i, .int .i64 4] w fun e w' => e = .returned (.string ⟨(be x 4).toArray⟩) ∧ Fr w w' := by
  subst h; exact n_c x 4 w hx (by omega)
end Go.Proofs.YtgbaanioppblhaaDoor
