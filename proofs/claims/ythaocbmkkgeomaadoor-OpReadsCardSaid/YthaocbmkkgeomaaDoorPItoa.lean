/- strconv.Itoa, out of the shelf's contract: a number's decimal numeral; nothing that stood is changed. -/
import Derived.Test.YthaocbmkkgeomaaDoorPBase
import Derived.Test.YthaocbmkkgeomaaDoorPShelf
import Derived.Sort.Grow
import Derived.Lib.ItoaMem
import Derived.Lib.ItoaLen
set_option linter.all false
set_option linter.unusedVariables false
set_option linter.unusedSimpArgs false
set_option linter.unnecessarySimpa false
/- strconv.Itoa, out of the shelf's contract: a number's decimal numeral; nothing that stood is changed. -/
namespace Go.Proofs.YthaocbmkkgeomaaDoor
open Go.RowKit

theorem Fr.grow {a w : World} (h : Fr a w) (os : Array Obj) : Fr a (Go.Sort.grow w os) :=
  Below.trans h ⟨rfl, rfl, rfl, by simp, fun k hk => by
    have : k < w.heap.size := by have := h.size; omega
    show (w.heap ++ os)[k]? = _
    rw [Array.getElem?_append_left this]⟩
theorem Itoa_c (n : Nat) (w : World) (hE : Env0 w) (hn : n ≤ 9223372036854775807) :
    Calls Tryd.prog 55 #[.int .i64 n] w fun e w' => e = .returned (.string ⟨(Lib.decDigits n).toArray⟩) ∧ Fr w w' := by
  refine (Tryd.strconv_Itoa n (by omega) (by omega) w hE.pow10).mono ?_
  rintro e w' ⟨rfl, k, os, rfl⟩
  exact ⟨by rw [Lib.itoa_nonneg], ((Fr.refl w).drewN k).grow os⟩
end Go.Proofs.YthaocbmkkgeomaaDoor
