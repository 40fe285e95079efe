/- strconv.Itoa, out of the shelf's contract: a number's decimal numeral; nothing that stood is changed. -/
import Derived.Test.YtfklgaeejmeipaaGreatDoorPBase
import Derived.Test.YtfklgaeejmeipaaGreatDoorPShelf
import Derived.Sort.Grow
import Derived.Lib.ItoaMem
import Derived.Lib.ItoaLen
set_option linter.all false
set_option linter.unusedVariables false
set_option linter.unusedSimpArgs false
set_option linter.unnecessarySimpa false
/- strconv.Itoa, out of the shelf's contract: a number's decimal numeral; nothing that stood is changed. -/
namespace Go.Proofs.YtfklgaeejmeipaaGreatDoor
open Go.RowKit

theorem Fr.grow {a w : World} (h : Fr a w) (os : Array Obj) : Fr a (Go.Sort.grow w os) :=
  Below.trans h ⟨rfl, rfl, rfl, by simp, fun k hk => by
    have : k < w.heap.size := by have := h.size; omega
    show (w.heap ++ os)[k]? = _
    rw [Array.getElem?_append_left this]⟩
theorem Itoa_c (n : Nat) (w : World) (hE : Env0 w) (hn : n ≤ 9223372036854775807) :
    Calls Tryz.prog 67 #[.int .i64 n] w fun e w' => e = .returned (.string ⟨(Lib.decDigits n).toArray⟩) ∧ Fr w w' := by
  refine (Tryz.strconv_Itoa n (by omega) (by omega) w hE.pow10).mono ?_
  rintro e w' ⟨rfl, k, os, rfl⟩
  exact ⟨by rw [Lib.itoa_nonneg], ((Fr.refl w).drewN k).grow os⟩
end Go.Proofs.YtfklgaeejmeipaaGreatDoor

/- text.number, of its three types: a number's word. No condition but the tables' content and the numbers' bounds. -/
namespace Go.Proofs.YtfklgaeejmeipaaGreatDoor
open Go.RowKit

set_option maxRecDepth 100000 in
theorem num8_c (n : Nat) (w : World) (hE : Env0 w) (hn : n < 256) :
    Calls Tryz.prog 29 #[.int .u8 n] w fun e w' => e = .returned (.string ⟨(Lib.decDigits n).toArray⟩) ∧ Fr w w' := by
  have hw : IntKind.i64.wrap (n : Int) = n := by simp [IntKind.wrap, IntKind.bits, IntKind.signed]; omega
  have HT := Lib.hid (fun W (f : Fr w W) => Itoa_c n W (hE.keep f) (by omega))
  clear hE
  go_enter Tryz.func29, Tryz.ntmps29
  go_wp2_with (go_at_call 67; (try rw [hw]); refine (HT.out _ (by first | exact Fr.refl _ | exact (Fr.refl _).drew)).mono ?_; rintro e w1 ⟨rfl, hb⟩)
  go_ret
  exact ⟨rfl, hb⟩
set_option maxRecDepth 100000 in
theorem num16_c (n : Nat) (w : World) (hE : Env0 w) (hn : n < 65536) :
    Calls Tryz.prog 30 #[.int .u16 n] w fun e w' => e = .returned (.string ⟨(Lib.decDigits n).toArray⟩) ∧ Fr w w' := by
  have hw : IntKind.i64.wrap (n : Int) = n := by simp [IntKind.wrap, IntKind.bits, IntKind.signed]; omega
  have HT := Lib.hid (fun W (f : Fr w W) => Itoa_c n W (hE.keep f) (by omega))
  clear hE
  go_enter Tryz.func30, Tryz.ntmps30
  go_wp2_with (go_at_call 67; (try rw [hw]); refine (HT.out _ (by first | exact Fr.refl _ | exact (Fr.refl _).drew)).mono ?_; rintro e w1 ⟨rfl, hb⟩)
  go_ret
  exact ⟨rfl, hb⟩
set_option maxRecDepth 100000 in
theorem numI_c (n : Nat) (w : World) (hE : Env0 w) (hn : n < 9223372036854775807) :
    Calls Tryz.prog 66 #[.int .i64 n] w fun e w' => e = .returned (.string ⟨(Lib.decDigits n).toArray⟩) ∧ Fr w w' := by
  have HT := Lib.hid (fun W (f : Fr w W) => Itoa_c n W (hE.keep f) (by omega))
  clear hE
  go_enter Tryz.func66, Tryz.ntmps66
  go_wp2_with (go_at_call 67; refine (HT.out _ (by first | exact Fr.refl _ | exact (Fr.refl _).drew)).mono ?_; rintro e w1 ⟨rfl, hb⟩)
  go_ret
  exact ⟨rfl, hb⟩
end Go.Proofs.YtfklgaeejmeipaaGreatDoor
