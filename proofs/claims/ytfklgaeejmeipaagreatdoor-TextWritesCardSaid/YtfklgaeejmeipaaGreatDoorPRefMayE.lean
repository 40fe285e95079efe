/- umpireref05.May, whole. No condition but that the event can be read, and its numbers' bounds. -/
import Derived.Test.YtfklgaeejmeipaaGreatDoorPEvCheck
import Derived.Test.YtfklgaeejmeipaaGreatDoorPRefMayR
import Derived.Test.YtfklgaeejmeipaaGreatDoorPRefMayC
set_option linter.all false
set_option linter.unusedVariables false
set_option linter.unusedSimpArgs false
set_option linter.unnecessarySimpa false
/- umpireref05.May, whole. No condition but that the event can be read, and its numbers' bounds. -/
namespace Go.Proofs.YtfklgaeejmeipaaGreatDoor
open Go.RowKit

set_option maxRecDepth 100000 in
theorem rMay_none (x : Ev) (t r : Value) (w : World) (h : x.kind < 1 ∨ 7 < x.kind) (hb : x.kind < 256) :
    Calls Tryz.prog 35 #[x.val t r] w fun e w' => e = .returned (.bool false) ∧ Fr w w' := by
  have h1 : ((x.kind : Int) == 1) = false := by simp; omega
  have h2 : ((x.kind : Int) == 2) = false := by simp; omega
  have h3 : ((x.kind : Int) == 3) = false := by simp; omega
  have h4 : ((x.kind : Int) == 4) = false := by simp; omega
  have h5 : ((x.kind : Int) == 5) = false := by simp; omega
  have h6 : ((x.kind : Int) == 6) = false := by simp; omega
  have h7 : ((x.kind : Int) == 7) = false := by simp; omega
  clear h hb
  obtain ⟨xk, xc, xi, xo, xrk, xrv, xtx, xrs, xcf⟩ := x
  unfold Ev.val
  simp only at *
  go_enter Tryz.func35, Tryz.ntmps35
  go_wp2_with ((with_reducible refine wpList_here (.store 32 (.tmp 3) (.tmp 13)) rfl ?_); refine wpList_store_new 32 (.tmp 3) (.tmp 13) rfl _ _ _ (by simp) rfl rfl Tryz.infoEv rfl (Ev.oneCell ⟨xk, xc, xi, .zero, 0, 0, [], [], .zero⟩ none none 0 0 0 0) rfl rfl ?_)
  go_ret
  exact ⟨rfl, ((Fr.refl w).alloc _).alloc _⟩
theorem rMayE_c (x : Ev) (v : Value) (w : World) (hx : EvAt w v x) (ok : x.Ok) :
    Calls Tryz.prog 35 #[v] w fun e w' => e = .returned (.bool x.may) ∧ Fr w w' := by
  obtain ⟨⟨t, r, rfl, ht, hr⟩⟩ := hx
  have hx : EvAt w (x.val t r) x := ⟨t, r, rfl, ht, hr⟩
  by_cases hk : 1 ≤ x.kind ∧ x.kind ≤ 7
  · rcases (show x.kind = 1 ∨ x.kind = 2 ∨ x.kind = 3 ∨ x.kind = 4 ∨ x.kind = 5 ∨ x.kind = 6 ∨ x.kind = 7 by omega) with h | h | h | h | h | h | h
    · exact rMay1_c x t r w h hx ht hr
    · exact rMay2_c x t r w h hx ht hr ok.F
    · exact rMayK3_c x t r w h hx ht hr
    · exact rMay4_c x t r w h hx ht hr
    · exact rMay5_c x t r w h hx ht hr
    · exact rMay6_c x t r w h hx ht hr
    · exact rMay7_c x t r w h hx ht hr
  · have h1 : x.kind ≠ 1 := by omega
    have h2 : x.kind ≠ 2 := by omega
    have h3 : x.kind ≠ 3 := by omega
    have h4 : x.kind ≠ 4 := by omega
    have h5 : x.kind ≠ 5 := by omega
    have h6 : x.kind ≠ 6 := by omega
    have h7 : x.kind ≠ 7 := by omega
    have hm : x.may = false := by simp [Ev.may, Ev.kindMay, h1, h2, h3, h4, h5, h6, h7]
    rw [hm]
    exact rMay_none x t r w (by omega) ok.kind
end Go.Proofs.YtfklgaeejmeipaaGreatDoor
