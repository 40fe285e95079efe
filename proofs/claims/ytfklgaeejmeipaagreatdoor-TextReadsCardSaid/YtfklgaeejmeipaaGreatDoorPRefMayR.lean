/- umpireref05.May of kind 6. No condition but that the event can be read, and its numbers' bounds. -/
import Derived.Test.YtfklgaeejmeipaaGreatDoorPEvCheck
import Derived.Test.YtfklgaeejmeipaaGreatDoorPOp
set_option linter.all false
set_option linter.unusedVariables false
set_option linter.unusedSimpArgs false
set_option linter.unnecessarySimpa false
/- umpireref05.May of kind 6. No condition but that the event can be read, and its numbers' bounds. -/
namespace Go.Proofs.YtfklgaeejmeipaaGreatDoor
open Go.RowKit

theorem RdR.at' {w : World} {k : Nat} {v : Value} {ls : List (List Nat)} (h : RdR w v ls) (hk : k < ls.length) : ∃ b off cap u, v = .slice (some ⟨b, off, none⟩) ls.length cap ∧ ls.length ≤ cap ∧ cap ≤ maxLen ∧ b < w.heap.size ∧ w.cell? ⟨b, off + k, none⟩ = some u ∧ Rd16 w u ls[k] := by
  obtain ⟨vs, h1, ⟨a, cap, rfl, h2, h3, h4⟩, h5⟩ := h
  have hk2 : k < vs.length := by omega
  rcases h4 with rfl | ⟨b, off, rfl, _, hlt, hc⟩
  · simp at hk2
  · exact ⟨b, off, cap, vs[k], rfl, h2, h3, hlt, hc k _ (by simp [hk2]), h5 k _ _ (by simp [hk]) (by simp [hk2])⟩
set_option maxRecDepth 100000 in
set_option maxHeartbeats 2000000 in
theorem rMay6_c (x : Ev) (t r : Value) (w : World) (hk : x.kind = 6) (hx : EvAt w (x.val t r) x) (ht : RdM w t x.txn) (hr : RdR w r x.reads) :
    Calls Tryz.prog 35 #[x.val t r] w fun e w' => e = .returned (.bool x.may) ∧ Fr w w' := by
  have hn : x.needed = { Ev.zero with kind := x.kind, client := x.client, id := x.id, reads := x.reads } := by simp [Ev.needed, hk]
  have hm : x.may = (readsMay x.reads && decide (x.client < 16) && decide (x = x.needed)) := by simp [Ev.may, Ev.kindMay, hk]
  have hs : ∀ W, Fr w W → Calls Tryz.prog 15 #[x.val t r, x.needed.val nil0 r] W fun e w' => e = .returned (.bool (decide (x = x.needed))) ∧ Fr W w' := fun W hW => refSame_c _ _ x x.needed W (hx.keep hW) ⟨nil0, r, rfl, by rw [hn]; exact RdM.nil _, by rw [hn]; exact hr.keep hW⟩
  rw [hm]
  generalize decide (x = x.needed) = s at hs ⊢
  rw [hn] at hs
  clear hm hn hx
  have htm : readsMay x.reads = (decide (x.reads.length ≤ 8) && !x.reads.any listBad) := rfl
  rw [htm]
  clear htm
  have hsl : ∃ ra rc, r = .slice ra x.reads.length rc := by obtain ⟨_, _, ⟨a, c, h, _⟩, _⟩ := hr; exact ⟨a, c, h⟩
  obtain ⟨ra, rc, rfl⟩ := hsl
  have hl := hr
  obtain ⟨xk, xc, xi, xo, xrk, xrv, xtx, xrs, xcf⟩ := x
  simp only at hk
  subst hk
  unfold Ev.val Ev.zero at *
  simp only at *
  have HS := Lib.hid hs
  clear hs ht hr
  by_cases hl8 : 8 < xrs.length
  · have hi : (8 : Int) < xrs.length := by omega
    rw [decide_eq_false (show ¬ xrs.length ≤ 8 by omega)]
    clear hl8 HS
    go_enter Tryz.func35, Tryz.ntmps35
    go_wp2_with ((with_reducible refine wpList_here (.store 32 (.tmp 3) (.tmp 13)) rfl ?_); refine wpList_store_new 32 (.tmp 3) (.tmp 13) rfl _ _ _ (by simp) rfl rfl Tryz.infoEv rfl (Ev.oneCell ⟨6, xc, xi, .zero, 0, 0, [], [], .zero⟩ none none 0 0 0 0) rfl rfl ?_)
    go_ret
    exact ⟨retB (by simp), (((Fr.refl w).alloc _).alloc _)⟩
  rw [decide_eq_true (show xrs.length ≤ 8 by omega)]
  have hi1 : ¬ (8 : Int) < xrs.length := by omega
  go_enter Tryz.func35, Tryz.ntmps35
  go_wp2_with ((with_reducible refine wpList_here (.store 32 (.tmp 3) (.tmp 13)) rfl ?_); refine wpList_store_new 32 (.tmp 3) (.tmp 13) rfl _ _ _ (by simp) rfl rfl Tryz.infoEv rfl (Ev.oneCell ⟨6, xc, xi, .zero, 0, 0, [], [], .zero⟩ none none 0 0 0 0) rfl rfl ?_)
  go_loop [6] (fun i => ∃ k : Nat, k ≤ xrs.length ∧ i = .int .i64 k ∧ (xrs.take k).any listBad = false) (fun i => xrs.length - (intOf i).toNat)
  case atStart => exact ⟨0, Nat.zero_le _, rfl, rfl⟩
  case round =>
    obtain ⟨k, hk, rfl, htk⟩ := hrel
    by_cases hlt : k < xrs.length
    · obtain ⟨b, o, rc', u, hre, hcap, hmx, hbl, hc, hu⟩ := RdR.at' hl hlt
      obtain ⟨rfl, rfl⟩ : ra = some ⟨b, o, none⟩ ∧ rc = rc' := by cases hre; exact ⟨rfl, rfl⟩
      unfold maxLen at hmx
      have hk1 : k < rc := by omega
      clear hre
      by_cases he : listBad xrs[k] = true
      · have hT := Lib.hid (any_at hlt he)
        generalize xrs[k] = m at hu he
        have h32 : (32 : Int) < m.length := by unfold listBad at he; simp at he; omega
        obtain ⟨ua, uc, rfl⟩ : ∃ ua uc, u = .slice ua m.length uc := by obtain ⟨a, c, h, _⟩ := hu; exact ⟨a, c, h⟩
        clear he htk HS hu hl
        go_wp2_with fail
        go_ret
        exact ⟨retB (by rw [hT.out]; simp), (((Fr.refl w).alloc _).alloc _)⟩
      · rw [Bool.not_eq_true] at he
        have hT := Lib.hid (any_take htk hlt he)
        generalize xrs[k] = m at hu he
        have h32 : ¬ (32 : Int) < m.length := by unfold listBad at he; simp at he; omega
        obtain ⟨ua, uc, rfl⟩ : ∃ ua uc, u = .slice ua m.length uc := by obtain ⟨a, c, h, _⟩ := hu; exact ⟨a, c, h⟩
        clear he htk hu
        go_wp2_with fail
        go_round
        case rel => exact ⟨k + 1, by omega, by go_num, hT.out⟩
        case measure => simp [intOf]; omega
    · have hT := Lib.hid (any_none htk hlt)
      clear htk
      by_cases hcc : xc < 16
      · have hci : (xc : Int) < 16 := by omega
        have hd := decide_eq_true hcc
        have HD := Lib.hid hd
        clear hcc hd
        go_wp2_with (first | ((with_reducible refine wpList_here (.load 32 (.tmp 1)) rfl ?_); refine wpList_load_box 32 (.tmp 1) rfl _ rfl _ ((BoxAt.new w _ _).alloc _) _ Tryz.underlying32 rfl Tryz.infoEv rfl ?_) | ((with_reducible refine wpList_here (.load 32 (.tmp 3)) rfl ?_); refine wpList_load_box 32 (.tmp 3) rfl _ rfl _ (BoxAt.new' _ _ _ _ (by simp)) _ Tryz.underlying32 rfl Tryz.infoEv rfl ?_))
        refine (HS.out _ (((Fr.refl w).alloc _).alloc _)).mono ?_
        rintro e w2 ⟨rfl, hb2⟩
        go_wp2_with fail
        go_ret
        exact ⟨retB (by rw [HD.out, hT.out]; simp), (((Fr.refl w).alloc _).alloc _).trans hb2⟩
      · have hci : ¬ (xc : Int) < 16 := by omega
        have hd := decide_eq_false hcc
        have HD := Lib.hid hd
        clear hcc hd HS
        go_wp2_with fail
        go_ret
        exact ⟨retB (by rw [HD.out, hT.out]; simp), (((Fr.refl w).alloc _).alloc _)⟩
end Go.Proofs.YtfklgaeejmeipaaGreatDoor
