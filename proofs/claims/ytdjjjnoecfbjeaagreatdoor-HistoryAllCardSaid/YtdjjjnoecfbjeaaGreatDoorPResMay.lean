/- result.May, umpireref03.May: why an answer may not be an operation's. No condition but the numbers' bounds. -/
import Derived.Test.YtdjjjnoecfbjeaaGreatDoorPResKinds
import Derived.Test.YtdjjjnoecfbjeaaGreatDoorPRange
set_option linter.all false
set_option linter.unusedVariables false
set_option linter.unusedSimpArgs false
set_option linter.unnecessarySimpa false
/- result.May, umpireref03.May: why an answer may not be an operation's. No condition but the numbers' bounds. -/
namespace Go.Proofs.YtdjjjnoecfbjeaaGreatDoor
open Go.RowKit Go.Shelf

attribute [local go_sem] Oper.semAt_some
/-- Why an answer may not be. -/
def mayRes (f K V : Nat) : Nat := if goodB K V then (if K ∈ kindsOf f then 0 else 10) else 4
def NumRet (w : World) (n : Nat) (e : Ending) (w' : World) : Prop := e = .returned (.int .i64 n) ∧ Fr w w'
set_option maxRecDepth 100000 in
theorem rMay3_c (f K V : Nat) (w : World) : Calls Tryz.prog 42 #[.int .u8 f, .agg #[.int .u8 K, .int .u16 V]] w (NumRet w (mayRes f K V)) := by
  have hgood := fun W => rGood_c K V W
  unfold mayRes
  cases hg : goodB K V
  · rw [hg] at hgood
    rw [if_neg (by simp)]
    have HG := Lib.hid hgood
    clear hg hgood
    go_enter Tryz.func42, Tryz.ntmps42
    go_wp2_with fail
    refine (HG.out _).mono ?_
    rintro e w1 ⟨rfl, hb⟩
    go_wp2
    go_ret
    exact ⟨rfl, Fr.trans ((Fr.refl _).alloc _) hb⟩
  · rw [hg] at hgood
    rw [if_pos rfl]
    have HG := Lib.hid hgood
    have HK := Lib.hid (fun W => rKinds_c f W)
    have hR : ∃ R, R = if K ∈ kindsOf f then 0 else 10 := ⟨_, rfl⟩
    obtain ⟨R, hR⟩ := hR
    rw [← hR]
    have HY := Lib.hid (fun (h : K ∈ kindsOf f) => show R = 0 by rw [hR, if_pos h])
    have HN := Lib.hid (fun (h : ¬ K ∈ kindsOf f) => show R = 10 by rw [hR, if_neg h])
    clear hg hgood hR
    generalize kindsOf f = l at HK HY HN
    go_enter Tryz.func42, Tryz.ntmps42
    go_wp2_with fail
    refine (HG.out _).mono ?_
    rintro e w1 ⟨rfl, hb⟩
    have hf1 := Fr.trans ((Fr.refl _).alloc (.cells #[.int .u8 K, .int .u16 V] 33)) hb
    have x0 : w1.cell? ⟨w.heap.size, 0, none⟩ = some (.int .u8 K) := hb.keep (by simp)
    clear HG hb
    go_wp2_with fail
    refine (HK.out _).mono ?_
    rintro e w2 ⟨v, rfl, ⟨a, cap, rfl, hca, hma, hxa⟩, hb2⟩
    have hf2 := hf1.trans hb2
    have x2 := hb2.keep x0
    unfold maxLen at hma
    clear x0 hf1 hb2 HK
    go_wp2_with fail
    go_loopw [6] (fun i wr => ∃ k : Nat, k ≤ l.length ∧ i = .int .i64 k ∧ Fr w2 wr ∧ Hid (∀ j, j < k → l[j]? ≠ some K)) (fun i _ => l.length - (intOf i).toNat)
    case atStart => exact ⟨0, Nat.zero_le _, rfl, Fr.refl _, Lib.hid (by omega)⟩
    case round =>
      obtain ⟨k, hk, rfl, hfr, hno⟩ := hrel
      by_cases hlt : k < l.length
      · have hlti : (k : Int) < l.length := by omega
        obtain ⟨x, hx⟩ : ∃ x, l[k]? = some x := ⟨l[k], List.getElem?_eq_getElem hlt⟩
        rcases hxa with hxa | ⟨b1, o1, rfl, _, hb1, hc1⟩
        · exfalso
          have := congrArg List.length hxa
          simp [u8Cells] at this
          subst this
          simp at hlt
        · have c1 := hfr.keep (hc1 k (.int .u8 x) (by simp [u8Cells, hx]))
          have x3 := hfr.keep x2
          have hz1 := lt_of_cell c1
          have hz2 := lt_of_cell x3
          have hkc : k < cap := by omega
          simp only at hz1 hz2
          clear hc1 x2
          by_cases he : x = K
          · subst he
            have hRR := HY.out (List.mem_of_getElem? hx)
            clear HY HN hno hx
            subst hRR
            go_wp2
            go_quiet (fail)
            go_wp2
            go_ret
            exact ⟨rfl, (hf2.trans hfr).drewN _⟩
          · have hq : ((x : Int) == K) = false := by simp; omega
            have hNN := Lib.hid (show ∀ j, j < k + 1 → l[j]? ≠ some K by
              intro j hj
              by_cases e : j = k
              · rw [e, hx]; simpa using he
              · exact hno.out j (by omega))
            clear HY HN hno hx he
            go_wp2
            go_quiet (fail)
            go_wp2
            go_roundw
            case rel => exact ⟨k + 1, by omega, by go_num, hfr.drewN _, hNN⟩
            case measure => simp [intOf]; omega
      · obtain rfl : k = l.length := by omega
        have hRR := HN.out (fun h => by
          obtain ⟨j, hj⟩ := List.getElem?_of_mem h
          have := (List.getElem?_eq_some_iff.1 hj).1
          exact hno.out j this hj)
        clear HY HN hno
        subst hRR
        go_wp2
        go_ret
        exact ⟨rfl, hf2.trans hfr⟩
set_option maxRecDepth 100000 in
set_option maxHeartbeats 2000000 in
theorem resMay_c (f K V : Nat) (w : World) : Calls Tryz.prog 46 #[.int .u8 f, .agg #[.int .u8 K, .int .u16 V]] w (NumRet w (mayRes f K V)) := by
  have hchk := fun W => resCheck_c K V W
  unfold mayRes
  refine (callsIn_wide (n := 3)).1 ?_
  refine callsIn_of_wp_marks Tryz.func46 rfl trivial ?_ rfl
  simp only [Tryz.ntmps46, List.size_toArray, List.length_cons, List.length_nil, Nat.reduceAdd, Nat.reduceSub, Array.replicate_succ, Array.replicate_zero, List.push_toArray, List.append_toArray, List.nil_append, List.cons_append]
  cases hg : goodB K V
  · have HC : Hid (checkRes K V = 4) := by simp [Hid, checkRes, hg]
    rw [HC.out] at hchk
    rw [if_neg (by simp)]
    have HK := Lib.hid hchk
    clear hg hchk
    gi_wp2_with ((refine ⟨trivial, ?_⟩; gi_at_call 55; refine (callsIn_wide.2 (HK.out _)).mono ?_; rintro e w1 ⟨rfl, hb⟩; have x4 := hb.keep (p := ⟨w.heap.size + 1, 0, none⟩) (v := .int .i64 0) (by simp); have f4 := (hb.frozen (w.heap.size + 1) 0 (by simp)).trans (show _ = false by simp); have hz := hb.size2))
    refine ⟨.int .i64 4, ?_, rfl, Fr.trans (((Fr.refl w).alloc _).alloc _) hb |>.setCell (p := ⟨w.heap.size + 1, 0, none⟩) (by simp) _⟩
    have c4 := World.cell?_setCell_same' w1 ⟨w.heap.size + 1, 0, none⟩ (.int .i64 4) (by rw [x4]; rfl)
    simp [results, Tryz.results46, go_sem, c4]
  · have HC : Hid (checkRes K V = 0) := by simp [Hid, checkRes, hg]
    rw [HC.out] at hchk
    rw [if_pos rfl]
    have HK := Lib.hid hchk
    have hR : ∃ R, R = if K ∈ kindsOf f then 0 else 10 := ⟨_, rfl⟩
    obtain ⟨R, hR⟩ := hR
    rw [← hR]
    have HY := Lib.hid (fun (h : K ∈ kindsOf f) => show R = 0 by rw [hR, if_pos h])
    have HN := Lib.hid (fun (h : ¬ K ∈ kindsOf f) => show R = 10 by rw [hR, if_neg h])
    clear hg hchk hR
    gi_wp2_with (first | (refine ⟨trivial, ?_⟩; gi_at_call 55; refine (callsIn_wide.2 (HK.out _)).mono ?_; rintro e w1 ⟨rfl, hb⟩; have x0 := hb.keep (p := ⟨w.heap.size, 0, none⟩) (v := .int .u8 K) (by simp); have x4 := hb.keep (p := ⟨w.heap.size + 1, 0, none⟩) (v := .int .i64 0) (by simp); have f4 := (hb.frozen (w.heap.size + 1) 0 (by simp)).trans (show _ = false by simp); have hz := hb.size2) | (refine ⟨trivial, ?_⟩; gi_at_call 56; refine (callsIn_wide.2 (resKinds_c f _)).mono ?_; rintro e w2 ⟨rfl, rfl⟩))
    have hB0 : Below w.heap.size w (w1.alloc (.cells #[.int .u8 f] 5)) := (Fr.trans (((Fr.refl w).alloc _).alloc _) hb).alloc _
    have cB : (w1.alloc (.cells #[.int .u8 f] 5)).cell? ⟨w1.heap.size, 0, none⟩ = some (.int .u8 f) := by simp
    refine wpIn_rangeFunc_ownF (α := Nat) (encs := fun x : Nat => #[Value.int .u8 x]) rfl (by omega) (gf := 82) (lb := #[.pointer (some ⟨w1.heap.size, 0, none⟩)]) rfl trivial (enters_of Tryz.func82 (by kernel_rfl) rfl)
      (kinds_stops f (3 - 1) w1.heap.size w.heap.size _ (by omega) (by simp) (by simp; omega) cB) belowK_t (belowK_b (by simp; omega)) (Below.refl _ _) (fun _ => rfl)
      (fun pre W => ((∀ y ∈ pre, y ≠ K) ∧ W.cell? ⟨w.heap.size, 0, none⟩ = some (.int .u8 K) ∧ W.cell? ⟨w.heap.size + 1, 0, none⟩ = some (.int .i64 0) ∧ W.frozen? ⟨w.heap.size + 1, 0, none⟩ = false) ∧ Below w.heap.size w W)
      (fun c pre W => (c = .ret ∧ K ∈ pre ∧ W.cell? ⟨w.heap.size + 1, 0, none⟩ = some (.int .i64 0)) ∧ Below w.heap.size w W)
      (OwnFrom.and (Own.from (fun s A B row hs hg hr => ⟨hs.1, cell_kept hs.2.1 hg hr, cell_kept hs.2.2.1 hg hr, (frozen_kept hs.2.2.1 hg hr).trans hs.2.2.2⟩) _) (ownFrom_below (Nat.le_refl _) (by simp; omega)))
      (fun c => OwnFrom.and (Own.from (fun s A B row hs hg hr => ⟨hs.1, hs.2.1, cell_kept hs.2.2 hg hr⟩) _) (ownFrom_below (Nat.le_refl _) (by simp; omega)))
      ⟨⟨by simp, cell_al _ x0, cell_al _ x4, frozen_al _ x4 f4⟩, hB0⟩
      (fun x => { tmps := #[.int .u8 f, .agg #[.int .u8 K, .int .u16 V], undef, .pointer (some ⟨w.heap.size, 0, none⟩), .pointer (some ⟨w.heap.size + 1, 0, none⟩), .int .i64 0, .int .u8 x, .agg #[.int .u8 K, .int .u16 V], .int .i64 0, .int .i64 0, .bool false, undef, .int .u8 f, .func (.func 82) #[] #[.pointer (some ⟨w1.heap.size, 0, none⟩)], .int .u8 x, undef, undef, undef, undef], defers := [] }) ?assign ?body ?done ?stop
    case assign =>
      intro l x W KK hK
      gi_wp2
      exact hK
    case body =>
      rintro l pre x W ⟨⟨hp, hcw, hcr, hfr⟩, hB⟩ _
      have hz1 := lt_of_cell hcw
      have hz2 := lt_of_cell hcr
      simp only at hz1 hz2
      by_cases hx : x = K
      · subst hx
        gi_wp2
        exact ⟨KeepsOthers.setCell _ _ _, ⟨rfl, List.mem_append.2 (.inr (by simp)), World.cell?_setCell_same' _ _ _ (by rw [hcr]; rfl)⟩, hB.setCell (p := ⟨w.heap.size + 1, 0, none⟩) (by simp) _⟩
      · have hq : ((x : Int) == K) = false := by simp; omega
        have hpp := Lib.hid (show ∀ y ∈ pre ++ [x], y ≠ K from fun y hy => (List.mem_append.1 hy).elim (hp y) (fun e => by simp at e; subst e; exact hx))
        clear hp hx
        gi_wp2
        exact ⟨KeepsOthers.refl _, Below.refl _ _, ⟨hpp.out, hcw, hcr, hfr⟩, hB⟩
    case done =>
      rintro D ys W hD rfl ⟨⟨hne, _, hcr, hfr⟩, hB⟩ hK
      have hRR := HN.out (fun h => hne K h rfl)
      subst hRR
      gi_wp2
      have hK' := (KeepsOthers.setCell W ⟨w.heap.size + 1, 0, none⟩ (.int .i64 10)).same D _ hK rfl
      refine ⟨by simp, .inl ⟨_, _, rfl, run_takeDeferred hK', ?_⟩⟩
      have hc5 := cell_kept (World.cell?_setCell_same' W ⟨w.heap.size + 1, 0, none⟩ (.int .i64 10) (by rw [hcr]; rfl)) (grownBy_putObj' _ D (.deferred none)) (fun r e => by cases e; exact ⟨_, hK', rfl⟩)
      refine ⟨.int .i64 10, ?_, rfl, (hB.setCell (p := ⟨w.heap.size + 1, 0, none⟩) (by simp) _).trans (belowK_b (w := w) (Nat.le_refl _) _ D _ _ (by simp at hD; omega) hK' rfl rfl)⟩
      simp [results, Tryz.results46, go_sem, hc5]
    case stop =>
      rintro D c pre W hD hpre ⟨⟨rfl, hin, hcr⟩, hB⟩ hK
      have hRR := HY.out (hpre.subset hin)
      subst hRR
      gi_wp2
      refine ⟨by simp, .inl ⟨_, _, rfl, run_takeDeferred hK, ?_⟩⟩
      have hc5 := cell_kept hcr (grownBy_putObj' _ D (.deferred none)) (fun r e => by cases e; exact ⟨_, hK, rfl⟩)
      refine ⟨.int .i64 0, ?_, rfl, hB.trans (belowK_b (w := w) (Nat.le_refl _) W D _ _ (by simp at hD; omega) hK rfl rfl)⟩
      simp [results, Tryz.results46, go_sem, hc5]
end Go.Proofs.YtdjjjnoecfbjeaaGreatDoor
