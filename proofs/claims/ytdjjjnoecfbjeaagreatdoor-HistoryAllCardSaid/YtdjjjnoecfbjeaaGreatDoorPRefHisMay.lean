/- umpireref07: why an event may not follow those that were taken. No condition but that all can be read, and the numbers' bounds. -/
import Derived.Test.YtdjjjnoecfbjeaaGreatDoorPHisAwake
import Derived.Test.YtdjjjnoecfbjeaaGreatDoorPHisOpens
import Derived.Test.YtdjjjnoecfbjeaaGreatDoorPRefMayE
import Derived.Test.YtdjjjnoecfbjeaaGreatDoorPOp
import Derived.Deep.Cut
set_option linter.all false
set_option linter.unusedVariables false
set_option linter.unusedSimpArgs false
set_option linter.unnecessarySimpa false
/- umpireref07: why an event may not follow those that were taken. No condition but that all can be read, and the numbers' bounds. -/
namespace Go.Proofs.YtdjjjnoecfbjeaaGreatDoor
open Go.RowKit
attribute [local go_sem] Oper.semAt_some

set_option maxRecDepth 100000 in
set_option maxHeartbeats 2000000 in
theorem ends7_c (L : List Ev) (v : Value) (p : Nat) (w : World) (h : HisAt w p v L) (x : Ev) (t r : Value) (ht : RdM w t x.txn) (hr : RdR w r x.reads) :
    Calls Tryz.prog 31 #[.pointer (some ⟨p, 0, none⟩), x.val t r] w fun e w' => e = .returned (.int .i64 (endsWhy L x : Nat)) ∧ Fr w w' := by
  obtain ⟨ta, tn, tc, rfl⟩ := ht.slice
  obtain ⟨ra, rn, rc, rfl⟩ := hr.slice
  obtain ⟨rfl, hr2, hr3⟩ := hr.len
  unfold maxLen at hr3
  have hP := fun W (f : Fr w W) => pend7_c L v p x.client W (h.fr f)
  unfold PendP at hP
  have hpm : ∀ q, pend L x.client = some q → q.txn.length ≤ 8 := fun q hq => Ev.may_txn (h.may q (List.mem_of_mem_drop (pend_client hq).2.2)).1
  clear h ht hr
  have hb0 := BoxAt.new w (x.cells (.slice ta tn tc) (.slice ra x.reads.length rc)) 39
  have hF0 := (Fr.refl w).alloc (.cells (x.cells (.slice ta tn tc) (.slice ra x.reads.length rc)) 39)
  cases hpe : pend L x.client with
  | none =>
    have hb : (pend L x.client).isSome = false := by rw [hpe]; rfl
    have hE : endsWhy L x = 7 := by unfold endsWhy; rw [hpe]
    rw [hE]
    simp only [hb] at hP
    generalize lastEv L x.client = y at hP
    have HP := Lib.hid hP
    clear hE hpe hpm hb hP
    unfold Ev.val
    go_enter Tryz.func31, Tryz.ntmps31
    go_wp2_with fail
    refine (HP.out _ hF0).mono ?_
    rintro e w1 ⟨⟨qa, qn, qc, sa, sn, sc, rfl, _⟩, hf⟩
    have hF1 := hF0.trans hf
    clear hb0 hF0 hf
    go_wp2_with ((with_reducible refine wpList_here (.store 39 (.tmp 5) (.tmp 14)) rfl ?_); refine wpList_store_new 39 (.tmp 5) (.tmp 14) rfl _ (y.cells (.slice qa qn qc) (.slice sa sn sc)) _ rfl rfl rfl Tryz.infoEv rfl (Ev.oneCell y qa sa qn qc sn sc) rfl rfl ?_)
    go_ret
    exact ⟨rfl, hF1.trans ((Fr.refl _).alloc _)⟩
  | some q =>
    have hb : (pend L x.client).isSome = true := by rw [hpe]; rfl
    have h8 := hpm q hpe
    have hle := lastEv_pend hpe
    have hE : endsWhy L x = if q.id ≠ x.id then 7 else if x.kind = 3 then mayRes q.op.F x.rk x.rv else if x.kind = 6 ∧ readsIn q.txn ≠ x.reads.length then 10 else 0 := by unfold endsWhy; rw [hpe]
    rw [hE]
    simp only [hb, hle] at hP
    have HP := Lib.hid hP
    clear hE hpe hpm hb hle hP
    have e2 : ((q.id : Int) != (x.id : Int)) = !decide (q.id = x.id) := nat_neb _ _
    have e3 : ((x.kind : Int) == 3) = decide (x.kind = 3) := beqN x.kind 3
    have e6 : ((x.kind : Int) == 6) = decide (x.kind = 6) := beqN x.kind 6
    unfold Ev.val
    by_cases hid : q.id = x.id
    · rw [if_neg (by simp [hid])]
      rw [decide_eq_true hid] at e2
      by_cases h3 : x.kind = 3
      · rw [if_pos h3]
        rw [decide_eq_true h3] at e3
        clear h3 e6 hid
        go_enter Tryz.func31, Tryz.ntmps31
        go_wp2_with fail
        refine (HP.out _ hF0).mono ?_
        rintro e w1 ⟨⟨qa, qn, qc, sa, sn, sc, rfl, hq, hs⟩, hf⟩
        have hBx1 := hb0.fr hf
        have hF1 := hF0.trans hf
        obtain ⟨rfl, hq2, hq3⟩ := hq.len
        unfold maxLen at hq3
        clear hb0 hF0 hf hs
        go_upto_region 2 with ((with_reducible refine wpList_here (.store 39 (.tmp 5) (.tmp 14)) rfl ?_); refine wpList_store_new 39 (.tmp 5) (.tmp 14) rfl _ (q.cells (.slice qa q.txn.length qc) (.slice sa sn sc)) _ rfl rfl rfl Tryz.infoEv rfl (Ev.oneCell q qa sa q.txn.length qc sn sc) rfl rfl ?_)
        refine gen_w fun W hW => ?_
        have hBx : BoxAt W w.heap.size (x.cells (.slice ta tn tc) (.slice ra x.reads.length rc)) 39 := by rw [hW]; exact hBx1.alloc _
        have hBq : BoxAt W w1.heap.size (q.cells (.slice qa q.txn.length qc) (.slice sa sn sc)) 39 := by rw [hW]; exact BoxAt.new w1 _ _
        have hF : Fr w W := by rw [hW]; exact hF1.trans ((Fr.refl _).alloc _)
        have HM := Lib.hid (hq.keep (show Fr w1 W by rw [hW]; exact (Fr.refl _).alloc _))
        have x0 : W.cell? ⟨w.heap.size, 0, none⟩ = some (.int .u8 x.kind) := hBx.at 0 rfl
        have x2 : W.cell? ⟨w.heap.size, 2, none⟩ = some (.int .u16 x.id) := hBx.at 2 rfl
        have x8 : W.cell? ⟨w.heap.size, 8, none⟩ = some (.int .u8 x.rk) := hBx.at 8 rfl
        have x9 : W.cell? ⟨w.heap.size, 9, none⟩ = some (.int .u16 x.rv) := hBx.at 9 rfl
        have x11 : W.cell? ⟨w.heap.size, 11, none⟩ = some (.slice ra x.reads.length rc) := hBx.at 11 rfl
        have q2 : W.cell? ⟨w1.heap.size, 2, none⟩ = some (.int .u16 q.id) := hBq.at 2 rfl
        have q3 : W.cell? ⟨w1.heap.size, 3, none⟩ = some (.int .u8 q.op.F) := hBq.at 3 rfl
        have q10 : W.cell? ⟨w1.heap.size, 10, none⟩ = some (.slice qa q.txn.length qc) := hBq.at 10 rfl
        have hlx := hBx.lt
        have hlq := hBq.lt
        clear hW hBx1 hq hF1
        generalize w1.heap.size = N at hBq q2 q3 q10 hlq ⊢
        go_wp2_with fail
        refine (rMay3_c _ _ _ W).mono ?_
        rintro e w3 ⟨rfl, hf⟩
        go_wp2_with fail
        go_ret
        exact ⟨rfl, hF.trans hf⟩
      · rw [if_neg h3]
        rw [decide_eq_false h3] at e3
        generalize hR : (if x.kind = 6 ∧ readsIn q.txn ≠ x.reads.length then 10 else 0 : Nat) = R
        have HR := Lib.hid hR
        clear hR
        clear h3 hid
        go_enter Tryz.func31, Tryz.ntmps31
        go_wp2_with fail
        refine (HP.out _ hF0).mono ?_
        rintro e w1 ⟨⟨qa, qn, qc, sa, sn, sc, rfl, hq, hs⟩, hf⟩
        have hBx1 := hb0.fr hf
        have hF1 := hF0.trans hf
        obtain ⟨rfl, hq2, hq3⟩ := hq.len
        unfold maxLen at hq3
        clear hb0 hF0 hf hs
        go_upto_region 2 with ((with_reducible refine wpList_here (.store 39 (.tmp 5) (.tmp 14)) rfl ?_); refine wpList_store_new 39 (.tmp 5) (.tmp 14) rfl _ (q.cells (.slice qa q.txn.length qc) (.slice sa sn sc)) _ rfl rfl rfl Tryz.infoEv rfl (Ev.oneCell q qa sa q.txn.length qc sn sc) rfl rfl ?_)
        refine gen_w fun W hW => ?_
        have hBx : BoxAt W w.heap.size (x.cells (.slice ta tn tc) (.slice ra x.reads.length rc)) 39 := by rw [hW]; exact hBx1.alloc _
        have hBq : BoxAt W w1.heap.size (q.cells (.slice qa q.txn.length qc) (.slice sa sn sc)) 39 := by rw [hW]; exact BoxAt.new w1 _ _
        have hF : Fr w W := by rw [hW]; exact hF1.trans ((Fr.refl _).alloc _)
        have HM := Lib.hid (hq.keep (show Fr w1 W by rw [hW]; exact (Fr.refl _).alloc _))
        have x0 : W.cell? ⟨w.heap.size, 0, none⟩ = some (.int .u8 x.kind) := hBx.at 0 rfl
        have x2 : W.cell? ⟨w.heap.size, 2, none⟩ = some (.int .u16 x.id) := hBx.at 2 rfl
        have x8 : W.cell? ⟨w.heap.size, 8, none⟩ = some (.int .u8 x.rk) := hBx.at 8 rfl
        have x9 : W.cell? ⟨w.heap.size, 9, none⟩ = some (.int .u16 x.rv) := hBx.at 9 rfl
        have x11 : W.cell? ⟨w.heap.size, 11, none⟩ = some (.slice ra x.reads.length rc) := hBx.at 11 rfl
        have q2 : W.cell? ⟨w1.heap.size, 2, none⟩ = some (.int .u16 q.id) := hBq.at 2 rfl
        have q3 : W.cell? ⟨w1.heap.size, 3, none⟩ = some (.int .u8 q.op.F) := hBq.at 3 rfl
        have q10 : W.cell? ⟨w1.heap.size, 10, none⟩ = some (.slice qa q.txn.length qc) := hBq.at 10 rfl
        have hlx := hBx.lt
        have hlq := hBq.lt
        clear hW hBx1 hq hF1
        generalize w1.heap.size = N at hBq q2 q3 q10 hlq ⊢
        go_wp2_with fail
        obtain ⟨_, _, he, _, _, hsl⟩ := HM.out
        cases he
        have HS := Lib.hid hsl
        clear hsl x2 x8 x9 q2 q3 hBx hBq e2 HM
        go_loopw [7, 8] (fun u i wr => ∃ k : Nat, k ≤ q.txn.length ∧ i = .int .i64 k ∧ u = .int .i64 (readsIn (q.txn.take k) : Nat) ∧ Fr W wr) (fun _ i _ => q.txn.length - (intOf i).toNat)
        case atStart => exact ⟨0, Nat.zero_le _, rfl, rfl, Fr.refl _⟩
        case round =>
          obtain ⟨k, hk, rfl, rfl, hfr⟩ := hrel
          have y0 := hfr.keep x0
          have y11 := hfr.keep x11
          have z10 := hfr.keep q10
          have hly := lt_of_cell y0
          have hlz := lt_of_cell z10
          simp only at hly hlz
          clear x0 x11 q10 hlx hlq
          have hrl : readsIn (q.txn.take k) ≤ 8 := Nat.le_trans (readsIn_le _) (by simp; omega)
          by_cases hlt : k < q.txn.length
          · have hkc : k < qc := by omega
            obtain ⟨b, o, rfl, hlb, c0, _, _⟩ := micSl HS.out hfr hlt
            have hs := readsIn_take hlt
            generalize readsIn (q.txn.take k) = N at hs hrl ⊢
            cases hb : q.txn[k].read
            · rw [hb] at c0 hs
              have HT := Lib.hid hs
              clear hs hb
              go_wp2_with fail
              go_roundw
              case rel => exact ⟨k + 1, by omega, by go_num, by rw [HT.out]; rfl, hfr⟩
              case measure => simp [intOf]; omega
            · rw [hb] at c0 hs
              have HT := Lib.hid hs
              clear hs hb
              go_wp2_with fail
              go_roundw
              case rel => exact ⟨k + 1, by omega, by go_num, by rw [HT.out]; go_num, hfr⟩
              case measure => simp [intOf]; omega
          · have hT : q.txn.take k = q.txn := List.take_of_length_le (by omega)
            rw [hT] at hrl ⊢
            by_cases h6 : x.kind = 6
            · rw [decide_eq_true h6] at e6
              by_cases hn : readsIn q.txn = x.reads.length
              · have HE := Lib.hid (show (if x.kind = 6 ∧ readsIn q.txn ≠ x.reads.length then 10 else 0 : Nat) = 0 by rw [if_neg (by simp [hn])])
                have en : ((readsIn q.txn : Int) != (x.reads.length : Int)) = false := by simp [hn]
                clear h6 hn
                go_wp2_with fail
                go_ret
                exact ⟨by rw [← HR.out, HE.out]; rfl, hF.trans hfr⟩
              · have HE := Lib.hid (show (if x.kind = 6 ∧ readsIn q.txn ≠ x.reads.length then 10 else 0 : Nat) = 10 by rw [if_pos ⟨h6, hn⟩])
                have en : ((readsIn q.txn : Int) != (x.reads.length : Int)) = true := by simp; omega
                clear h6 hn
                go_wp2_with fail
                go_ret
                exact ⟨by rw [← HR.out, HE.out]; rfl, hF.trans hfr⟩
            · rw [decide_eq_false h6] at e6
              have HE := Lib.hid (show (if x.kind = 6 ∧ readsIn q.txn ≠ x.reads.length then 10 else 0 : Nat) = 0 by rw [if_neg (by simp [h6])])
              clear h6
              go_wp2_with fail
              go_ret
              exact ⟨by rw [← HR.out, HE.out]; rfl, hF.trans hfr⟩
    · rw [if_pos hid]
      rw [decide_eq_false hid] at e2
      clear hid e3 e6
      go_enter Tryz.func31, Tryz.ntmps31
      go_wp2_with fail
      refine (HP.out _ hF0).mono ?_
      rintro e w1 ⟨⟨qa, qn, qc, sa, sn, sc, rfl, hq, hs⟩, hf⟩
      have hBx1 := hb0.fr hf
      have hF1 := hF0.trans hf
      obtain ⟨rfl, hq2, hq3⟩ := hq.len
      unfold maxLen at hq3
      clear hb0 hF0 hf hs
      go_upto_region 2 with ((with_reducible refine wpList_here (.store 39 (.tmp 5) (.tmp 14)) rfl ?_); refine wpList_store_new 39 (.tmp 5) (.tmp 14) rfl _ (q.cells (.slice qa q.txn.length qc) (.slice sa sn sc)) _ rfl rfl rfl Tryz.infoEv rfl (Ev.oneCell q qa sa q.txn.length qc sn sc) rfl rfl ?_)
      refine gen_w fun W hW => ?_
      have hBx : BoxAt W w.heap.size (x.cells (.slice ta tn tc) (.slice ra x.reads.length rc)) 39 := by rw [hW]; exact hBx1.alloc _
      have hBq : BoxAt W w1.heap.size (q.cells (.slice qa q.txn.length qc) (.slice sa sn sc)) 39 := by rw [hW]; exact BoxAt.new w1 _ _
      have hF : Fr w W := by rw [hW]; exact hF1.trans ((Fr.refl _).alloc _)
      have HM := Lib.hid (hq.keep (show Fr w1 W by rw [hW]; exact (Fr.refl _).alloc _))
      have x0 : W.cell? ⟨w.heap.size, 0, none⟩ = some (.int .u8 x.kind) := hBx.at 0 rfl
      have x2 : W.cell? ⟨w.heap.size, 2, none⟩ = some (.int .u16 x.id) := hBx.at 2 rfl
      have x8 : W.cell? ⟨w.heap.size, 8, none⟩ = some (.int .u8 x.rk) := hBx.at 8 rfl
      have x9 : W.cell? ⟨w.heap.size, 9, none⟩ = some (.int .u16 x.rv) := hBx.at 9 rfl
      have x11 : W.cell? ⟨w.heap.size, 11, none⟩ = some (.slice ra x.reads.length rc) := hBx.at 11 rfl
      have q2 : W.cell? ⟨w1.heap.size, 2, none⟩ = some (.int .u16 q.id) := hBq.at 2 rfl
      have q3 : W.cell? ⟨w1.heap.size, 3, none⟩ = some (.int .u8 q.op.F) := hBq.at 3 rfl
      have q10 : W.cell? ⟨w1.heap.size, 10, none⟩ = some (.slice qa q.txn.length qc) := hBq.at 10 rfl
      have hlx := hBx.lt
      have hlq := hBq.lt
      clear hW hBx1 hq hF1
      generalize w1.heap.size = N at hBq q2 q3 q10 hlq ⊢
      go_wp2_with fail
      go_ret
      exact ⟨rfl, hF⟩
end Go.Proofs.YtdjjjnoecfbjeaaGreatDoor

/- umpireref07: why a client may not open something. No condition but that all can be read, and the numbers' bounds. -/
namespace Go.Proofs.YtdjjjnoecfbjeaaGreatDoor
open Go.RowKit
attribute [local go_sem] Oper.semAt_some

set_option maxRecDepth 100000 in
set_option maxHeartbeats 2000000 in
theorem opens7Busy_c (L : List Ev) (v : Value) (p : Nat) (w : World) (h : HisAt w p v L) (x : Ev) (t r : Value) (ht : RdM w t x.txn) (hr : RdR w r x.reads) (ok : x.Ok) (hb : (pend L x.client).isSome = true) :
    Calls Tryz.prog 30 #[.pointer (some ⟨p, 0, none⟩), x.val t r] w fun e w' => e = .returned (.int .i64 (9 : Nat)) ∧ Fr w w' := by
  obtain ⟨ta, tn, tc, rfl⟩ := ht.slice
  obtain ⟨ra, rn, rc, rfl⟩ := hr.slice
  obtain ⟨rfl, ht2, ht3⟩ := ht.len
  unfold maxLen at ht3
  have hP := fun W (f : Fr w W) => pend7_c L v p x.client W (h.fr f)
  unfold PendP at hP
  have hb0 := BoxAt.new w (x.cells (.slice ta x.txn.length tc) (.slice ra rn rc)) 39
  have hF0 := (Fr.refl w).alloc (.cells (x.cells (.slice ta x.txn.length tc) (.slice ra rn rc)) 39)
  have hid := ok.id

  simp only [hb] at hP
  generalize lastEv L x.client = y at hP
  have HP := Lib.hid hP
  clear hb hP h ht hr ok
  unfold Ev.val

  go_enter Tryz.func30, Tryz.ntmps30
  go_wp2_with fail
  refine (HP.out _ hF0).mono ?_
  rintro e w1 ⟨⟨qa, qn, qc, sa, sn, sc, rfl, _⟩, hf⟩
  have hBx1 := hb0.fr hf
  have hF1 := hF0.trans hf
  clear hf hb0 hF0

  go_wp2_with ((with_reducible refine wpList_here (.store 39 (.tmp 5) (.tmp 17)) rfl ?_); refine wpList_store_new 39 (.tmp 5) (.tmp 17) rfl _ (y.cells (.slice qa qn qc) (.slice sa sn sc)) _ rfl rfl rfl Tryz.infoEv rfl (Ev.oneCell y qa sa qn qc sn sc) rfl rfl ?_)
  go_ret
  exact ⟨rfl, hF1.trans ((Fr.refl _).alloc _)⟩
set_option maxRecDepth 100000 in
set_option maxHeartbeats 2000000 in
theorem opens7Old_c (L : List Ev) (v : Value) (p : Nat) (w : World) (h : HisAt w p v L) (x : Ev) (t r : Value) (ht : RdM w t x.txn) (hr : RdR w r x.reads) (ok : x.Ok) (hb : (pend L x.client).isSome = false) (hi : (x.id : Int) ≤ lastId L) :
    Calls Tryz.prog 30 #[.pointer (some ⟨p, 0, none⟩), x.val t r] w fun e w' => e = .returned (.int .i64 (8 : Nat)) ∧ Fr w w' := by
  obtain ⟨ta, tn, tc, rfl⟩ := ht.slice
  obtain ⟨ra, rn, rc, rfl⟩ := hr.slice
  obtain ⟨rfl, ht2, ht3⟩ := ht.len
  unfold maxLen at ht3
  have hP := fun W (f : Fr w W) => pend7_c L v p x.client W (h.fr f)
  unfold PendP at hP
  have hb0 := BoxAt.new w (x.cells (.slice ta x.txn.length tc) (.slice ra rn rc)) 39
  have hF0 := (Fr.refl w).alloc (.cells (x.cells (.slice ta x.txn.length tc) (.slice ra rn rc)) 39)
  have hid := ok.id

  have hLa := fun W (f : Fr w W) => last7_c L v p W (h.fr f)
  simp only [hb] at hP
  generalize lastEv L x.client = y at hP

  generalize lastId L = n at hi hLa
  have HP := Lib.hid hP
  have HLa := Lib.hid hLa
  clear hb hP hLa h ht hr ok
  unfold Ev.val

  go_enter Tryz.func30, Tryz.ntmps30
  go_wp2_with fail
  refine (HP.out _ hF0).mono ?_
  rintro e w1 ⟨⟨qa, qn, qc, sa, sn, sc, rfl, _⟩, hf⟩
  have hBx1 := hb0.fr hf
  have hF1 := hF0.trans hf
  clear hf hb0 hF0

  go_upto_region 4 with ((with_reducible refine wpList_here (.store 39 (.tmp 5) (.tmp 17)) rfl ?_); refine wpList_store_new 39 (.tmp 5) (.tmp 17) rfl _ (y.cells (.slice qa qn qc) (.slice sa sn sc)) _ rfl rfl rfl Tryz.infoEv rfl (Ev.oneCell y qa sa qn qc sn sc) rfl rfl ?_)
  refine gen_w fun W hW => ?_
  have hBx : BoxAt W w.heap.size (x.cells (.slice ta x.txn.length tc) (.slice ra rn rc)) 39 := by rw [hW]; exact hBx1.alloc _
  have hF : Fr w W := by rw [hW]; exact hF1.trans ((Fr.refl _).alloc _)
  have e2 : ∀ z : FrW W, z.val.cell? ⟨w.heap.size, 2, none⟩ = some (.int .u16 x.id) := FrW.cell (hBx.at 2 rfl)
  have hlz : ∀ z : FrW W, w.heap.size < z.val.heap.size := fun z => Nat.lt_of_lt_of_le hBx.lt z.fr.size
  have HF := Lib.hid hF
  have HB := Lib.hid hBx
  clear hW hBx1 hF1 hBx hF
  go_wp2_with fail
  refine wp_region_fr (by kernel_rfl) (by kernel_rfl) ?_
  repeat (go_big_quiet_step ((go_at_call 24; exact frq (HLa.out _ (Fr.trans HF.out (FrW.fr _))))))
  refine wpQuiet_nil ?_
  rintro w5 ⟨⟨_, hf5⟩, rfl⟩
  have hBx := HB.out.fr hf5
  have hF := HF.out.trans hf5
  clear e2 hlz hf5 HF HB

  go_wp2_with fail
  go_ret
  exact ⟨rfl, hF⟩
set_option maxRecDepth 100000 in
set_option maxHeartbeats 2000000 in
theorem opens7Op_c (L : List Ev) (v : Value) (p : Nat) (w : World) (h : HisAt w p v L) (x : Ev) (t r : Value) (ht : RdM w t x.txn) (hr : RdR w r x.reads) (ok : x.Ok) (hb : (pend L x.client).isSome = false) (hi : ¬ (x.id : Int) ≤ lastId L) (hk : x.kind = 2) {c : Ev} {M : List Ev} (hc : L = c :: M) (okc : c.Ok) :
    Calls Tryz.prog 30 #[.pointer (some ⟨p, 0, none⟩), x.val t r] w fun e w' => e = .returned (.int .i64 ((checkN c.cfg.model x.op.F x.op.O x.op.K x.op.A x.op.B).toNat : Nat)) ∧ Fr w w' := by
  rw [checkN_nat]
  obtain ⟨ta, tn, tc, rfl⟩ := ht.slice
  obtain ⟨ra, rn, rc, rfl⟩ := hr.slice
  obtain ⟨rfl, ht2, ht3⟩ := ht.len
  unfold maxLen at ht3
  have hP := fun W (f : Fr w W) => pend7_c L v p x.client W (h.fr f)
  unfold PendP at hP
  have hb0 := BoxAt.new w (x.cells (.slice ta x.txn.length tc) (.slice ra rn rc)) 39
  have hF0 := (Fr.refl w).alloc (.cells (x.cells (.slice ta x.txn.length tc) (.slice ra rn rc)) 39)
  have hid := ok.id

  have hLa := fun W (f : Fr w W) => last7_c L v p W (h.fr f)
  simp only [hb] at hP
  generalize lastEv L x.client = y at hP

  generalize lastId L = n at hi hLa
  have HP := Lib.hid hP
  have HLa := Lib.hid hLa
  obtain ⟨la, cap, rfl, hcap, hmax, _⟩ := id h.rd
  unfold maxLen at hmax
  obtain ⟨b1, o1, t1, r1, rfl, hb1, hx, hm1, hm2⟩ := RdE.at (k := 0) h.rd (by rw [hc]; simp)
  have c0 := h.at0
  have c12 : w.cell? ⟨b1, o1 + 0 * 19 + 12, none⟩ = some (.int .u8 c.cfg.model) := by have h1 := hx 12 _ rfl; simp only [hc] at h1; exact h1
  have hll : 0 < L.length := by rw [hc]; simp
  have hpl := h.lt
  have hck := rCheck_c c.cfg.model x.op.F x.op.O x.op.K x.op.A x.op.B
  have hm := okc.model
  have hFF := ok.F
  rw [Nat.zero_mul, Nat.add_zero] at c12
  generalize c.cfg.model = m at c12 hck hm
  have HCK := Lib.hid (fun W => hck W (by omega) (by omega) (by omega))
  have e3 : ((x.kind : Int) == 2) = true := by simp [hk]
  clear hm1 hm2 hx hb hP hLa h ht hr ok hc okc hck hk
  unfold Ev.val

  go_enter Tryz.func30, Tryz.ntmps30
  go_wp2_with fail
  refine (HP.out _ hF0).mono ?_
  rintro e w1 ⟨⟨qa, qn, qc, sa, sn, sc, rfl, _⟩, hf⟩
  have hBx1 := hb0.fr hf
  have hF1 := hF0.trans hf
  clear hf hb0 hF0

  go_upto_region 4 with ((with_reducible refine wpList_here (.store 39 (.tmp 5) (.tmp 17)) rfl ?_); refine wpList_store_new 39 (.tmp 5) (.tmp 17) rfl _ (y.cells (.slice qa qn qc) (.slice sa sn sc)) _ rfl rfl rfl Tryz.infoEv rfl (Ev.oneCell y qa sa qn qc sn sc) rfl rfl ?_)
  refine gen_w fun W hW => ?_
  have hBx : BoxAt W w.heap.size (x.cells (.slice ta x.txn.length tc) (.slice ra rn rc)) 39 := by rw [hW]; exact hBx1.alloc _
  have hF : Fr w W := by rw [hW]; exact hF1.trans ((Fr.refl _).alloc _)
  have e2 : ∀ z : FrW W, z.val.cell? ⟨w.heap.size, 2, none⟩ = some (.int .u16 x.id) := FrW.cell (hBx.at 2 rfl)
  have hlz : ∀ z : FrW W, w.heap.size < z.val.heap.size := fun z => Nat.lt_of_lt_of_le hBx.lt z.fr.size
  have HF := Lib.hid hF
  have HB := Lib.hid hBx
  clear hW hBx1 hF1 hBx hF
  go_wp2_with fail
  refine wp_region_fr (by kernel_rfl) (by kernel_rfl) ?_
  repeat (go_big_quiet_step ((go_at_call 24; exact frq (HLa.out _ (Fr.trans HF.out (FrW.fr _))))))
  refine wpQuiet_nil ?_
  rintro w5 ⟨⟨_, hf5⟩, rfl⟩
  have hBx := HB.out.fr hf5
  have hF := HF.out.trans hf5
  clear e2 hlz hf5 HF HB

  have x0 : w5.cell? ⟨w.heap.size, 0, none⟩ = some (.int .u8 x.kind) := hBx.at 0 rfl
  have hl5 := hBx.lt
  go_wp2_with fail
  have HF5 := Lib.hid hF
  have y0 := FrW.cell (hF.keep c0)
  have y12 := FrW.cell (hF.keep c12)
  have z3 : ∀ z : FrW w5, z.val.cell? ⟨w.heap.size, 3, none⟩ = some (.int .u8 x.op.F) := FrW.cell (hBx.at 3 rfl)
  have z4 : ∀ z : FrW w5, z.val.cell? ⟨w.heap.size, 4, none⟩ = some (.int .u8 x.op.O) := FrW.cell (hBx.at 4 rfl)
  have z5 : ∀ z : FrW w5, z.val.cell? ⟨w.heap.size, 5, none⟩ = some (.int .u8 x.op.K) := FrW.cell (hBx.at 5 rfl)
  have z6 : ∀ z : FrW w5, z.val.cell? ⟨w.heap.size, 6, none⟩ = some (.int .u16 x.op.A) := FrW.cell (hBx.at 6 rfl)
  have z7 : ∀ z : FrW w5, z.val.cell? ⟨w.heap.size, 7, none⟩ = some (.int .u16 x.op.B) := FrW.cell (hBx.at 7 rfl)
  have hlz : ∀ z : FrW w5, w.heap.size < z.val.heap.size := fun z => Nat.lt_of_lt_of_le hl5 z.fr.size
  have hlp : ∀ z : FrW w5, p < z.val.heap.size := fun z => Nat.lt_of_lt_of_le hpl (hF.trans z.fr).size
  have hlb : ∀ z : FrW w5, b1 < z.val.heap.size := fun z => Nat.lt_of_lt_of_le hb1 (hF.trans z.fr).size
  clear hF hBx c0 c12 x0
  refine wp_region_fr (by kernel_rfl) (by kernel_rfl) ?_
  repeat (go_big_quiet_step ((go_at_call 40; exact frq (HCK.out _))))
  refine wpQuiet_nil ?_
  rintro w6 ⟨⟨_, hf6⟩, rfl⟩
  clear y0 y12 z3 z4 z5 z6 z7 hlz hlp hlb
  go_wp2_with fail
  go_ret
  exact ⟨rfl, HF5.out.trans hf6⟩
end Go.Proofs.YtdjjjnoecfbjeaaGreatDoor

/- umpireref07: what its opens counts. No condition but that all can be read, and the numbers' bounds. -/
namespace Go.Proofs.YtdjjjnoecfbjeaaGreatDoor
open Go.RowKit
attribute [local go_sem] Oper.semAt_some

theorem cntW_mono (l : List Mic) (c : Nat) {i j : Nat} (h : i ≤ j) : cntW (l.take i) c ≤ cntW (l.take j) c := by
  unfold cntW
  exact ((List.take_sublist_take_left h).filter _).length_le
/-- How often a number was appended to a key by those that were taken. -/
def cntL (L : List Ev) (c v : Nat) : Nat := ((L.drop 1).map fun x => cntP x.txn c v).sum
theorem cntL_take {L : List Ev} {j : Nat} (h0 : 1 ≤ j) (h : j < L.length) (c v : Nat) : cntL (L.take (j + 1)) c v = cntL (L.take j) c v + cntP L[j].txn c v := by
  unfold cntL
  have hne : L.take j ≠ [] := by intro e; have h1 := congrArg List.length e; rw [List.length_take] at h1; simp only [List.length_nil] at h1; omega
  rw [List.take_succ_eq_append_getElem h, drop1_snoc hne]
  simp
theorem cntL_one (L : List Ev) (c v : Nat) : cntL (L.take 1) c v = 0 := by cases L <;> rfl
theorem cntP_le8 (l : List Mic) (c v : Nat) : cntP l c v ≤ l.length := List.length_filter_le _ _
theorem cntL_le {L : List Ev} (h : ∀ x ∈ L, x.txn.length ≤ 8) (c v : Nat) : cntL L c v ≤ 8 * L.length := by
  unfold cntL
  have : ∀ M : List Ev, (∀ x ∈ M, x.txn.length ≤ 8) → (M.map fun x => cntP x.txn c v).sum ≤ 8 * M.length := by
    intro M hM
    induction M with
    | nil => simp
    | cons a M ih =>
      have h1 := ih fun x hx => hM x (List.mem_cons_of_mem _ hx)
      have h2 := hM a (List.mem_cons_self ..)
      have h3 := cntP_le8 a.txn c v
      simp only [List.map_cons, List.sum_cons, List.length_cons]
      omega
  refine Nat.le_trans (this _ fun x hx => h x (List.mem_of_mem_drop hx)) ?_
  simp only [List.length_drop]
  omega
theorem sum_pos_any {α : Type} (f : α → Nat) (l : List α) : decide (0 < (l.map f).sum) = l.any fun x => decide (0 < f x) := by
  induction l with
  | nil => rfl
  | cons a l ih =>
    simp only [List.map_cons, List.sum_cons, List.any_cons, ← ih]
    by_cases h : 0 < f a
    · simp [h]; omega
    · have h0 : f a = 0 := by omega
      simp [h0]
theorem app_cntL (L : List Ev) (c v : Nat) : app L c v = decide (0 < cntL L c v) := by
  unfold app cntL
  rw [sum_pos_any]
  congr 1
  funext x
  rw [any_puts]
/-- None of the first so many reads what was appended to ahead of it. -/
def ReadsNo (l : List Mic) (k : Nat) : Prop := ∀ i (hi : i < l.length), i < k → l[i].read = true → cntW (l.take i) l[i].key = 0
/-- None of the first so many appends what was appended. -/
def PutsNo (L : List Ev) (l : List Mic) (k : Nat) : Prop := ∀ i (hi : i < l.length), i < k → l[i].read = false → cntP (l.take i) l[i].key l[i].v = 0 ∧ app L l[i].key l[i].v = false
theorem ReadsNo.zero (l : List Mic) : ReadsNo l 0 := fun i _ h => by omega
theorem PutsNo.zero (L : List Ev) (l : List Mic) : PutsNo L l 0 := fun i _ h => by omega
theorem ReadsNo.succ {l : List Mic} {k : Nat} (h : ReadsNo l k) (hk : k < l.length) (h1 : l[k].read = true → cntW (l.take k) l[k].key = 0) : ReadsNo l (k + 1) := by
  intro i hi hlt hr
  by_cases he : i = k
  · subst he; exact h1 hr
  · exact h i hi (by omega) hr
theorem PutsNo.succ {L : List Ev} {l : List Mic} {k : Nat} (h : PutsNo L l k) (hk : k < l.length) (h1 : l[k].read = false → cntP (l.take k) l[k].key l[k].v = 0 ∧ app L l[k].key l[k].v = false) : PutsNo L l (k + 1) := by
  intro i hi hlt hr
  by_cases he : i = k
  · subst he; exact h1 hr
  · exact h i hi (by omega) hr
set_option maxRecDepth 100000 in
set_option maxHeartbeats 4000000 in
theorem opens7Txn_c (L : List Ev) (v : Value) (p : Nat) (w : World) (h : HisAt w p v L) (x : Ev) (t r : Value) (ht : RdM w t x.txn) (hr : RdR w r x.reads) (ok : x.Ok) (hb : (pend L x.client).isSome = false) (hi : ¬ (x.id : Int) ≤ lastId L) (hk : x.kind ≠ 2) (h8 : x.txn.length ≤ 8) :
    Calls Tryz.prog 30 #[.pointer (some ⟨p, 0, none⟩), x.val t r] w fun e w' => e = .returned (.int .i64 (if readsOwn x.txn then 10 else if twice L x.txn then 8 else 0 : Nat)) ∧ Fr w w' := by
  obtain ⟨ta, tn, tc, rfl⟩ := ht.slice
  obtain ⟨ra, rn, rc, rfl⟩ := hr.slice
  obtain ⟨rfl, ht2, ht3⟩ := ht.len
  unfold maxLen at ht3
  have hP := fun W (f : Fr w W) => pend7_c L v p x.client W (h.fr f)
  unfold PendP at hP
  have hb0 := BoxAt.new w (x.cells (.slice ta x.txn.length tc) (.slice ra rn rc)) 39
  have hF0 := (Fr.refl w).alloc (.cells (x.cells (.slice ta x.txn.length tc) (.slice ra rn rc)) 39)
  have hid := ok.id

  have hLa := fun W (f : Fr w W) => last7_c L v p W (h.fr f)
  simp only [hb] at hP
  generalize lastEv L x.client = y at hP

  generalize lastId L = n at hi hLa
  have HP := Lib.hid hP
  have HLa := Lib.hid hLa
  obtain ⟨la, cap, rfl, hcap, hmax, _⟩ := id h.rd
  unfold maxLen at hmax
  have hfew := h.few
  have hc8 : ∀ c v, cntL L c v ≤ 8000 := fun c v => Nat.le_trans (cntL_le (fun y hy => Ev.may_txn (h.may y hy).1) c v) (by omega)
  have hj8 : ∀ y ∈ L, y.txn.length ≤ 8 := fun y hy => Ev.may_txn (h.may y hy).1
  have HC8 := Lib.hid hc8
  have HJ8 := Lib.hid hj8
  obtain ⟨_, _, he, _, _, hsl⟩ := id ht
  cases he
  have HS := Lib.hid hsl
  have HT := Lib.hid ht
  have HR := Lib.hid h.rd
  have c0 := h.at0
  have hpl := h.lt
  have e3 : ((x.kind : Int) == 2) = false := by simp; omega
  generalize hRS : (if readsOwn x.txn then 10 else if twice L x.txn then 8 else 0 : Nat) = R
  have HRS := Lib.hid hRS
  clear hb hP hLa h ht hr ok hk hsl hRS hc8 hj8
  unfold Ev.val

  go_enter Tryz.func30, Tryz.ntmps30
  go_wp2_with fail
  refine (HP.out _ hF0).mono ?_
  rintro e w1 ⟨⟨qa, qn, qc, sa, sn, sc, rfl, _⟩, hf⟩
  have hBx1 := hb0.fr hf
  have hF1 := hF0.trans hf
  clear hf hb0 hF0

  go_upto_region 4 with ((with_reducible refine wpList_here (.store 39 (.tmp 5) (.tmp 17)) rfl ?_); refine wpList_store_new 39 (.tmp 5) (.tmp 17) rfl _ (y.cells (.slice qa qn qc) (.slice sa sn sc)) _ rfl rfl rfl Tryz.infoEv rfl (Ev.oneCell y qa sa qn qc sn sc) rfl rfl ?_)
  refine gen_w fun W hW => ?_
  have hBx : BoxAt W w.heap.size (x.cells (.slice ta x.txn.length tc) (.slice ra rn rc)) 39 := by rw [hW]; exact hBx1.alloc _
  have hF : Fr w W := by rw [hW]; exact hF1.trans ((Fr.refl _).alloc _)
  have e2 : ∀ z : FrW W, z.val.cell? ⟨w.heap.size, 2, none⟩ = some (.int .u16 x.id) := FrW.cell (hBx.at 2 rfl)
  have hlz : ∀ z : FrW W, w.heap.size < z.val.heap.size := fun z => Nat.lt_of_lt_of_le hBx.lt z.fr.size
  have HF := Lib.hid hF
  have HB := Lib.hid hBx
  clear hW hBx1 hF1 hBx hF
  go_wp2_with fail
  refine wp_region_fr (by kernel_rfl) (by kernel_rfl) ?_
  repeat (go_big_quiet_step ((go_at_call 24; exact frq (HLa.out _ (Fr.trans HF.out (FrW.fr _))))))
  refine wpQuiet_nil ?_
  rintro w5 ⟨⟨_, hf5⟩, rfl⟩
  have hBx := HB.out.fr hf5
  have hF := HF.out.trans hf5
  clear e2 hlz hf5 HF HB

  have x0 : w5.cell? ⟨w.heap.size, 0, none⟩ = some (.int .u8 x.kind) := hBx.at 0 rfl
  have x10 : w5.cell? ⟨w.heap.size, 10, none⟩ = some (.slice ta x.txn.length tc) := hBx.at 10 rfl
  have hl5 := hBx.lt
  go_wp2_with fail
  have HF5 := Lib.hid hF
  clear hBx x0
  go_loopw [7] (fun i wr => ∃ k : Nat, k ≤ x.txn.length ∧ i = .int .i64 k ∧ ReadsNo x.txn k ∧ Fr w5 wr) (fun i _ => x.txn.length - (intOf i).toNat)
  case atStart => exact ⟨0, Nat.zero_le _, rfl, ReadsNo.zero _, Fr.refl _⟩
  case round =>
    obtain ⟨k, hk, rfl, hno, hfr⟩ := hrel
    have y10 := hfr.keep x10
    have hly := lt_of_cell y10
    simp only at hly
    by_cases hlt : k < x.txn.length
    · have HNO := Lib.hid hno
      clear hno
      go_wp2_with fail
      obtain ⟨W1, hW1⟩ : ∃ W1, W1 = wr := ⟨wr, rfl⟩
      subst hW1
      have hF1 := HF5.out.trans hfr
      go_loopw [8] (fun i wr => ∃ j : Nat, j ≤ k ∧ i = .int .i64 j ∧ (x.txn[k].read = true → cntW (x.txn.take j) x.txn[k].key = 0) ∧ Fr W1 wr) (fun i _ => k - (intOf i).toNat)
      case atStart => exact ⟨0, Nat.zero_le _, rfl, fun _ => rfl, Fr.refl _⟩
      case round =>
        obtain ⟨j, hj, rfl, hcn, hf2⟩ := hrel
        have z10 := hf2.keep y10
        have hlz := lt_of_cell z10
        simp only at hlz
        clear x10 y10 hly hl5
        by_cases hjk : j < k
        · have hkc : k < tc := by omega
          have hjc : j < tc := by omega
          have hjl : j < x.txn.length := by omega
          obtain ⟨b, o, rfl, hlb, c00, c01, c02⟩ := micSl HS.out (hF1.trans hf2) hlt
          obtain ⟨b', o', he, _, d00, d01, d02⟩ := micSl HS.out (hF1.trans hf2) hjl
          cases he
          have hs := cntW_take hjl x.txn[k].key
          have hyes := fun hr hc => readsOwn_yes (l := x.txn) (k := k) hlt hr (Nat.lt_of_lt_of_le hc (cntW_mono x.txn x.txn[k].key (show j + 1 ≤ k by omega)))
          have ek : ((x.txn[j].key : Int) == (x.txn[k].key : Int)) = decide (x.txn[j].key = x.txn[k].key) := beqN _ _
          generalize hm : x.txn[k] = m at c00 c01 c02 hcn hs hyes ek ⊢
          generalize x.txn[j] = q at d00 d01 d02 hs ek
          cases hmr : m.read
          · rw [hmr] at c00
            clear hcn hs hyes hmr hm
            go_wp2_with fail
            go_quiet (fail)
            go_wp2_with fail
            go_roundw
            case rel => exact ⟨j + 1, by omega, by go_num, (fun e => by cases e), hf2.drewN _⟩
            case measure => simp [intOf]; omega
          · rw [hmr] at c00
            have hc0 := hcn hmr
            cases hqr : q.read
            · rw [hqr] at d00
              by_cases hkk : q.key = m.key
              · rw [decide_eq_true hkk] at ek
                have hR := hyes hmr (by rw [hs, if_pos ⟨hqr, hkk⟩]; omega)
                have HR2 := Lib.hid hR
                clear hcn hs hyes hmr hqr hkk hc0 hR hm
                go_wp2_with fail
                go_quiet (fail)
                go_wp2_with fail
                go_ret
                exact ⟨by rw [← HRS.out, if_pos HR2.out]; rfl, (hF1.trans hf2).drewN _⟩
              · rw [decide_eq_false hkk] at ek
                have HG := Lib.hid (show cntW (x.txn.take (j + 1)) m.key = 0 by rw [hs, if_neg (fun h => hkk h.2), hc0])
                skip
                clear hcn hs hyes hmr hqr hkk hc0 hm
                go_wp2_with fail
                go_quiet (fail)
                go_wp2_with fail
                go_roundw
                case rel => exact ⟨j + 1, by omega, by go_num, fun _ => HG.out, hf2.drewN _⟩
                case measure => simp [intOf]; omega
            · rw [hqr] at d00
              have HG := Lib.hid (show cntW (x.txn.take (j + 1)) m.key = 0 by rw [hs, if_neg (fun h => by rw [hqr] at h; cases h.1), hc0])
              skip
              clear hcn hs hyes hmr hqr hc0 hm
              go_wp2_with fail
              go_quiet (fail)
              go_wp2_with fail
              go_roundw
              case rel => exact ⟨j + 1, by omega, by go_num, fun _ => HG.out, hf2.drewN _⟩
              case measure => simp [intOf]; omega
        · have hjk2 : j = k := by omega
          subst hjk2
          have HNO2 := Lib.hid (HNO.out.succ hlt hcn)
          clear hcn
          go_wp2_with fail
          go_roundw
          case rel => exact ⟨j + 1, by omega, by go_num, HNO2.out, hfr.trans hf2⟩
          case measure => simp [intOf]; omega
    · have hown : readsOwn x.txn = false := readsOwn_no fun i hi => hno i hi (by omega)
      have HO := Lib.hid hown
      have hF1 := HF5.out.trans hfr
      clear hno hown
      go_wp2_with fail
      obtain ⟨W1, hW1⟩ : ∃ W1, W1 = wr := ⟨wr, rfl⟩
      subst hW1
      go_loopw [9] (fun i wr => ∃ k : Nat, k ≤ x.txn.length ∧ i = .int .i64 k ∧ PutsNo L x.txn k ∧ Fr W1 wr) (fun i _ => x.txn.length - (intOf i).toNat)
      case atStart => exact ⟨0, Nat.zero_le _, rfl, PutsNo.zero _ _, Fr.refl _⟩
      case round =>
        obtain ⟨k2, hk2, rfl, hpn, hf2⟩ := hrel
        have z10 := hf2.keep y10
        have hlz := lt_of_cell z10
        simp only at hlz
        clear x10 y10 hly hl5
        have HPN := Lib.hid hpn
        clear hpn
        by_cases hlt2 : k2 < x.txn.length
        · have hkc : k2 < tc := by omega
          have hF2 := hF1.trans hf2
          obtain ⟨b, o, rfl, hlb, c00, c01, c02⟩ := micSl HS.out hF2 hlt2
          have hyes := fun hr hc => twice_yes (L := L) (l := x.txn) (k := k2) hlt2 hr hc
          have hno2 := fun hc => HPN.out.succ hlt2 hc
          have hcp := cntP_le x.txn k2 x.txn[k2].key x.txn[k2].v
          have happ := app_cntL L x.txn[k2].key x.txn[k2].v
          generalize hm : x.txn[k2] = m at c00 c01 c02 hyes hno2 hcp happ
          cases hmr : m.read
          · rw [hmr] at c00
            have HNO := Lib.hid hno2
            have HY := Lib.hid (hyes hmr)
            have HAP := Lib.hid happ
            have HMR := Lib.hid hmr
            have hac := fun W (f : Fr w W) => app7_c x.txn (.slice (some ⟨b, o, none⟩) x.txn.length tc) m k2 W (HT.out.keep f) (by omega)
            unfold Mic.val at hac
            simp only [hmr] at hac
            have HAC := Lib.hid hac
            clear hno2 hyes hmr happ hm hac
            go_wp2_with fail
            have HF2 := Lib.hid hF2
            have HHf := Lib.hid hf2
            have e10 : ∀ z : FrW wr, z.val.cell? ⟨w.heap.size, 10, none⟩ = some (.slice (some ⟨b, o, none⟩) x.txn.length tc) := FrW.cell z10
            have e00 := FrW.cell c00
            have e01 := FrW.cell c01
            have e02 := FrW.cell c02
            have elz : ∀ z : FrW wr, w.heap.size < z.val.heap.size := fun z => Nat.lt_of_lt_of_le hlz z.fr.size
            have elb : ∀ z : FrW wr, b < z.val.heap.size := fun z => Nat.lt_of_lt_of_le hlb z.fr.size
            clear hF2 hf2 z10 c00 c01 c02
            refine wp_region_fr (by kernel_rfl) (by kernel_rfl) ?_
            repeat (go_big_quiet_step ((go_at_call 41; exact frq (HAC.out _ (HF2.out.trans (FrW.fr _))))))
            refine wpQuiet_nil ?_
            rintro w6 ⟨⟨_, hf6⟩, rfl⟩
            have hF6 := HF2.out.trans hf6
            have g10 := e10 ⟨_, hf6⟩
            have g00 := e00 ⟨_, hf6⟩
            have g01 := e01 ⟨_, hf6⟩
            have g02 := e02 ⟨_, hf6⟩
            simp only at g10 g00 g01 g02
            have HF6 := Lib.hid hF6
            have HW6 := Lib.hid (HHf.out.trans hf6)
            clear e10 e00 e01 e02 elz elb hf6 hF6
            go_wp2_with fail
            go_loopw [10, 11] (fun u i wr => ∃ j : Nat, 1 ≤ j ∧ (j ≤ L.length ∨ j = 1) ∧ i = .int .i64 j ∧ u = .int .i64 (cntP (x.txn.take k2) m.key m.v + cntL (L.take j) m.key m.v : Nat) ∧ Fr w6 wr) (fun _ i _ => L.length - (intOf i).toNat)
            case atStart => exact ⟨1, Nat.le_refl _, .inr rfl, rfl, by rw [cntL_one]; rfl, Fr.refl _⟩
            case round =>
              obtain ⟨j, hj1, hj2, rfl, rfl, hf7⟩ := hrel
              have hF7 := HF6.out.trans hf7
              have d0 := hF7.keep c0
              have hpl7 := lt_of_cell d0
              simp only at hpl7
              have hcl : cntL (L.take j) m.key m.v ≤ 8000 := Nat.le_trans (cntL_le (fun y hy => HJ8.out y (List.mem_of_mem_take hy)) _ _) (by rw [List.length_take]; omega)
              by_cases hjl : j < L.length
              · obtain ⟨b1, o1, t1, r1, rfl, hb1, hx, hm1, hm2⟩ := RdE.at (HR.out.keep hF7) hjl
                have hjc : j < cap := by omega
                have hs := cntL_take hj1 hjl m.key m.v
                have hy8 := HJ8.out _ (List.getElem_mem hjl)
                generalize L[j] = y2 at hx hm1 hm2 hs hy8
                obtain ⟨ya, yn, yc, rfl⟩ := hm1.slice
                obtain ⟨rfl, hy2, hy3⟩ := hm1.len
                unfold maxLen at hy3
                have hcy := cntP_le8 y2.txn m.key m.v
                have d10 : wr.cell? ⟨b1, o1 + j * 19 + 10, none⟩ = some (.slice ya y2.txn.length yc) := hx 10 _ rfl
                have hac := fun W (f : Fr wr W) => app7_c y2.txn (.slice ya y2.txn.length yc) m y2.txn.length W (hm1.keep f) (Nat.le_refl _)
                simp only [List.take_length] at hac
                unfold Mic.val at hac
                simp only [HMR.out] at hac
                have HAC2 := Lib.hid hac
                have HS2 := Lib.hid hs
                have HF7 := Lib.hid hf7
                have e0 := FrW.cell d0
                have e10 := FrW.cell (hf7.keep g10)
                have e00 := FrW.cell (hf7.keep g00)
                have e01 := FrW.cell (hf7.keep g01)
                have e02 := FrW.cell (hf7.keep g02)
                have ed := FrW.cell d10
                have hl6 := lt_of_cell (hf7.keep g10)
                have hl7 := lt_of_cell (hf7.keep g00)
                simp only at hl6 hl7
                have elz : ∀ z : FrW wr, w.heap.size < z.val.heap.size := fun z => Nat.lt_of_lt_of_le hl6 z.fr.size
                have elb : ∀ z : FrW wr, b < z.val.heap.size := fun z => Nat.lt_of_lt_of_le hl7 z.fr.size
                have elp : ∀ z : FrW wr, p < z.val.heap.size := fun z => Nat.lt_of_lt_of_le hpl7 z.fr.size
                have el1 : ∀ z : FrW wr, b1 < z.val.heap.size := fun z => Nat.lt_of_lt_of_le hb1 z.fr.size
                generalize cntL (L.take j) m.key m.v = M at hs hcl HS2 ⊢
                generalize cntP y2.txn m.key m.v = Y at hs hcy HS2 HAC2
                generalize cntP (x.txn.take k2) m.key m.v = N at hcp HY HNO ⊢
                clear hs hac hx hm1 hm2 g10 g00 g01 g02 d10 hF7 hf7 hl6 hl7
                go_wp2_with fail
                clear d0
                refine wp_region_fr (by kernel_rfl) (by kernel_rfl) ?_
                repeat (go_big_quiet_step ((go_at_call 41; exact frq (HAC2.out _ (FrW.fr _)))))
                refine wpQuiet_nil ?_
                rintro w8 ⟨⟨_, hf8⟩, rfl⟩
                clear e0 e10 e00 e01 e02 ed elz elb elp el1
                go_wp2_with fail
                go_roundw
                case rel => exact ⟨j + 1, by omega, .inl (by omega), by go_num, by rw [HS2.out]; go_num, HF7.out.trans hf8⟩
                case measure => simp [intOf]; omega
              · have hT : L.take j = L := List.take_of_length_le (by omega)
                rw [hT] at hcl ⊢
                by_cases hpos : 0 < cntP (x.txn.take k2) m.key m.v + cntL L m.key m.v
                · have htw : twice L x.txn = true := HY.out (by
                    rcases Nat.eq_zero_or_pos (cntP (x.txn.take k2) m.key m.v) with h0 | h0
                    · refine .inr ?_
                      rw [HAP.out]; simp; omega
                    · exact .inl h0)
                  have HTW := Lib.hid htw
                  have hpi : (0 : Int) < ((cntP (x.txn.take k2) m.key m.v + cntL L m.key m.v : Nat) : Int) := by omega
                  generalize cntP (x.txn.take k2) m.key m.v + cntL L m.key m.v = S at hpos hpi ⊢
                  clear htw
                  go_wp2_with fail
                  go_ret
                  exact ⟨by rw [← HRS.out, HO.out, HTW.out]; rfl, hF7⟩
                · have hpn := HNO.out fun _ => ⟨by omega, by rw [HAP.out]; simp; omega⟩
                  have HPN2 := Lib.hid hpn
                  have hpi : ¬ (0 : Int) < ((cntP (x.txn.take k2) m.key m.v + cntL L m.key m.v : Nat) : Int) := by omega
                  generalize cntP (x.txn.take k2) m.key m.v + cntL L m.key m.v = S at hpos hpi ⊢
                  clear hpn
                  go_wp2_with fail
                  go_roundw
                  case rel => exact ⟨k2 + 1, by omega, by go_num, HPN2.out, HW6.out.trans hf7⟩
                  case measure => simp [intOf]; omega
          · rw [hmr] at c00
            have HNO := Lib.hid (hno2 fun e => by rw [hmr] at e; cases e)
            clear hno2 hyes hmr happ hm c01 c02
            go_wp2_with fail
            go_roundw
            case rel => exact ⟨k2 + 1, by omega, by go_num, HNO.out, hf2⟩
            case measure => simp [intOf]; omega
        · have htw : twice L x.txn = false := twice_no fun i hi => HPN.out i hi (by omega)
          have HTW := Lib.hid htw
          clear htw
          go_wp2_with fail
          go_ret
          exact ⟨by rw [← HRS.out, HO.out, HTW.out]; rfl, hF1.trans hf2⟩
end Go.Proofs.YtdjjjnoecfbjeaaGreatDoor
