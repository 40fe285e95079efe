/- umpireref05.body of kinds 2 and 3. No condition but the bytes' length. -/
import Derived.Test.YtgbaanioppblhaaDoorPRefMay
import Derived.Test.YtgbaanioppblhaaDoorPEvTakeE
import Derived.Test.YtgbaanioppblhaaDoorPRefTake
set_option linter.all false
set_option linter.unusedVariables false
set_option linter.unusedSimpArgs false
set_option linter.unnecessarySimpa false
/- umpireref05.body of kinds 2 and 3. No condition but the bytes' length. -/
namespace Go.Proofs.YtgbaanioppblhaaDoor
open Go.RowKit

/-- What body leaves: the event, the error. -/
def BodyQ (p : Nat) (W : World) (y : Ev × Nat) (e' : Ending) (W' : World) : Prop := ∃ t r, e' = .returned (.tuple #[y.1.val t r, .int .i64 y.2]) ∧ Stays W W' t r y.1 ∧ Chp p W W'
set_option maxRecDepth 100000 in
set_option maxHeartbeats 1000000 in
theorem rBody_3 (p e at_ : Nat) (s : List UInt8) (x : Ev) (w : World) (h : RfAt w p e s at_) (hk : x.kind = 3) (ht : x.txn = []) (hr : x.reads = []) :
    Calls Tryd.prog 42 #[x.val nil0 nil0, .pointer (some ⟨p, 0, none⟩)] w (BodyQ p w ({ x with rk := (takeRes e s at_).1.1, rv := (takeRes e s at_).1.2.1 }, (takeRes e s at_).1.2.2)) := by
  have h2 : ((x.kind : Int) == 2) = false := by simp [hk]
  have h3 : ((x.kind : Int) == 3) = true := by simp [hk]
  have hrt := fun W h => rResTake_c p e at_ s W h
  generalize takeRes e s at_ = Y at hrt ⊢
  obtain ⟨⟨K, V, E⟩, z⟩ := Y
  simp only at hrt ⊢
  have HT := Lib.hid hrt
  have hB := (BoxAt.new w (x.cells nil0 nil0) 32).alloc (.cells (Ev.zero.cells nil0 nil0) 32)
  have hZ := BoxAt.new' (w.alloc (.cells (x.cells nil0 nil0) 32)) (Ev.zero.cells nil0 nil0) 32 (w.heap.size + 1) (by simp)
  have hrd := h.keep (((Fr.refl w).alloc (.cells (x.cells nil0 nil0) 32)).alloc (.cells (Ev.zero.cells nil0 nil0) 32))
  have hp := h.lt
  have hch0 : Chp p w ((w.alloc (.cells (x.cells nil0 nil0) 32)).alloc (.cells (Ev.zero.cells nil0 nil0) 32)) := ((Chp.refl p w).alloc _).alloc _
  unfold Ev.val
  clear h hrt hk
  go_enter Tryd.func42, Tryd.ntmps42
  go_wp2_with fail
  refine (HT.out _ hrd).mono ?_
  rintro e' w1 ⟨rfl, _, hch⟩
  have hB1 := hB.chp hch (by omega)
  have hZ1 := hZ.chp hch (by omega)
  have hch1 := hch0.trans hch
  have hz1 := hZ1.lt
  have hz0 := hB1.lt
  have c8 := hB1.at 8 rfl
  have g8 := hB1.free 8
  have c9 := hB1.at 9 rfl
  have g9 := hB1.free 9
  have hB2 : BoxAt _ w.heap.size (({ x with rk := K, rv := V } : Ev).cells nil0 nil0) _ := (hB1.setAt 8 (.int .u8 K)).setAt 9 (.int .u16 V)
  have hZ2 := (hZ1.set (p := ⟨w.heap.size, 8, none⟩) (by simp) (.int .u8 K)).set (p := ⟨w.heap.size, 9, none⟩) (by simp) (.int .u16 V)
  have hch2 := (hch1.setAt (q := w.heap.size) (Nat.le_refl _) 8 (.int .u8 K)).setAt (q := w.heap.size) (Nat.le_refl _) 9 (.int .u16 V)
  clear hB hZ hrd hch hch0 hB1 hZ1 hch1
  have hB3 := hB2.alloc (.cells #[.int .u8 K, .int .u16 V] 26)
  have hZ3 := hZ2.alloc (.cells #[.int .u8 K, .int .u16 V] 26)
  have hch3 := hch2.alloc (.cells #[.int .u8 K, .int .u16 V] 26)
  clear hB2 hZ2 hch2
  go_wp2_with (first | ((with_reducible refine wpList_here (.load 32 (.tmp 2)) rfl ?_); refine wpList_load_box 32 (.tmp 2) rfl _ rfl _ hB3 _ Tryd.underlying32 rfl Tryd.infoEv rfl ?_) | ((with_reducible refine wpList_here (.store 32 (.tmp 4) (.tmp 50)) rfl ?_); refine wpList_store_old 32 (.tmp 4) (.tmp 50) rfl (w.heap.size + 1) _ _ rfl rfl hZ3 Tryd.infoEv rfl (Ev.oneCell { x with rk := K, rv := V } none none 0 0 0 0) rfl rfl ?_; rintro wz hR))
  refine bodyPost_ret (v := .tuple #[.agg (({ x with rk := K, rv := V } : Ev).cells nil0 nil0), .int .i64 E]) (results_ev2 rfl _ _ (w.heap.size + 1) _ _ rfl rfl hR.box rfl) rfl ⟨nil0, nil0, rfl, fun _ _ _ => ⟨by rw [show ({ x with rk := K, rv := V } : Ev).txn = [] from ht]; exact RdM.nil _, by rw [show ({ x with rk := K, rv := V } : Ev).reads = [] from hr]; exact RdR.nil _⟩, ?_⟩
  exact ⟨hR.os.trans hch3.os, hR.tape.trans hch3.tape, hR.output.trans hch3.output, by rw [hR.size]; exact hch3.size, fun k hk h1 h2 => (hR.other k (by omega)).trans (hch3.block k hk h1 h2)⟩
set_option maxRecDepth 100000 in
set_option maxHeartbeats 2000000 in
theorem rBody_2 (p at_ : Nat) (s : List UInt8) (x : Ev) (w : World) (h : RfAt w p 0 s at_) (hk : x.kind = 2) (ht : x.txn = []) (hr : x.reads = []) :
    Calls Tryd.prog 42 #[x.val nil0 nil0, .pointer (some ⟨p, 0, none⟩)] w (BodyQ p w ({ x with op := (rdOp 0 s at_).1 }, (rdOp 0 s at_).2)) := by
  have h2 : ((x.kind : Int) == 2) = true := by simp [hk]
  have hd : rdOp 0 s at_ = ((takeOp (s.drop at_)).1, if (takeOp (s.drop at_)).2.2 = 0 ∧ (takeOp (s.drop at_)).2.1 ≠ [] then 4 else (takeOp (s.drop at_)).2.2) := by unfold rdOp; rw [if_neg (by simp)]
  rw [hd]
  have hT : ∀ W, TakesOp (s.drop at_) W := fun W => rTake_c (s.drop at_) W (by have := h.big; simp; omega)
  unfold TakesOp at hT
  generalize takeOp (s.drop at_) = y at hT ⊢
  obtain ⟨⟨oF, oO, oK, oA, oB⟩, rest, E⟩ := y
  unfold OpD.val at hT
  simp only at hT ⊢
  generalize hX : (if E = 0 ∧ rest ≠ [] then 4 else E) = X
  have HX := Lib.hid hX
  have HT := Lib.hid hT
  have hB := (BoxAt.new w (x.cells nil0 nil0) 32).alloc (.cells (Ev.zero.cells nil0 nil0) 32)
  have hZ := BoxAt.new' (w.alloc (.cells (x.cells nil0 nil0) 32)) (Ev.zero.cells nil0 nil0) 32 (w.heap.size + 1) (by simp)
  have hp := h.lt
  have c0 := h.c0
  have hf0 : Fr w ((w.alloc (.cells (x.cells nil0 nil0) 32)).alloc (.cells (Ev.zero.cells nil0 nil0) 32)) := ((Fr.refl w).alloc _).alloc _
  unfold Ev.val
  clear h hT hX hk hd
  go_enter Tryd.func42, Tryd.ntmps42
  go_wp2_with fail
  refine (HT.out _).mono ?_
  rintro e' w1 ⟨rfl, hb⟩
  have hB1 := hB.fr hb
  have hZ1 := hZ.fr hb
  have hf1 := hf0.trans hb
  have hz1 := hZ1.lt
  have hz0 := hB1.lt
  have c3 := hB1.at 3 rfl
  have c4 := hB1.at 4 rfl
  have c5 := hB1.at 5 rfl
  have c6 := hB1.at 6 rfl
  have c7 := hB1.at 7 rfl
  have g3 := hB1.free 3
  have g4 := hB1.free 4
  have g5 := hB1.free 5
  have g6 := hB1.free 6
  have g7 := hB1.free 7
  have b1 : BoxAt _ w.heap.size (({ x with op := { x.op with F := oF } } : Ev).cells nil0 nil0) _ := hB1.setAt 3 (.int .u8 oF)
  have b2 : BoxAt _ w.heap.size (({ x with op := { x.op with F := oF, O := oO } } : Ev).cells nil0 nil0) _ := b1.setAt 4 (.int .u8 oO)
  have b3 : BoxAt _ w.heap.size (({ x with op := { x.op with F := oF, O := oO, K := oK } } : Ev).cells nil0 nil0) _ := b2.setAt 5 (.int .u8 oK)
  have b4 : BoxAt _ w.heap.size (({ x with op := { x.op with F := oF, O := oO, K := oK, A := oA } } : Ev).cells nil0 nil0) _ := b3.setAt 6 (.int .u16 oA)
  have b5 : BoxAt _ w.heap.size (({ x with op := ⟨oF, oO, oK, oA, oB⟩ } : Ev).cells nil0 nil0) _ := b4.setAt 7 (.int .u16 oB)
  have hB3 := b5.alloc (.cells #[.int .u8 oF, .int .u8 oO, .int .u8 oK, .int .u16 oA, .int .u16 oB] 24)
  have hZ2 := ((((hZ1.set (p := ⟨w.heap.size, 3, none⟩) (by simp) (.int .u8 oF)).set (p := ⟨w.heap.size, 4, none⟩) (by simp) (.int .u8 oO)).set (p := ⟨w.heap.size, 5, none⟩) (by simp) (.int .u8 oK)).set (p := ⟨w.heap.size, 6, none⟩) (by simp) (.int .u16 oA)).set (p := ⟨w.heap.size, 7, none⟩) (by simp) (.int .u16 oB)
  have hZ3 := hZ2.alloc (.cells #[.int .u8 oF, .int .u8 oO, .int .u8 oK, .int .u16 oA, .int .u16 oB] 24)
  have hf3 : Fr w _ := (((((hf1.setCell (p := ⟨w.heap.size, 3, none⟩) (Nat.le_refl _) (.int .u8 oF)).setCell (p := ⟨w.heap.size, 4, none⟩) (Nat.le_refl _) (.int .u8 oO)).setCell (p := ⟨w.heap.size, 5, none⟩) (Nat.le_refl _) (.int .u8 oK)).setCell (p := ⟨w.heap.size, 6, none⟩) (Nat.le_refl _) (.int .u16 oA)).setCell (p := ⟨w.heap.size, 7, none⟩) (Nat.le_refl _) (.int .u16 oB)).alloc (.cells #[.int .u8 oF, .int .u8 oO, .int .u8 oK, .int .u16 oA, .int .u16 oB] 24)
  have hP : ∀ wz, Fr w wz → BodyQ p w ({ x with op := ⟨oF, oO, oK, oA, oB⟩ }, X) (.returned (.tuple #[.agg (({ x with op := ⟨oF, oO, oK, oA, oB⟩ } : Ev).cells nil0 nil0), .int .i64 X])) wz := fun wz hf =>
    ⟨nil0, nil0, rfl, fun _ _ _ => ⟨by rw [show ({ x with op := ⟨oF, oO, oK, oA, oB⟩ } : Ev).txn = [] from ht]; exact RdM.nil _, by rw [show ({ x with op := ⟨oF, oO, oK, oA, oB⟩ } : Ev).reads = [] from hr]; exact RdR.nil _⟩, hf.chp⟩
  have HP := Lib.hid hP
  clear hP hB hZ hf0 hb hB1 hZ1 hf1 b1 b2 b3 b4 b5 hZ2 ht hr
  by_cases hE0 : E = 0
  · subst hE0
    cases rest with
    | nil =>
      have hX0 : X = 0 := by rw [← HX.out]; simp
      clear HX
      subst hX0
      go_wp2_with (first | ((with_reducible refine wpList_here (.load 32 (.tmp 2)) rfl ?_); refine wpList_load_box 32 (.tmp 2) rfl _ rfl _ hB3 _ Tryd.underlying32 rfl Tryd.infoEv rfl ?_) | ((with_reducible refine wpList_here (.store 32 (.tmp 4) (.tmp 39)) rfl ?_); refine wpList_store_old 32 (.tmp 4) (.tmp 39) rfl (w.heap.size + 1) _ _ rfl rfl hZ3 Tryd.infoEv rfl (Ev.oneCell { x with op := ⟨oF, oO, oK, oA, oB⟩ } none none 0 0 0 0) rfl rfl ?_; rintro wz hR; have hfz := hR.fr hf3 (by omega)))
      exact bodyPost_ret (v := .tuple #[.agg (({ x with op := ⟨oF, oO, oK, oA, oB⟩ } : Ev).cells nil0 nil0), .int .i64 0]) (results_ev2 rfl _ _ (w.heap.size + 1) _ _ rfl rfl hR.box rfl) rfl (HP.out _ hfz)
    | cons c cs =>
      have hX0 : X = 4 := by rw [← HX.out]; simp
      clear HX
      subst hX0
      go_wp2_with (first | ((with_reducible refine wpList_here (.load 32 (.tmp 2)) rfl ?_); refine wpList_load_box 32 (.tmp 2) rfl _ rfl _ hB3 _ Tryd.underlying32 rfl Tryd.infoEv rfl ?_) | ((with_reducible refine wpList_here (.store 32 (.tmp 4) (.tmp 39)) rfl ?_); refine wpList_store_old 32 (.tmp 4) (.tmp 39) rfl (w.heap.size + 1) _ _ rfl rfl hZ3 Tryd.infoEv rfl (Ev.oneCell { x with op := ⟨oF, oO, oK, oA, oB⟩ } none none 0 0 0 0) rfl rfl ?_; rintro wz hR; have hfz := hR.fr hf3 (by omega)))
      exact bodyPost_ret (v := .tuple #[.agg (({ x with op := ⟨oF, oO, oK, oA, oB⟩ } : Ev).cells nil0 nil0), .int .i64 4]) (results_ev2 rfl _ _ (w.heap.size + 1) _ _ rfl rfl hR.box rfl) rfl (HP.out _ hfz)
  · have hE1 : ((E : Int) == 0) = false := by simp; omega
    have hX0 : E = X := by rw [← HX.out, if_neg (fun h => hE0 h.1)]
    clear HX hE0
    subst hX0
    go_wp2_with (first | ((with_reducible refine wpList_here (.load 32 (.tmp 2)) rfl ?_); refine wpList_load_box 32 (.tmp 2) rfl _ rfl _ hB3 _ Tryd.underlying32 rfl Tryd.infoEv rfl ?_) | ((with_reducible refine wpList_here (.store 32 (.tmp 4) (.tmp 39)) rfl ?_); refine wpList_store_old 32 (.tmp 4) (.tmp 39) rfl (w.heap.size + 1) _ _ rfl rfl hZ3 Tryd.infoEv rfl (Ev.oneCell { x with op := ⟨oF, oO, oK, oA, oB⟩ } none none 0 0 0 0) rfl rfl ?_; rintro wz hR; have hfz := hR.fr hf3 (by omega)))
    exact bodyPost_ret (v := .tuple #[.agg (({ x with op := ⟨oF, oO, oK, oA, oB⟩ } : Ev).cells nil0 nil0), .int .i64 E]) (results_ev2 rfl _ _ (w.heap.size + 1) _ _ rfl rfl hR.box rfl) rfl (HP.out _ hfz)
end Go.Proofs.YtgbaanioppblhaaDoor
