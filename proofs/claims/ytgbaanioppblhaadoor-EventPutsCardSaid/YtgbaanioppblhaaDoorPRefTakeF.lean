/- umpireref05.Take. No condition but the bytes' length. -/
import Derived.Test.YtgbaanioppblhaaDoorPRefTakeC
import Derived.Test.YtgbaanioppblhaaDoorPRefTakeB
import Derived.Test.YtgbaanioppblhaaDoorPRefPutB
import Derived.Test.YtgbaanioppblhaaDoorPEvTakeE
import Derived.Test.YtgbaanioppblhaaDoorPEvLaw
import Derived.Test.YtgbaanioppblhaaDoorPEvSame
set_option linter.all false
set_option linter.unusedVariables false
set_option linter.unusedSimpArgs false
set_option linter.unnecessarySimpa false
/- umpireref05.Take. No condition but the bytes' length. -/
namespace Go.Proofs.YtgbaanioppblhaaDoor
open Go.RowKit

theorem rdBody_bad (x : Ev) (e : Nat) (s : List UInt8) (at_ : Nat) (he : e ≠ 0) (h1 : x.kind ≠ 1) : (rdBody x e s at_).2 = e := by
  unfold rdBody
  rw [if_neg h1]
  split
  · simp [rdOp, he]
  · split
    · have h0 : ofBe ([] : List UInt8) ≠ 1 := by simp [ofBe]
      simp [takeRes, rdRaw_bad, he, h0]
    · split
      · simp [rdTxn, rdRaw_bad, rdMics_err, he]
      · split
        · simp [rdReads, rdRaw_bad, rdLists_err, he]
        · rfl
theorem rBody_c (p at_ : Nat) (s : List UInt8) (x : Ev) (w : World) (h : RfAt w p 0 s at_) (h1 : 2 ≤ x.kind) (h7 : x.kind ≤ 7) (ht : x.txn = []) (hr : x.reads = []) :
    Calls Tryd.prog 42 #[x.val nil0 nil0, .pointer (some ⟨p, 0, none⟩)] w (BodyP p w (rdBody x 0 s at_)) := by
  rcases (show x.kind = 2 ∨ x.kind = 3 ∨ x.kind = 4 ∨ x.kind = 5 ∨ x.kind = 6 ∨ x.kind = 7 by omega) with hk | hk | hk | hk | hk | hk
  · rw [show rdBody x 0 s at_ = ({ x with op := (rdOp 0 s at_).1 }, (rdOp 0 s at_).2) by simp [rdBody, hk]]
    exact rBody_2 p at_ s x w h hk ht hr
  · rw [show rdBody x 0 s at_ = ({ x with rk := (takeRes 0 s at_).1.1, rv := (takeRes 0 s at_).1.2.1 }, (takeRes 0 s at_).1.2.2) by simp [rdBody, hk]]
    exact rBody_3 p 0 at_ s x w h hk ht hr
  · rw [show rdBody x 0 s at_ = (x, 0) by simp [rdBody, hk]]
    exact rBody_none p 0 at_ s x w h (.inl hk) ht hr
  · rw [show rdBody x 0 s at_ = ({ x with txn := (rdTxn 0 s at_).1 }, (rdTxn 0 s at_).2.1) by simp [rdBody, hk]]
    exact rBody_5 p 0 at_ s x w h hk ht hr
  · rw [show rdBody x 0 s at_ = ({ x with reads := (rdReads 0 s at_).1 }, (rdReads 0 s at_).2.1) by simp [rdBody, hk]]
    exact rBody_6 p 0 at_ s x w h hk ht hr
  · rw [show rdBody x 0 s at_ = (x, 0) by simp [rdBody, hk]]
    exact rBody_none p 0 at_ s x w h (.inr hk) ht hr
theorem RfAt.start (s : List UInt8) (w : World) (X : Obj) (hs : s.length < 1000000) : RfAt ((w.alloc X).alloc (.cells #[.string ⟨s.toArray⟩, .int .i64 0, .int .i64 0] 88)) (w.heap.size + 1) 0 s 0 := by
  have hB := BoxAt.new' (w.alloc X) #[.string ⟨s.toArray⟩, .int .i64 0, .int .i64 0] 88 (w.heap.size + 1) (by simp)
  exact ⟨hB.at 0 rfl, hB.at 1 rfl, hB.at 2 rfl, hB.free 0, hB.free 1, hB.free 2, by omega, by omega⟩
set_option maxRecDepth 100000 in
theorem rTakeE_nil (w : World) : Calls Tryd.prog 17 #[.string ⟨#[]⟩] w (TookEv w (takeEv [])) := by
  have hP : ∀ (w2 : World), Fr w w2 → TookEv w (takeEv []) (.returned (.tuple #[.agg (Ev.zero.cells nil0 nil0), .int .i64 5])) w2 := fun w2 hf => ⟨nil0, nil0, rfl, RdM.nil _, RdR.nil _, hf⟩
  have HP := Lib.hid hP
  clear hP
  go_enter Tryd.func17, Tryd.ntmps17
  go_wp2_with ((with_reducible refine wpList_here (.store 32 (.tmp 2) (.tmp 12)) rfl ?_); refine wpList_store_new 32 (.tmp 2) (.tmp 12) rfl _ _ _ rfl rfl rfl Tryd.infoEv rfl zero_oneCell rfl rfl ?_)
  exact bodyPost_ret (v := .tuple #[.agg (Ev.zero.cells nil0 nil0), .int .i64 5]) (results_ev2 rfl _ _ w.heap.size _ _ rfl rfl (BoxAt.new _ _ _) rfl) rfl (HP.out _ ((Fr.refl w).alloc _))
set_option maxRecDepth 100000 in
set_option maxHeartbeats 1000000 in
theorem rTakeE_kind (k : UInt8) (s' s : List UInt8) (w : World) (hs' : s = k :: s') (hk : k.toNat < 1 ∨ 7 < k.toNat) (hs : s.length < 1000000) : Calls Tryd.prog 17 #[.string ⟨s.toArray⟩] w (TookEv w (takeEv s)) := by
  have hT : takeEv s = (.zero, 4) := by rw [hs']; exact if_pos hk
  have hP : ∀ w2, Fr w w2 → TookEv w (takeEv s) (.returned (.tuple #[.agg (Ev.zero.cells nil0 nil0), .int .i64 4])) w2 := fun w2 hf => by rw [hT]; exact ⟨nil0, nil0, rfl, RdM.nil _, RdR.nil _, hf⟩
  have HP := Lib.hid hP
  have HLEN := Lib.hid hs
  have h1 := fun p W h => fNum_c p 0 0 1 s W h (by omega) (by omega)
  have hfirst : rdRaw 0 s 0 1 = ([k], 0, 1) := by rw [hs']; exact rdRaw_first k s'
  rw [hfirst, ofBe_single] at h1
  have H1 := Lib.hid h1
  have hlt := k.toNat_lt
  have hlen : ((s.length : Int) == 0) = false := by rw [hs']; simp; omega
  generalize hK : k.toNat = K at *
  clear hP hT h1 hs hs' hfirst hK
  go_enter Tryd.func17, Tryd.ntmps17
  go_wp2_with fail
  refine (H1.out (w.heap.size + 1) _ (RfAt.start s w _ HLEN.out)).mono ?_
  rintro e w2 ⟨rfl, hr2, hch2⟩
  have hA2 : Fr (w.alloc (.cells (Ev.zero.cells nil0 nil0) 32)) w2 := Chp.fr ((Fr.refl _).alloc _) hch2 (by simp)
  have hZ2 := (BoxAt.new w (Ev.zero.cells nil0 nil0) 32).fr hA2
  have hp2 : w.heap.size + 1 < w2.heap.size := hr2.lt
  have hz2 := hZ2.lt
  clear hch2
  have hZ3 := hZ2.alloc (.cells (({ Ev.zero with kind := K } : Ev).cells nil0 nil0) 32)
  have hF3 : Fr w (w2.alloc (.cells (({ Ev.zero with kind := K } : Ev).cells nil0 nil0) 32)) := (((Fr.refl w).alloc _).trans hA2).alloc _
  have d0 : (w2.alloc (.cells (({ Ev.zero with kind := K } : Ev).cells nil0 nil0) 32)).cell? ⟨w2.heap.size, 0, none⟩ = some (.int .u8 K) := (BoxAt.new w2 _ _).at 0 rfl
  by_cases hk1 : K < 1
  · go_wp2_with (first | ((with_reducible refine wpList_here (.store 32 (.tmp 5) (.tmp 19)) rfl ?_); refine wpList_store_new 32 (.tmp 5) (.tmp 19) rfl _ _ _ rfl rfl rfl Tryd.infoEv rfl (Ev.oneCell { Ev.zero with kind := K } none none 0 0 0 0) rfl rfl ?_) | ((with_reducible refine wpList_here (.store 32 (.tmp 2) (.tmp 28)) rfl ?_); refine wpList_store_old 32 (.tmp 2) (.tmp 28) rfl w.heap.size _ _ rfl rfl hZ3 Tryd.infoEv rfl zero_oneCell rfl rfl ?_; rintro wz hR; have hBz := hR.box; have hFz := hR.fr hF3 (Nat.le_refl _)))
    exact bodyPost_ret (v := .tuple #[.agg (Ev.zero.cells nil0 nil0), .int .i64 4]) (results_ev2 rfl _ _ w.heap.size _ _ rfl rfl hBz rfl) rfl (HP.out _ hFz)
  · go_wp2_with (first | ((with_reducible refine wpList_here (.store 32 (.tmp 5) (.tmp 19)) rfl ?_); refine wpList_store_new 32 (.tmp 5) (.tmp 19) rfl _ _ _ rfl rfl rfl Tryd.infoEv rfl (Ev.oneCell { Ev.zero with kind := K } none none 0 0 0 0) rfl rfl ?_) | ((with_reducible refine wpList_here (.store 32 (.tmp 2) (.tmp 28)) rfl ?_); refine wpList_store_old 32 (.tmp 2) (.tmp 28) rfl w.heap.size _ _ rfl rfl hZ3 Tryd.infoEv rfl zero_oneCell rfl rfl ?_; rintro wz hR; have hBz := hR.box; have hFz := hR.fr hF3 (Nat.le_refl _)))
    exact bodyPost_ret (v := .tuple #[.agg (Ev.zero.cells nil0 nil0), .int .i64 4]) (results_ev2 rfl _ _ w.heap.size _ _ rfl rfl hBz rfl) rfl (HP.out _ hFz)
set_option maxRecDepth 100000 in
set_option maxHeartbeats 4000000 in
theorem rTakeE_main (k : Nat) (kk : UInt8) (s' s : List UInt8) (w : World) (hs' : s = kk :: s') (hkk : kk.toNat = k) (h1 : 2 ≤ k) (h7 : k ≤ 7) (hs : s.length < 1000000) :
    Calls Tryd.prog 17 #[.string ⟨s.toArray⟩] w (TookEv w (endEv s (rdEv k s))) := by
  unfold rdEv
  rw [if_neg (show ¬ k = 1 by omega)]
  simp only
  have la := ofBe1_lt 0 s 1
  have H2 := Lib.hid (fun p W h => fNum_c p 0 1 1 s W h (by omega) (by omega))
  generalize rdRaw 0 s 1 1 = a at la H2 ⊢
  obtain ⟨a0, ae, aa⟩ := a
  simp only at la H2 ⊢
  have lb := ofBe2_lt ae s aa
  have H3 := Lib.hid (fun p W h => fNum_c p ae aa 2 s W h (by omega) (by omega))
  generalize rdRaw ae s aa 2 = b at lb H3 ⊢
  obtain ⟨b0, be', ba⟩ := b
  simp only at lb H3 ⊢
  generalize ofBe a0 = C at la H2 ⊢
  generalize ofBe b0 = I at lb H3 ⊢
  have hok : (rdBody { Ev.zero with kind := k, client := C, id := I } be' s ba).1.Ok := rdBody_ok _ _ _ _ { zero_ok with kind := (by simp only; omega), client := la, id := lb }
  have hbad := fun he => rdBody_bad { Ev.zero with kind := k, client := C, id := I } be' s ba he (by simp only; omega)
  have h4 : ∀ W p, be' = 0 → RfAt W p be' s ba → Calls Tryd.prog 42 #[({ Ev.zero with kind := k, client := C, id := I } : Ev).val nil0 nil0, .pointer (some ⟨p, 0, none⟩)] W (BodyP p W (rdBody { Ev.zero with kind := k, client := C, id := I } be' s ba)) := fun W p he h => by
    subst he
    exact rBody_c p ba s { Ev.zero with kind := k, client := C, id := I } W h (by simpa using h1) (by simpa using h7) rfl rfl
  generalize rdBody { Ev.zero with kind := k, client := C, id := I } be' s ba = Y at hok hbad h4 ⊢
  obtain ⟨y, E⟩ := Y
  simp only at hok hbad
  have HBAD := Lib.hid hbad
  have H4 := Lib.hid h4
  clear hbad h4
  have HLEN := Lib.hid hs
  have h1' := fun p W h => fNum_c p 0 0 1 s W h (by omega) (by omega)
  have hfirst : rdRaw 0 s 0 1 = ([kk], 0, 1) := by rw [hs']; exact rdRaw_first kk s'
  rw [hfirst, ofBe_single, hkk] at h1'
  have H1 := Lib.hid h1'
  have hk1 : ((k : Int) == 1) = false := by simp; omega
  have hka : ((k : Int) < 1) = False := by simp; omega
  have hkb : ((k : Int) > 7) = False := by simp; omega
  have hkc : (7 < (k : Int)) = False := by simp; omega
  have hlen : ((s.length : Int) == 0) = false := by rw [hs']; simp; omega
  clear h1' hfirst hkk hs' hs
  go_enter Tryd.func17, Tryd.ntmps17
  go_wp2_with fail
  refine (H1.out (w.heap.size + 1) _ (RfAt.start s w _ HLEN.out)).mono ?_
  rintro e w2 ⟨rfl, hr2, hch2⟩
  have hA2 : Fr (w.alloc (.cells (Ev.zero.cells nil0 nil0) 32)) w2 := Chp.fr ((Fr.refl _).alloc _) hch2 (by simp)
  have hZ2 := (BoxAt.new w (Ev.zero.cells nil0 nil0) 32).fr hA2
  have hp2 : w.heap.size + 1 < w2.heap.size := hr2.lt
  have hz2 := hZ2.lt
  clear hch2
  have hpq : w2.heap.size ≠ w.heap.size + 1 := by omega
  go_wp2_with ((with_reducible refine wpList_here (.store 32 (.tmp 5) (.tmp 19)) rfl ?_); refine wpList_store_new 32 (.tmp 5) (.tmp 19) rfl _ _ _ rfl rfl rfl Tryd.infoEv rfl (Ev.oneCell { Ev.zero with kind := k } none none 0 0 0 0) rfl rfl ?_)
  have hB3 := BoxAt.new w2 (({ Ev.zero with kind := k } : Ev).cells nil0 nil0) 32
  have hr3 := hr2.keep ((Fr.refl w2).alloc (.cells (({ Ev.zero with kind := k } : Ev).cells nil0 nil0) 32))
  have hA3 := hA2.alloc (.cells (({ Ev.zero with kind := k } : Ev).cells nil0 nil0) 32)
  refine (H2.out _ _ hr3).mono ?_
  rintro e w6 ⟨rfl, hr6, hch6⟩
  have hB6 := hB3.chp hch6 hpq
  have hA6 := Chp.fr hA3 hch6 (by simp)
  have c1 := hB6.at 1 rfl
  have g1 := hB6.free 1
  have hz6 := hB6.lt
  clear hr2 hA2 hZ2 hz2 hB3 hr3 hA3 hch6
  go_wp2_with fail
  have hr6' := hr6.setBox hpq 1 (.int .u8 C)
  have hB6' : BoxAt _ w2.heap.size (({ Ev.zero with kind := k, client := C } : Ev).cells nil0 nil0) _ := hB6.setAt 1 (.int .u8 C)
  have hA6' := hA6.setCell (p := ⟨w2.heap.size, 1, none⟩) (by simp; omega) (.int .u8 C)
  refine (H3.out _ _ hr6').mono ?_
  rintro e w7 ⟨rfl, hr7, hch7⟩
  have hB7 := hB6'.chp hch7 hpq
  have hA7 := Chp.fr hA6' hch7 (by simp)
  have c2 := hB7.at 2 rfl
  have g2 := hB7.free 2
  have hz7 := hB7.lt
  clear hr6 hB6 hA6 c1 g1 hr6' hB6' hA6' hch7
  have hr7' := hr7.setBox hpq 2 (.int .u16 I)
  have hB7' : BoxAt _ w2.heap.size (({ Ev.zero with kind := k, client := C, id := I } : Ev).cells nil0 nil0) _ := hB7.setAt 2 (.int .u16 I)
  have hA7' := hA7.setCell (p := ⟨w2.heap.size, 2, none⟩) (by simp; omega) (.int .u16 I)
  have hZ7 := (BoxAt.new w (Ev.zero.cells nil0 nil0) 32).fr hA7'
  have hF7 : Fr w (w7.setCell ⟨w2.heap.size, 2, none⟩ (.int .u16 I)) := ((Fr.refl w).alloc _).trans hA7'
  have e2 := hr7'.c2
  have hz8 := hr7.lt
  by_cases hbe : be' = 0
  · subst hbe
    clear HBAD
    go_wp2_with ((with_reducible refine wpList_here (.load 32 (.tmp 5)) rfl ?_); refine wpList_load_box 32 (.tmp 5) rfl _ rfl _ hB7' _ Tryd.underlying32 rfl Tryd.infoEv rfl ?_)
    refine (H4.out _ _ (by trivial) hr7').mono ?_
    rintro e w8 ⟨t, r, rfl, hst8, hch8⟩
    obtain ⟨ht8, hr8⟩ := hst8 w8 (Nat.le_refl _) fun _ _ _ => rfl
    obtain ⟨ta, tn, tc, rfl⟩ := ht8.slice
    obtain ⟨ra, rn, rc, rfl⟩ := hr8.slice
    have hB8 := hB7'.chp hch8 hpq
    have hA8 := Chp.fr hA7' hch8 (by simp)
    have hS8 := Lib.hid hst8
    have hZ8 := (BoxAt.new w (Ev.zero.cells nil0 nil0) 32).fr hA8
    have hF8 : Fr w w8 := ((Fr.refl w).alloc _).trans hA8
    have hW8 := hch8.size
    have hz9 := hB8.lt
    have hW7 : w2.heap.size < (w7.setCell ⟨w2.heap.size, 2, none⟩ (.int .u16 I)).heap.size := hB7'.lt
    clear ht8 hr8 hst8 hr7 hB7 hA7 c2 g2 hr7' hB7' hA7' hZ7 hF7 e2 hz8 hch8 H1 H2 H3 H4
    unfold Ev.val
    by_cases hE0 : E = 0
    · subst hE0
      have hpc := fun W (h1 : RdM W (.slice ta tn tc) y.txn) (h2 : RdR W (.slice ra rn rc) y.reads) => rPutE_c y (y.val (.slice ta tn tc) (.slice ra rn rc)) W ⟨_, _, rfl, h1, h2⟩ hok
      generalize hPQ : y.put = PQ at hpc
      obtain ⟨P1, P2⟩ := PQ
      unfold Ev.val at hpc
      simp only at hpc
      have HPC := Lib.hid hpc
      have HPQ := Lib.hid hPQ
      clear hpc hPQ
      go_wp2_with (first | ((with_reducible refine wpList_here (.store 32 (.tmp 5) (.tmp 57)) rfl ?_); refine wpList_store_old 32 (.tmp 5) (.tmp 57) rfl w2.heap.size _ _ rfl rfl hB8 Tryd.infoEv rfl (Ev.oneCell y ta ra tn tc rn rc) rfl rfl ?_; rintro wy hRy; have hBy := hRy.box; have hZy := hRy.boxOther hZ8 (by omega); have hFy := hRy.fr hF8 (by omega); have hzy := hBy.lt) | ((with_reducible refine wpList_here (.load 32 (.tmp 5)) rfl ?_); refine wpList_load_box 32 (.tmp 5) rfl _ rfl _ hBy _ Tryd.underlying32 rfl Tryd.infoEv rfl ?_))
      obtain ⟨hty, hry⟩ := hS8.out wy (by rw [hRy.size]; exact Nat.le_refl _) fun k hk h2 => hRy.other k (by omega)
      refine (HPC.out _ hty hry).mono ?_
      rintro e w9 ⟨rfl, hb9⟩
      have hB9 := hBy.fr hb9
      have hZ9 := hZy.fr hb9
      have hF9 : Fr w w9 := hFy.trans hb9
      have hs9 : ∀ w2', Relaid w.heap.size (y.cells (.slice ta tn tc) (.slice ra rn rc)) 32 w9 w2' → RdM w2' (.slice ta tn tc) y.txn ∧ RdR w2' (.slice ra rn rc) y.reads := fun w2' hR =>
        hS8.out w2' (by rw [hR.size]; exact Nat.le_trans (Nat.le_of_eq hRy.size.symm) hb9.size) fun k h1 h2 => (hR.other k (by omega)).trans ((hb9.block (by rw [hRy.size]; exact h2)).trans (hRy.other k (by omega)))
      have HS9 := Lib.hid hs9
      have hz10 := hB9.lt
      have hz11 := hZ9.lt
      clear hB8 hA8 hZ8 hF8 hRy hBy hZy hFy hty hry hb9 hs9 HPC hzy hS8
      by_cases hp2' : P2 = 0
      · subst hp2'
        by_cases hps : P1 = s
        · subst hps
          have hT : endEv P1 (y, 0) = (y, 0) := by unfold endEv; rw [if_neg (by simp), if_pos HPQ.out]
          have hP : ∀ w2, Relaid w.heap.size (y.cells (.slice ta tn tc) (.slice ra rn rc)) 32 w9 w2 → Fr w w2 → TookEv w (endEv P1 (y, 0)) (.returned (.tuple #[.agg (y.cells (.slice ta tn tc) (.slice ra rn rc)), .int .i64 0])) w2 := fun w2 hR hf2 => by
            rw [hT]
            obtain ⟨h1, h2⟩ := HS9.out w2 hR
            exact ⟨_, _, rfl, h1, h2, hf2⟩
          have HP := Lib.hid hP
          clear hP hT
          go_wp2_with (first | ((with_reducible refine wpList_here (.load 32 (.tmp 5)) rfl ?_); refine wpList_load_box 32 (.tmp 5) rfl _ rfl _ hB9 _ Tryd.underlying32 rfl Tryd.infoEv rfl ?_) | ((with_reducible refine wpList_here (.store 32 (.tmp 2) (.tmp 76)) rfl ?_); refine wpList_store_old 32 (.tmp 2) (.tmp 76) rfl w.heap.size _ _ rfl rfl hZ9 Tryd.infoEv rfl (Ev.oneCell y ta ra tn tc rn rc) rfl rfl ?_; rintro wz hR; have hBz := hR.box; have hFz := hR.fr hF9 (Nat.le_refl _)))
          exact bodyPost_ret (v := .tuple #[.agg (y.cells (.slice ta tn tc) (.slice ra rn rc)), .int .i64 0]) (results_ev2 rfl _ _ w.heap.size _ _ rfl rfl hBz rfl) rfl (HP.out _ hR hFz)
        · have hT : endEv s (y, 0) = (.zero, 4) := by unfold endEv; rw [if_neg (by simp), if_neg (by rw [HPQ.out]; intro e; exact hps (congrArg Prod.fst e))]
          have hP : ∀ w2, Fr w w2 → TookEv w (endEv s (y, 0)) (.returned (.tuple #[.agg (Ev.zero.cells nil0 nil0), .int .i64 4])) w2 := fun w2 hf => by rw [hT]; exact ⟨nil0, nil0, rfl, RdM.nil _, RdR.nil _, hf⟩
          have HP := Lib.hid hP
          have hpb : (P1 == s) = false := by simp [hps]
          clear hP hT hps
          go_wp2_with ((with_reducible refine wpList_here (.store 32 (.tmp 2) (.tmp 75)) rfl ?_); refine wpList_store_old 32 (.tmp 2) (.tmp 75) rfl w.heap.size _ _ rfl rfl hZ9 Tryd.infoEv rfl zero_oneCell rfl rfl ?_; rintro wz hR; have hBz := hR.box; have hFz := hR.fr hF9 (Nat.le_refl _))
          exact bodyPost_ret (v := .tuple #[.agg (Ev.zero.cells nil0 nil0), .int .i64 4]) (results_ev2 rfl _ _ w.heap.size _ _ rfl rfl hBz rfl) rfl (HP.out _ hFz)
      · have he2 : ((P2 : Int) != 0) = true := by simp; omega
        have hT : endEv s (y, 0) = (.zero, 4) := by unfold endEv; rw [if_neg (by simp), if_neg (by rw [HPQ.out]; intro e; exact hp2' (congrArg Prod.snd e))]
        have hP : ∀ w2, Fr w w2 → TookEv w (endEv s (y, 0)) (.returned (.tuple #[.agg (Ev.zero.cells nil0 nil0), .int .i64 4])) w2 := fun w2 hf => by rw [hT]; exact ⟨nil0, nil0, rfl, RdM.nil _, RdR.nil _, hf⟩
        have HP := Lib.hid hP
        clear hP hT hp2'
        go_wp2_with ((with_reducible refine wpList_here (.store 32 (.tmp 2) (.tmp 75)) rfl ?_); refine wpList_store_old 32 (.tmp 2) (.tmp 75) rfl w.heap.size _ _ rfl rfl hZ9 Tryd.infoEv rfl zero_oneCell rfl rfl ?_; rintro wz hR; have hBz := hR.box; have hFz := hR.fr hF9 (Nat.le_refl _))
        exact bodyPost_ret (v := .tuple #[.agg (Ev.zero.cells nil0 nil0), .int .i64 4]) (results_ev2 rfl _ _ w.heap.size _ _ rfl rfl hBz rfl) rfl (HP.out _ hFz)
    · have he2 : ((E : Int) != 0) = true := by simp; omega
      have hT : endEv s (y, E) = (.zero, E) := by unfold endEv; rw [if_pos hE0]
      have hP : ∀ w2, Fr w w2 → TookEv w (endEv s (y, E)) (.returned (.tuple #[.agg (Ev.zero.cells nil0 nil0), .int .i64 E])) w2 := fun w2 hf => by rw [hT]; exact ⟨nil0, nil0, rfl, RdM.nil _, RdR.nil _, hf⟩
      have HP := Lib.hid hP
      clear hP hT hE0 hok hS8
      go_wp2_with (first | ((with_reducible refine wpList_here (.store 32 (.tmp 5) (.tmp 57)) rfl ?_); refine wpList_store_old 32 (.tmp 5) (.tmp 57) rfl w2.heap.size _ _ rfl rfl hB8 Tryd.infoEv rfl (Ev.oneCell y ta ra tn tc rn rc) rfl rfl ?_; rintro wy hRy; have hBy := hRy.box; have hZy := hRy.boxOther hZ8 (by omega); have hFy := hRy.fr hF8 (by omega); have hzy := hBy.lt) | ((with_reducible refine wpList_here (.store 32 (.tmp 2) (.tmp 61)) rfl ?_); refine wpList_store_old 32 (.tmp 2) (.tmp 61) rfl w.heap.size _ _ rfl rfl hZy Tryd.infoEv rfl zero_oneCell rfl rfl ?_; rintro wz hR; have hBz := hR.box; have hFz := hR.fr hFy (Nat.le_refl _)))
      exact bodyPost_ret (v := .tuple #[.agg (Ev.zero.cells nil0 nil0), .int .i64 E]) (results_ev2 rfl _ _ w.heap.size _ _ rfl rfl hBz rfl) rfl (HP.out _ hFz)
  · have hEb := HBAD.out hbe
    subst hEb
    have hbe0 : ((E : Int) == 0) = false := by simp; omega
    have hbe1 : ((E : Int) != 0) = true := by simp; omega
    have hT : endEv s (y, E) = (.zero, E) := by unfold endEv; rw [if_pos hbe]
    have hP : ∀ w2, Fr w w2 → TookEv w (endEv s (y, E)) (.returned (.tuple #[.agg (Ev.zero.cells nil0 nil0), .int .i64 E])) w2 := fun w2 hf => by rw [hT]; exact ⟨nil0, nil0, rfl, RdM.nil _, RdR.nil _, hf⟩
    have HP := Lib.hid hP
    clear hP hT hok hbe HBAD H4 H1 H2 H3 hr7 hB7 hA7 hr7' hB7' hA7'
    go_wp2_with ((with_reducible refine wpList_here (.store 32 (.tmp 2) (.tmp 61)) rfl ?_); refine wpList_store_old 32 (.tmp 2) (.tmp 61) rfl w.heap.size _ _ rfl rfl hZ7 Tryd.infoEv rfl zero_oneCell rfl rfl ?_; rintro wz hR; have hBz := hR.box; have hFz := hR.fr hF7 (Nat.le_refl _))
    exact bodyPost_ret (v := .tuple #[.agg (Ev.zero.cells nil0 nil0), .int .i64 E]) (results_ev2 rfl _ _ w.heap.size _ _ rfl rfl hBz rfl) rfl (HP.out _ hFz)
end Go.Proofs.YtgbaanioppblhaaDoor

/- umpireref05.Take of a config. No condition but the bytes' length. -/
namespace Go.Proofs.YtgbaanioppblhaaDoor
open Go.RowKit

theorem BoxAt.eq {w : World} {b : Nat} {c c' : Array Value} {t : TypeId} (h : BoxAt w b c t) (e : c = c') : BoxAt w b c' t := e ▸ h
set_option maxRecDepth 100000 in
set_option maxHeartbeats 4000000 in
theorem rTakeE_cfg (kk : UInt8) (s' s : List UInt8) (w : World) (hs' : s = kk :: s') (hkk : kk.toNat = 1) (hs : s.length < 1000000) :
    Calls Tryd.prog 17 #[.string ⟨s.toArray⟩] w (TookEv w (endEv s (rdEv 1 s))) := by
  rw [show rdEv 1 s = ({ Ev.zero with kind := 1, cfg := (rdCfg 0 s 1).1 }, (rdCfg 0 s 1).2.1) from rfl]
  have hok : ({ Ev.zero with kind := 1, cfg := (rdCfg 0 s 1).1 } : Ev).Ok := rdBody_ok { Ev.zero with kind := 1 } 0 s 1 { zero_ok with kind := (by simp only; omega) }
  have h2 := fun p W h => rConfig_c p 0 1 s W h
  generalize rdCfg 0 s 1 = Y at hok h2 ⊢
  obtain ⟨⟨M, O, S, T, b1, b2, b3⟩, E, a⟩ := Y
  unfold Cfg.row at h2
  simp only at hok h2 ⊢
  have H2 := Lib.hid h2
  generalize hy : ({ Ev.zero with kind := 1, cfg := ⟨M, O, S, T, b1, b2, b3⟩ } : Ev) = y at hok ⊢
  have hY : ∀ W, RdM W nil0 y.txn ∧ RdR W nil0 y.reads := fun W => by rw [← hy]; exact ⟨RdM.nil _, RdR.nil _⟩
  have HY := Lib.hid hY
  have Hy := Lib.hid hy
  clear hY hy
  have HLEN := Lib.hid hs
  have h1' := fun p W h => fNum_c p 0 0 1 s W h (by omega) (by omega)
  have hfirst : rdRaw 0 s 0 1 = ([kk], 0, 1) := by rw [hs']; exact rdRaw_first kk s'
  rw [hfirst, ofBe_single, hkk] at h1'
  have H1 := Lib.hid h1'
  have hlen : ((s.length : Int) == 0) = false := by rw [hs']; simp; omega
  clear h1' hfirst hkk hs' hs h2
  go_enter Tryd.func17, Tryd.ntmps17
  go_wp2_with fail
  refine (H1.out (w.heap.size + 1) _ (RfAt.start s w _ HLEN.out)).mono ?_
  rintro e w2 ⟨rfl, hr2, hch2⟩
  have hA2 : Fr (w.alloc (.cells (Ev.zero.cells nil0 nil0) 32)) w2 := Chp.fr ((Fr.refl _).alloc _) hch2 (by simp)
  have hZ2 := (BoxAt.new w (Ev.zero.cells nil0 nil0) 32).fr hA2
  have hp2 : w.heap.size + 1 < w2.heap.size := hr2.lt
  have hz2 := hZ2.lt
  clear hch2
  have hpq : w2.heap.size ≠ w.heap.size + 1 := by omega
  go_wp2_with ((with_reducible refine wpList_here (.store 32 (.tmp 5) (.tmp 19)) rfl ?_); refine wpList_store_new 32 (.tmp 5) (.tmp 19) rfl _ _ _ rfl rfl rfl Tryd.infoEv rfl (Ev.oneCell { Ev.zero with kind := 1 } none none 0 0 0 0) rfl rfl ?_)
  have hB3 := BoxAt.new w2 (({ Ev.zero with kind := 1 } : Ev).cells nil0 nil0) 32
  have hr3 := hr2.keep ((Fr.refl w2).alloc (.cells (({ Ev.zero with kind := 1 } : Ev).cells nil0 nil0) 32))
  have hA3 := hA2.alloc (.cells (({ Ev.zero with kind := 1 } : Ev).cells nil0 nil0) 32)
  refine (H2.out _ _ hr3).mono ?_
  rintro e w6 ⟨rfl, hr6, hch6⟩
  have hB6 := hB3.chp hch6 hpq
  have hA6 := Chp.fr hA3 hch6 (by simp)
  have c12 := hB6.at 12 rfl
  have g12 := hB6.free 12
  have c13 := hB6.at 13 rfl
  have g13 := hB6.free 13
  have c14 := hB6.at 14 rfl
  have g14 := hB6.free 14
  have c15 := hB6.at 15 rfl
  have g15 := hB6.free 15
  have c16 := hB6.at 16 rfl
  have g16 := hB6.free 16
  have c17 := hB6.at 17 rfl
  have g17 := hB6.free 17
  have c18 := hB6.at 18 rfl
  have g18 := hB6.free 18
  have hz6 := hB6.lt
  have hz7 := hr6.lt
  have bb0 : BoxAt _ w2.heap.size (({ Ev.zero with kind := 1, cfg := { Cfg.zero with model := M } } : Ev).cells nil0 nil0) _ := hB6.setAt 12 (.int .u8 M)
  have bb1 : BoxAt _ w2.heap.size (({ Ev.zero with kind := 1, cfg := { Cfg.zero with model := M, opens := O } } : Ev).cells nil0 nil0) _ := bb0.setAt 13 (.int .i64 O)
  have bb2 : BoxAt _ w2.heap.size (({ Ev.zero with kind := 1, cfg := { Cfg.zero with model := M, opens := O, states := S } } : Ev).cells nil0 nil0) _ := bb1.setAt 14 (.int .i64 S)
  have bb3 : BoxAt _ w2.heap.size (({ Ev.zero with kind := 1, cfg := { Cfg.zero with model := M, opens := O, states := S, steps := T } } : Ev).cells nil0 nil0) _ := bb2.setAt 15 (.int .i64 T)
  have bb4 : BoxAt _ w2.heap.size (({ Ev.zero with kind := 1, cfg := { Cfg.zero with model := M, opens := O, states := S, steps := T, part := b1 } } : Ev).cells nil0 nil0) _ := bb3.setAt 16 (.bool b1)
  have bb5 : BoxAt _ w2.heap.size (({ Ev.zero with kind := 1, cfg := { Cfg.zero with model := M, opens := O, states := S, steps := T, part := b1, cut := b2 } } : Ev).cells nil0 nil0) _ := bb4.setAt 17 (.bool b2)
  have bb6 : BoxAt _ w2.heap.size (({ Ev.zero with kind := 1, cfg := { Cfg.zero with model := M, opens := O, states := S, steps := T, part := b1, cut := b2, memo := b3 } } : Ev).cells nil0 nil0) _ := bb5.setAt 18 (.bool b3)
  have hrB := (((((((hr6.setBox hpq 12 (.int .u8 M)).setBox hpq 13 (.int .i64 O)).setBox hpq 14 (.int .i64 S)).setBox hpq 15 (.int .i64 T)).setBox hpq 16 (.bool b1)).setBox hpq 17 (.bool b2)).setBox hpq 18 (.bool b3))
  have hAB := (((((((hA6.setCell (p := ⟨w2.heap.size, 12, none⟩) (by simp; omega) (.int .u8 M)).setCell (p := ⟨w2.heap.size, 13, none⟩) (by simp; omega) (.int .i64 O)).setCell (p := ⟨w2.heap.size, 14, none⟩) (by simp; omega) (.int .i64 S)).setCell (p := ⟨w2.heap.size, 15, none⟩) (by simp; omega) (.int .i64 T)).setCell (p := ⟨w2.heap.size, 16, none⟩) (by simp; omega) (.bool b1)).setCell (p := ⟨w2.heap.size, 17, none⟩) (by simp; omega) (.bool b2)).setCell (p := ⟨w2.heap.size, 18, none⟩) (by simp; omega) (.bool b3))
  have e2 := hrB.c2
  have hB8 := bb6.eq (c' := y.cells nil0 nil0) (by rw [← Hy.out])
  have hZ8 := (BoxAt.new w (Ev.zero.cells nil0 nil0) 32).fr hAB
  have hF8 := ((Fr.refl w).alloc (.cells (Ev.zero.cells nil0 nil0) 32)).trans hAB
  clear hr2 hA2 hZ2 hz2 hB3 hr3 hA3 hch6 bb0 bb1 bb2 bb3 bb4 bb5 bb6 hrB hAB hB6 hA6 H1 H2 hr6
  have hpc := fun W => rPutE_c y (y.val nil0 nil0) W ⟨nil0, nil0, rfl, (HY.out W).1, (HY.out W).2⟩ hok
  by_cases hE0 : E = 0
  · subst hE0
    generalize hPQ : y.put = PQ at hpc
    obtain ⟨P1, P2⟩ := PQ
    unfold Ev.val at hpc
    simp only at hpc
    have HPC := Lib.hid hpc
    have HPQ := Lib.hid hPQ
    clear hpc hPQ
    clear hok
    go_wp2_with ((with_reducible refine wpList_here (.load 32 (.tmp 5)) rfl ?_); refine wpList_load_box 32 (.tmp 5) rfl _ rfl _ hB8 _ Tryd.underlying32 rfl Tryd.infoEv rfl ?_)
    refine (HPC.out _).mono ?_
    rintro e w9 ⟨rfl, hb9⟩
    have hB9 := hB8.fr hb9
    have hZ9 := hZ8.fr hb9
    have hF9 : Fr w w9 := hF8.trans hb9
    have HS9 := Lib.hid (fun w2 (_ : Relaid w.heap.size (y.cells nil0 nil0) 32 w9 w2) => HY.out w2)
    have hz10 := hB9.lt
    have hz11 := hZ9.lt
    clear hB8 hZ8 hF8 hb9 HPC e2
    by_cases hp2' : P2 = 0
    · subst hp2'
      by_cases hps : P1 = s
      · subst hps
        have hT : endEv P1 (y, 0) = (y, 0) := by unfold endEv; rw [if_neg (by simp), if_pos HPQ.out]
        have hP : ∀ w2, Relaid w.heap.size (y.cells nil0 nil0) 32 w9 w2 → Fr w w2 → TookEv w (endEv P1 (y, 0)) (.returned (.tuple #[.agg (y.cells nil0 nil0), .int .i64 0])) w2 := fun w2 hR hf2 => by
          rw [hT]
          obtain ⟨h1, h2⟩ := HS9.out w2 hR
          exact ⟨_, _, rfl, h1, h2, hf2⟩
        have HP := Lib.hid hP
        clear hP hT
        go_wp2_with (first | ((with_reducible refine wpList_here (.load 32 (.tmp 5)) rfl ?_); refine wpList_load_box 32 (.tmp 5) rfl _ rfl _ hB9 _ Tryd.underlying32 rfl Tryd.infoEv rfl ?_) | ((with_reducible refine wpList_here (.store 32 (.tmp 2) (.tmp 76)) rfl ?_); refine wpList_store_old 32 (.tmp 2) (.tmp 76) rfl w.heap.size _ _ rfl rfl hZ9 Tryd.infoEv rfl (Ev.oneCell y none none 0 0 0 0) rfl rfl ?_; rintro wz hR; have hBz := hR.box; have hFz := hR.fr hF9 (Nat.le_refl _)))
        exact bodyPost_ret (v := .tuple #[.agg (y.cells nil0 nil0), .int .i64 0]) (results_ev2 rfl _ _ w.heap.size _ _ rfl rfl hBz rfl) rfl (HP.out _ hR hFz)
      · have hT : endEv s (y, 0) = (.zero, 4) := by unfold endEv; rw [if_neg (by simp), if_neg (by rw [HPQ.out]; intro e; exact hps (congrArg Prod.fst e))]
        have hP : ∀ w2, Fr w w2 → TookEv w (endEv s (y, 0)) (.returned (.tuple #[.agg (Ev.zero.cells nil0 nil0), .int .i64 4])) w2 := fun w2 hf => by rw [hT]; exact ⟨nil0, nil0, rfl, RdM.nil _, RdR.nil _, hf⟩
        have HP := Lib.hid hP
        have hpb : (P1 == s) = false := by simp [hps]
        clear hP hT hps
        go_wp2_with ((with_reducible refine wpList_here (.store 32 (.tmp 2) (.tmp 75)) rfl ?_); refine wpList_store_old 32 (.tmp 2) (.tmp 75) rfl w.heap.size _ _ rfl rfl hZ9 Tryd.infoEv rfl zero_oneCell rfl rfl ?_; rintro wz hR; have hBz := hR.box; have hFz := hR.fr hF9 (Nat.le_refl _))
        exact bodyPost_ret (v := .tuple #[.agg (Ev.zero.cells nil0 nil0), .int .i64 4]) (results_ev2 rfl _ _ w.heap.size _ _ rfl rfl hBz rfl) rfl (HP.out _ hFz)
    · have he2 : ((P2 : Int) != 0) = true := by simp; omega
      have hT : endEv s (y, 0) = (.zero, 4) := by unfold endEv; rw [if_neg (by simp), if_neg (by rw [HPQ.out]; intro e; exact hp2' (congrArg Prod.snd e))]
      have hP : ∀ w2, Fr w w2 → TookEv w (endEv s (y, 0)) (.returned (.tuple #[.agg (Ev.zero.cells nil0 nil0), .int .i64 4])) w2 := fun w2 hf => by rw [hT]; exact ⟨nil0, nil0, rfl, RdM.nil _, RdR.nil _, hf⟩
      have HP := Lib.hid hP
      clear hP hT hp2'
      go_wp2_with ((with_reducible refine wpList_here (.store 32 (.tmp 2) (.tmp 75)) rfl ?_); refine wpList_store_old 32 (.tmp 2) (.tmp 75) rfl w.heap.size _ _ rfl rfl hZ9 Tryd.infoEv rfl zero_oneCell rfl rfl ?_; rintro wz hR; have hBz := hR.box; have hFz := hR.fr hF9 (Nat.le_refl _))
      exact bodyPost_ret (v := .tuple #[.agg (Ev.zero.cells nil0 nil0), .int .i64 4]) (results_ev2 rfl _ _ w.heap.size _ _ rfl rfl hBz rfl) rfl (HP.out _ hFz)
  · have he2 : ((E : Int) != 0) = true := by simp; omega
    have hT : endEv s (y, E) = (.zero, E) := by unfold endEv; rw [if_pos hE0]
    have hP : ∀ w2, Fr w w2 → TookEv w (endEv s (y, E)) (.returned (.tuple #[.agg (Ev.zero.cells nil0 nil0), .int .i64 E])) w2 := fun w2 hf => by rw [hT]; exact ⟨nil0, nil0, rfl, RdM.nil _, RdR.nil _, hf⟩
    have HP := Lib.hid hP
    clear hP hT hE0 hok hpc
    go_wp2_with ((with_reducible refine wpList_here (.store 32 (.tmp 2) (.tmp 61)) rfl ?_); refine wpList_store_old 32 (.tmp 2) (.tmp 61) rfl w.heap.size _ _ rfl rfl hZ8 Tryd.infoEv rfl zero_oneCell rfl rfl ?_; rintro wz hR; have hBz := hR.box; have hFz := hR.fr hF8 (Nat.le_refl _))
    exact bodyPost_ret (v := .tuple #[.agg (Ev.zero.cells nil0 nil0), .int .i64 E]) (results_ev2 rfl _ _ w.heap.size _ _ rfl rfl hBz rfl) rfl (HP.out _ hFz)
theorem rTakeE_c (s : List UInt8) (w : World) (hs : s.length < 1000000) : Calls Tryd.prog 17 #[.string ⟨s.toArray⟩] w (TookEv w (takeEv s)) := by
  cases s with
  | nil => exact rTakeE_nil w
  | cons kk s =>
    by_cases hb : kk.toNat < 1 ∨ 7 < kk.toNat
    · exact rTakeE_kind kk s _ w rfl hb hs
    · rw [show takeEv (kk :: s) = endEv (kk :: s) (rdEv kk.toNat (kk :: s)) from if_neg hb]
      by_cases h1 : kk.toNat = 1
      · rw [h1]
        exact rTakeE_cfg kk s _ w rfl h1 hs
      · exact rTakeE_main kk.toNat kk s _ w rfl rfl (by omega) (by omega) hs
end Go.Proofs.YtgbaanioppblhaaDoor

/- umpirelaw05.none, fails. No condition but the tables' content. -/
namespace Go.Proofs.YtgbaanioppblhaaDoor
open Go.RowKit

set_option maxRecDepth 100000 in
set_option maxHeartbeats 1000000 in
theorem lNone_c (x : Ev) (v : Value) (w : World) (hE : Env w) (hx : EvAt w v x) (ok : x.Ok) (h0 : x.put.2 ≠ 0 → x.put.1 = [] ∧ x.put.2 = 4 ∧ x.check = 4) :
    Calls Tryd.prog 21 #[v] w fun e w' => e = .returned (.bool (decide (x.put.2 ≠ 0))) ∧ Fr w w' := by
  obtain ⟨⟨t, r, rfl, ht, hr⟩⟩ := hx
  obtain ⟨ta, tn, tc, rfl⟩ := ht.slice
  obtain ⟨ra, rn, rc, rfl⟩ := hr.slice
  have hpc := fun W (f : Fr w W) => Put_c x (x.val (.slice ta tn tc) (.slice ra rn rc)) W (hE.keep f) ⟨_, _, rfl, ht.keep f, hr.keep f⟩ ok
  have hcc := fun W (f : Fr w W) => Check_c x (x.val (.slice ta tn tc) (.slice ra rn rc)) W (hE.keep f) ⟨_, _, rfl, ht.keep f, hr.keep f⟩ ok
  unfold Ev.val at hpc hcc ⊢
  generalize x.put = PQ at h0 hpc ⊢
  obtain ⟨P1, P2⟩ := PQ
  generalize x.check = K at h0 hcc
  simp only at h0 hpc ⊢
  have HP := Lib.hid hpc
  have HC := Lib.hid hcc
  have hB := BoxAt.new w (x.cells (.slice ta tn tc) (.slice ra rn rc)) 32
  have hf0 : Fr w (w.alloc (.cells (x.cells (.slice ta tn tc) (.slice ra rn rc)) 32)) := (Fr.refl w).alloc _
  clear hpc hcc ht hr hE ok
  by_cases hP : P2 = 0
  · subst hP
    rw [show decide ((0 : Nat) ≠ 0) = false from rfl]
    clear h0
    go_enter Tryd.func21, Tryd.ntmps21
    go_wp2_with ((with_reducible refine wpList_here (.load 32 (.tmp 1)) rfl ?_); refine wpList_load_box 32 (.tmp 1) rfl _ rfl _ hB _ Tryd.underlying32 rfl Tryd.infoEv rfl ?_)
    refine (HP.out _ hf0).mono ?_
    rintro e w1 ⟨rfl, hb1⟩
    have hf1 := hf0.trans hb1
    by_cases hn : P1 = []
    · subst hn
      go_wp2_with fail
      go_ret
      exact ⟨rfl, hf1⟩
    · have hnb : (P1 == []) = false := by simp [hn]
      go_wp2_with fail
      go_ret
      exact ⟨rfl, hf1⟩
  · obtain ⟨rfl, rfl, rfl⟩ := h0 hP
    rw [show decide ((4 : Nat) ≠ 0) = true from rfl]
    clear hP h0
    go_enter Tryd.func21, Tryd.ntmps21
    go_wp2_with ((with_reducible refine wpList_here (.load 32 (.tmp 1)) rfl ?_); refine wpList_load_box 32 (.tmp 1) rfl _ rfl _ hB _ Tryd.underlying32 rfl Tryd.infoEv rfl ?_)
    refine (HP.out _ hf0).mono ?_
    rintro e w1 ⟨rfl, hb1⟩
    have hf1 := hf0.trans hb1
    have hB1 := hB.fr hb1
    have hz := hB1.lt
    go_wp2_with ((with_reducible refine wpList_here (.load 32 (.tmp 1)) rfl ?_); refine wpList_load_box 32 (.tmp 1) rfl _ rfl _ hB1 _ Tryd.underlying32 rfl Tryd.infoEv rfl ?_)
    refine (HC.out _ hf1).mono ?_
    rintro e w2 ⟨rfl, hb2⟩
    have hf2 := hf1.trans hb2
    go_wp2_with fail
    go_ret
    exact ⟨rfl, hf2⟩
end Go.Proofs.YtgbaanioppblhaaDoor
