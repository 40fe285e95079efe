/- event.Take, whole. No condition but the bytes' length and the tables' content. -/
import Derived.Test.YtdjjjnoecfbjeaaDoorPEvTakeE
import Derived.Test.YtdjjjnoecfbjeaaDoorPEvOk
set_option linter.all false
set_option linter.unusedVariables false
set_option linter.unusedSimpArgs false
set_option linter.unnecessarySimpa false
/- event.Take, whole. No condition but the bytes' length and the tables' content. -/
namespace Go.Proofs.YtdjjjnoecfbjeaaDoor
open Go.RowKit

theorem Fr.kindsLt {w W : World} (h : Env w) (f : Fr w W) {p : Nat} (hp : w.heap.size ≤ p) : 0 < p := by
  have := lt_of_cell (h.kinds.model 1 (by omega) (by omega)); simp at this; omega
/-- What a kind's take does. -/
def TakesK (q3 : Nat) (k : Nat) (s : List UInt8) : Prop := ∀ (W : World) (p q e at_ : Nat) (x : Ev), x.kind = k → x.txn = [] → x.reads = [] → x.op = .zero → Env W → 0 < p → 0 < q → q ≠ p → RdAt W p e s at_ → BoxAt W q (x.cells nil0 nil0) 32 →
  Calls Tryd.prog q3 #[.pointer (some ⟨p, 0, none⟩), .pointer (some ⟨q, 0, none⟩)] W (TakeP p q W (rdBody x e s at_))
/-- What is done with what was taken. -/
def endEv (s : List UInt8) (y : Ev × Nat) : Ev × Nat := if y.2 ≠ 0 then (.zero, y.2) else if y.1.put = (s, 0) then (y.1, 0) else (.zero, 4)
set_option maxRecDepth 100000 in
set_option maxHeartbeats 4000000 in
theorem evTake_main (k q0 q1 q2 q3 : Nat) (kk : UInt8) (s' s : List UInt8) (w : World) (hs' : s = kk :: s') (hE : Env w) (hkk : kk.toNat = k) (h1 : 1 ≤ k) (h7 : k ≤ 7) (hne : k ≠ 1) (hs : s.length < 1000000)
    (hq : evKind k = #[.func (.func q0) #[] #[], .func (.func q1) #[] #[], .func (.func q2) #[] #[], .func (.func q3) #[] #[]]) (hf : IsFn q3) (htk : TakesK q3 k s) :
    Calls Tryd.prog 29 #[.string ⟨s.toArray⟩] w (TookEv w (endEv s (rdEv k s))) := by
  unfold rdEv
  rw [if_neg hne]
  simp only
  have la := ofBe1_lt 0 s 1
  have H2 := Lib.hid (fun p W h => rU8_c p 0 1 s W h)
  generalize rdRaw 0 s 1 1 = a at la H2 ⊢
  obtain ⟨a0, ae, aa⟩ := a
  simp only at la H2 ⊢
  have lb := ofBe2_lt ae s aa
  have H3 := Lib.hid (fun p W h => rU16_c p ae aa s W h)
  generalize rdRaw ae s aa 2 = b at lb H3 ⊢
  obtain ⟨b0, be', ba⟩ := b
  simp only at lb H3 ⊢
  generalize ofBe a0 = C at la H2 ⊢
  generalize ofBe b0 = I at lb H3 ⊢
  have hok : (rdBody { Ev.zero with kind := k, client := C, id := I } be' s ba).1.Ok := rdBody_ok _ _ _ _ { zero_ok with kind := (by simp only; omega), client := la, id := lb }
  have H4 := Lib.hid (fun W p q h1 h2 h3 h4 h5 h6 => htk W p q be' ba { Ev.zero with kind := k, client := C, id := I } rfl rfl rfl rfl h1 h2 h3 h4 h5 h6)
  generalize rdBody { Ev.zero with kind := k, client := C, id := I } be' s ba = Y at hok H4 ⊢
  have HOV := Lib.hid (fun W => Over_c s W (by omega))
  have h1' := fun p W h => rU8_c p 0 0 s W h
  have hfirst : rdRaw 0 s 0 1 = ([kk], 0, 1) := by rw [hs']; exact rdRaw_first kk s'
  rw [hfirst, ofBe_single, hkk] at h1'
  have H1 := Lib.hid h1'
  have hof := fun W => of_yes k W h1 h7
  rw [hq] at hof
  have HO := Lib.hid hof
  have hk1 : ((k : Int) != 1) = true := by simp; omega
  have hstr : s.isEmpty = false := by rw [hs']; rfl
  unfold IsFn at hf
  have HKL := Lib.hid (fun (W : World) (f : Fr w W) (p : Nat) (hp : w.heap.size ≤ p) => Fr.kindsLt hE f hp)
  have HEK := Lib.hid (fun (W : World) (f : Fr w W) => hE.keep f)
  have HX := Lib.hid hs'
  clear h1' hfirst hof hq hne hkk htk hE hs'
  go_enter Tryd.func29, Tryd.ntmps29
  go_wp2_with fail
  refine (HOV.out _).mono ?_
  rintro e w1 ⟨p, rfl, hr1, hf1, hp⟩
  go_wp2_with fail
  refine (H1.out p _ hr1).mono ?_
  rintro e w2 ⟨rfl, hr2, hch2⟩
  have hA2 : Fr (w.alloc (.cells (Ev.zero.cells nil0 nil0) 32)) w2 := Chp.fr hf1 hch2 hp
  have hp' : w.heap.size < p := by simp at hp; omega
  have hpq : w2.heap.size ≠ p := by have := hr2.lt; omega
  have hp2 : p < w2.heap.size := hr2.lt
  have hwq : w.heap.size < w2.heap.size := by omega
  clear hr1 hf1 hch2
  go_wp2_with ((with_reducible refine wpList_here (.store 32 (.tmp 5) (.tmp 18)) rfl ?_); refine wpList_store_new 32 (.tmp 5) (.tmp 18) rfl _ _ _ rfl rfl rfl Tryd.infoEv rfl (Ev.oneCell { Ev.zero with kind := k } none none 0 0 0 0) rfl rfl ?_)
  have hB3 := BoxAt.new w2 (({ Ev.zero with kind := k } : Ev).cells nil0 nil0) 32
  have hr3 := hr2.keep ((Fr.refl w2).alloc (.cells (({ Ev.zero with kind := k } : Ev).cells nil0 nil0) 32))
  have hA3 := hA2.alloc (.cells (({ Ev.zero with kind := k } : Ev).cells nil0 nil0) 32)
  refine (HO.out _).mono ?_
  rintro e w4 ⟨rfl, hb4⟩
  have hB4 := hB3.fr hb4
  have hr4 := hr3.keep hb4
  have hA4 := hA3.trans hb4
  have hz4 := hB4.lt
  clear hr2 hA2 hB3 hr3 hA3 hb4
  have d0 : (w4.alloc (.cells #[.func (.func q0) #[] #[], .func (.func q1) #[] #[], .func (.func q2) #[] #[], .func (.func q3) #[] #[]] 89)).cell? ⟨w2.heap.size, 0, none⟩ = some (.int .u8 k) := (hB4.alloc _).at 0 rfl
  go_wp2_with ((with_reducible refine wpList_here (.store 89 (.tmp 6) (.tmp 23)) rfl ?_); refine wpList_store_new 89 (.tmp 6) (.tmp 23) rfl _ _ _ rfl rfl rfl Tryd.info67 rfl rfl rfl rfl ?_)
  have hK5 := BoxAt.new w4 #[.func (.func q0) #[] #[], .func (.func q1) #[] #[], .func (.func q2) #[] #[], .func (.func q3) #[] #[]] 89
  have hB5 := hB4.alloc (.cells #[.func (.func q0) #[] #[], .func (.func q1) #[] #[], .func (.func q2) #[] #[], .func (.func q3) #[] #[]] 89)
  have hr5 := hr4.keep ((Fr.refl w4).alloc (.cells #[.func (.func q0) #[] #[], .func (.func q1) #[] #[], .func (.func q2) #[] #[], .func (.func q3) #[] #[]] 89))
  have hA5 := hA4.alloc (.cells #[.func (.func q0) #[] #[], .func (.func q1) #[] #[], .func (.func q2) #[] #[], .func (.func q3) #[] #[]] 89)
  clear hB4 hr4 hA4 d0
  refine (H2.out p _ hr5).mono ?_
  rintro e w6 ⟨rfl, hr6, hch6⟩
  have hB6 := hB5.chp hch6 hpq
  have hK6 := hK5.chp hch6 (show w4.heap.size ≠ p by omega)
  have hA6 := Chp.fr hA5 hch6 hp
  have c1 := hB6.at 1 rfl
  have c2 := hB6.at 2 rfl
  have g1 := hB6.free 1
  have g2 := hB6.free 2
  have hz6 := hB6.lt
  clear hK5 hB5 hr5 hA5 hch6
  go_wp2_with fail
  have hr6' := (hr6.setBox hpq 1 (.int .u8 C)).setBox hpq 2 (.int .u16 0)
  have hB6a : BoxAt _ w2.heap.size (({ Ev.zero with kind := k, client := C } : Ev).cells nil0 nil0) _ := hB6.setAt 1 (.int .u8 C)
  have hB6' : BoxAt _ w2.heap.size (({ Ev.zero with kind := k, client := C } : Ev).cells nil0 nil0) _ := hB6a.setAt 2 (.int .u16 0)
  have hK6' := (hK6.set (p := ⟨w2.heap.size, 1, none⟩) (by simp; omega) (.int .u8 C)).set (p := ⟨w2.heap.size, 2, none⟩) (by simp; omega) (.int .u16 0)
  have hA6' := (hA6.setCell (p := ⟨w2.heap.size, 1, none⟩) (by simp; omega) (.int .u8 C)).setCell (p := ⟨w2.heap.size, 2, none⟩) (by simp; omega) (.int .u16 0)
  refine (H3.out p _ hr6').mono ?_
  rintro e w7 ⟨rfl, hr7, hch7⟩
  have hB7 := hB6'.chp hch7 hpq
  have hK7 := hK6'.chp hch7 (show w4.heap.size ≠ p by omega)
  have hA7 := Chp.fr hA6' hch7 hp
  have c2 := hB7.at 2 rfl
  have g2 := hB7.free 2
  have k3 : w7.cell? ⟨w4.heap.size, 3, none⟩ = some (.func (.func q3) #[] #[]) := hK7.at 3 rfl
  have hz7 := hB7.lt
  have hz8 := hK7.lt
  clear hr6 hB6 hK6 hA6 c1 g1 hr6' hB6a hB6' hK6' hA6' hch7
  go_wp2_with fail
  have hr7' := hr7.setBox hpq 2 (.int .u16 I)
  have hB7' : BoxAt _ w2.heap.size (({ Ev.zero with kind := k, client := C, id := I } : Ev).cells nil0 nil0) _ := hB7.setAt 2 (.int .u16 I)
  have hA7' := hA7.setCell (p := ⟨w2.heap.size, 2, none⟩) (by simp; omega) (.int .u16 I)
  have hF7 : Fr w (w7.setCell ⟨w2.heap.size, 2, none⟩ (.int .u16 I)) := ((Fr.refl w).alloc _).trans hA7'
  refine (H4.out _ p w2.heap.size (HEK.out _ hF7) (HKL.out _ hF7 p (by omega)) (HKL.out _ hF7 w2.heap.size (by omega)) hpq hr7' hB7').mono ?_
  rintro e w8 ⟨rfl, t, r, hB8, hst8, hc8⟩
  obtain ⟨ht8, hr8⟩ := hst8 w8 (Nat.le_refl _) fun _ _ _ => rfl
  have hS7 := Lib.hid hst8
  have hwz : w.heap.size < w7.heap.size := by have := hB7.lt; omega
  clear hst8
  have hA8 := Ch2.fr hA7' hc8 hp (by simp; omega)
  have hZ8 := (BoxAt.new w (Ev.zero.cells nil0 nil0) 32).fr hA8
  have hF8 : Fr w w8 := ((Fr.refl w).alloc _).trans hA8
  have hE8 := HEK.out _ hF8
  have hz9 := hB8.lt
  have hz0 := hZ8.lt
  clear hr7 hB7 hK7 hA7 c2 g2 k3 hz7 hz8 hr7' hB7' hA7' hF7 hc8 H1 H2 H3 H4 HO HOV HKL HEK
  obtain ⟨y, E⟩ := Y
  simp only at hok hB8 ht8 hr8
  by_cases hE0 : E = 0
  · subst hE0
    obtain ⟨ta, tn, tc, rfl⟩ := ht8.slice
    obtain ⟨ra, rn, rc, rfl⟩ := hr8.slice
    have hpc := Put_c y _ w8 hE8 ⟨_, _, rfl, ht8, hr8⟩ hok
    generalize hPQ : y.put = PQ at hpc
    obtain ⟨P1, P2⟩ := PQ
    unfold Ev.val at hpc
    simp only at hpc
    have HPC := Lib.hid hpc
    have HPQ := Lib.hid hPQ
    clear hpc hPQ
    go_wp2_with ((with_reducible refine wpList_here (.load 32 (.tmp 5)) rfl ?_); refine wpList_load_box 32 (.tmp 5) rfl _ rfl _ hB8 _ Tryd.underlying32 rfl Tryd.infoEv rfl ?_)
    refine HPC.out.mono ?_
    rintro e w9 ⟨rfl, hb9⟩
    have hB9 := hB8.fr hb9
    have hZ9 := hZ8.fr hb9
    have hF9 := hF8.trans hb9
    have ht9 := ht8.keep hb9
    have hr9 := hr8.keep hb9
    have HB9 := Lib.hid hb9
    have hz10 := hB9.lt
    have hz11 := hZ9.lt
    clear hB8 hZ8 hF8 ht8 hr8 hb9 hA8 hE8 HPC hz9 hz0
    by_cases hp2' : P2 = 0
    · subst hp2'
      by_cases hps : P1 = s
      · subst hps
        have hT : endEv P1 (y, 0) = (y, 0) := by unfold endEv; rw [if_neg (by simp), if_pos HPQ.out]
        have hP : ∀ w2, Relaid w.heap.size (y.cells (.slice ta tn tc) (.slice ra rn rc)) 32 w9 w2 → Fr w w2 → TookEv w (endEv P1 (y, 0)) (.returned (.tuple #[.agg (y.cells (.slice ta tn tc) (.slice ra rn rc)), .int .i64 0])) w2 := fun w2 hR hf2 => by
          rw [hT]
          obtain ⟨h1, h2⟩ := hS7.out w2 (by rw [hR.size]; exact HB9.out.size) fun k h1 h2 => (hR.other k (by simp at h1; omega)).trans (HB9.out.block h2)
          exact ⟨_, _, rfl, h1, h2, hf2⟩
        have HP := Lib.hid hP
        clear hP hT ht9 hr9
        go_wp2_with (first | ((with_reducible refine wpList_here (.load 32 (.tmp 5)) rfl ?_); refine wpList_load_box 32 (.tmp 5) rfl _ rfl _ hB9 _ Tryd.underlying32 rfl Tryd.infoEv rfl ?_) | ((with_reducible refine wpList_here (.store 32 (.tmp 2) (.tmp 59)) rfl ?_); refine wpList_store_old 32 (.tmp 2) (.tmp 59) rfl w.heap.size _ _ rfl rfl hZ9 Tryd.infoEv rfl (Ev.oneCell y ta ra tn tc rn rc) rfl rfl ?_; rintro wz hR; have hBz := hR.box; have hFz := hR.fr hF9 (Nat.le_refl _)))
        exact bodyPost_ret (v := .tuple #[.agg (y.cells (.slice ta tn tc) (.slice ra rn rc)), .int .i64 0]) (results_ev2 rfl _ _ w.heap.size _ _ rfl rfl hBz rfl) rfl (HP.out _ hR hFz)
      · have hT : endEv s (y, 0) = (.zero, 4) := by unfold endEv; rw [if_neg (by simp), if_neg (by rw [HPQ.out]; intro e; exact hps (congrArg Prod.fst e))]
        have hP : ∀ w2, Fr w w2 → TookEv w (endEv s (y, 0)) (.returned (.tuple #[.agg (Ev.zero.cells nil0 nil0), .int .i64 4])) w2 := fun w2 hf => by rw [hT]; exact ⟨nil0, nil0, rfl, RdM.nil _, RdR.nil _, hf⟩
        have HP := Lib.hid hP
        have hpb : (P1 == s) = false := by simp [hps]
        clear hP hT ht9 hr9 hps
        go_wp2_with ((with_reducible refine wpList_here (.store 32 (.tmp 2) (.tmp 58)) rfl ?_); refine wpList_store_old 32 (.tmp 2) (.tmp 58) rfl w.heap.size _ _ rfl rfl hZ9 Tryd.infoEv rfl zero_oneCell rfl rfl ?_; rintro wz hR; have hBz := hR.box; have hFz := hR.fr hF9 (Nat.le_refl _))
        exact bodyPost_ret (v := .tuple #[.agg (Ev.zero.cells nil0 nil0), .int .i64 4]) (results_ev2 rfl _ _ w.heap.size _ _ rfl rfl hBz rfl) rfl (HP.out _ hFz)
    · have he2 : ((P2 : Int) != 0) = true := by simp; omega
      have hT : endEv s (y, 0) = (.zero, 4) := by unfold endEv; rw [if_neg (by simp), if_neg (by rw [HPQ.out]; intro e; exact hp2' (congrArg Prod.snd e))]
      have hP : ∀ w2, Fr w w2 → TookEv w (endEv s (y, 0)) (.returned (.tuple #[.agg (Ev.zero.cells nil0 nil0), .int .i64 4])) w2 := fun w2 hf => by rw [hT]; exact ⟨nil0, nil0, rfl, RdM.nil _, RdR.nil _, hf⟩
      have HP := Lib.hid hP
      clear hP hT ht9 hr9 hp2'
      go_wp2_with ((with_reducible refine wpList_here (.store 32 (.tmp 2) (.tmp 58)) rfl ?_); refine wpList_store_old 32 (.tmp 2) (.tmp 58) rfl w.heap.size _ _ rfl rfl hZ9 Tryd.infoEv rfl zero_oneCell rfl rfl ?_; rintro wz hR; have hBz := hR.box; have hFz := hR.fr hF9 (Nat.le_refl _))
      exact bodyPost_ret (v := .tuple #[.agg (Ev.zero.cells nil0 nil0), .int .i64 4]) (results_ev2 rfl _ _ w.heap.size _ _ rfl rfl hBz rfl) rfl (HP.out _ hFz)
  · have he2 : ((E : Int) != 0) = true := by simp; omega
    have hT : endEv s (y, E) = (.zero, E) := by unfold endEv; rw [if_pos hE0]
    have hP : ∀ w2, Fr w w2 → TookEv w (endEv s (y, E)) (.returned (.tuple #[.agg (Ev.zero.cells nil0 nil0), .int .i64 E])) w2 := fun w2 hf => by rw [hT]; exact ⟨nil0, nil0, rfl, RdM.nil _, RdR.nil _, hf⟩
    have HP := Lib.hid hP
    clear hP hT hE0 ht8 hr8 hok hE8
    go_wp2_with ((with_reducible refine wpList_here (.store 32 (.tmp 2) (.tmp 44)) rfl ?_); refine wpList_store_old 32 (.tmp 2) (.tmp 44) rfl w.heap.size _ _ rfl rfl hZ8 Tryd.infoEv rfl zero_oneCell rfl rfl ?_; rintro wz hR; have hBz := hR.box; have hFz := hR.fr hF8 (Nat.le_refl _))
    exact bodyPost_ret (v := .tuple #[.agg (Ev.zero.cells nil0 nil0), .int .i64 E]) (results_ev2 rfl _ _ w.heap.size _ _ rfl rfl hBz rfl) rfl (HP.out _ hFz)
set_option maxRecDepth 100000 in
set_option maxHeartbeats 4000000 in
theorem evTake_cfg (k q0 q1 q2 q3 : Nat) (kk : UInt8) (s' s : List UInt8) (w : World) (hs' : s = kk :: s') (hE : Env w) (hkk : kk.toNat = k) (h1 : 1 ≤ k) (h7 : k ≤ 7) (hne : k = 1) (hs : s.length < 1000000)
    (hq : evKind k = #[.func (.func q0) #[] #[], .func (.func q1) #[] #[], .func (.func q2) #[] #[], .func (.func q3) #[] #[]]) (hf : IsFn q3) (htk : TakesK q3 k s) :
    Calls Tryd.prog 29 #[.string ⟨s.toArray⟩] w (TookEv w (endEv s (rdEv k s))) := by
  unfold rdEv
  rw [if_pos hne]
  have hok : (rdBody { Ev.zero with kind := k } 0 s 1).1.Ok := rdBody_ok _ _ _ _ { zero_ok with kind := (by simp only; omega) }
  have H4 := Lib.hid (fun W p q h1 h2 h3 h4 h5 h6 => htk W p q 0 1 { Ev.zero with kind := k } rfl rfl rfl rfl h1 h2 h3 h4 h5 h6)
  generalize rdBody { Ev.zero with kind := k } 0 s 1 = Y at hok H4 ⊢
  have HOV := Lib.hid (fun W => Over_c s W (by omega))
  have h1' := fun p W h => rU8_c p 0 0 s W h
  have hfirst : rdRaw 0 s 0 1 = ([kk], 0, 1) := by rw [hs']; exact rdRaw_first kk s'
  rw [hfirst, ofBe_single, hkk] at h1'
  have H1 := Lib.hid h1'
  have hof := fun W => of_yes k W h1 h7
  rw [hq] at hof
  have HO := Lib.hid hof
  have hk1 : ((k : Int) != 1) = false := by simp; omega
  have hstr : s.isEmpty = false := by rw [hs']; rfl
  unfold IsFn at hf
  have HKL := Lib.hid (fun (W : World) (f : Fr w W) (p : Nat) (hp : w.heap.size ≤ p) => Fr.kindsLt hE f hp)
  have HEK := Lib.hid (fun (W : World) (f : Fr w W) => hE.keep f)
  have HX := Lib.hid hs'
  clear h1' hfirst hof hq hne hkk htk hE hs'
  go_enter Tryd.func29, Tryd.ntmps29
  go_wp2_with fail
  refine (HOV.out _).mono ?_
  rintro e w1 ⟨p, rfl, hr1, hf1, hp⟩
  go_wp2_with fail
  refine (H1.out p _ hr1).mono ?_
  rintro e w2 ⟨rfl, hr2, hch2⟩
  have hA2 : Fr (w.alloc (.cells (Ev.zero.cells nil0 nil0) 32)) w2 := Chp.fr hf1 hch2 hp
  have hp' : w.heap.size < p := by simp at hp; omega
  have hpq : w2.heap.size ≠ p := by have := hr2.lt; omega
  have hp2 : p < w2.heap.size := hr2.lt
  have hwq : w.heap.size < w2.heap.size := by omega
  clear hr1 hf1 hch2
  go_wp2_with ((with_reducible refine wpList_here (.store 32 (.tmp 5) (.tmp 18)) rfl ?_); refine wpList_store_new 32 (.tmp 5) (.tmp 18) rfl _ _ _ rfl rfl rfl Tryd.infoEv rfl (Ev.oneCell { Ev.zero with kind := k } none none 0 0 0 0) rfl rfl ?_)
  have hB3 := BoxAt.new w2 (({ Ev.zero with kind := k } : Ev).cells nil0 nil0) 32
  have hr3 := hr2.keep ((Fr.refl w2).alloc (.cells (({ Ev.zero with kind := k } : Ev).cells nil0 nil0) 32))
  have hA3 := hA2.alloc (.cells (({ Ev.zero with kind := k } : Ev).cells nil0 nil0) 32)
  refine (HO.out _).mono ?_
  rintro e w4 ⟨rfl, hb4⟩
  have hB4 := hB3.fr hb4
  have hr4 := hr3.keep hb4
  have hA4 := hA3.trans hb4
  have hz4 := hB4.lt
  clear hr2 hA2 hB3 hr3 hA3 hb4
  have d0 : (w4.alloc (.cells #[.func (.func q0) #[] #[], .func (.func q1) #[] #[], .func (.func q2) #[] #[], .func (.func q3) #[] #[]] 89)).cell? ⟨w2.heap.size, 0, none⟩ = some (.int .u8 k) := (hB4.alloc _).at 0 rfl
  go_wp2_with ((with_reducible refine wpList_here (.store 89 (.tmp 6) (.tmp 23)) rfl ?_); refine wpList_store_new 89 (.tmp 6) (.tmp 23) rfl _ _ _ rfl rfl rfl Tryd.info67 rfl rfl rfl rfl ?_)
  have hK5 := BoxAt.new w4 #[.func (.func q0) #[] #[], .func (.func q1) #[] #[], .func (.func q2) #[] #[], .func (.func q3) #[] #[]] 89
  have hB5 := hB4.alloc (.cells #[.func (.func q0) #[] #[], .func (.func q1) #[] #[], .func (.func q2) #[] #[], .func (.func q3) #[] #[]] 89)
  have hr5 := hr4.keep ((Fr.refl w4).alloc (.cells #[.func (.func q0) #[] #[], .func (.func q1) #[] #[], .func (.func q2) #[] #[], .func (.func q3) #[] #[]] 89))
  have hA5 := hA4.alloc (.cells #[.func (.func q0) #[] #[], .func (.func q1) #[] #[], .func (.func q2) #[] #[], .func (.func q3) #[] #[]] 89)
  clear hB4 hr4 hA4 d0
  have hF7 : Fr w (w4.alloc (.cells #[.func (.func q0) #[] #[], .func (.func q1) #[] #[], .func (.func q2) #[] #[], .func (.func q3) #[] #[]] 89)) := ((Fr.refl w).alloc _).trans hA5
  have hwz : w.heap.size < w4.heap.size := by omega
  refine (H4.out _ p w2.heap.size (HEK.out _ hF7) (HKL.out _ hF7 p (by omega)) (HKL.out _ hF7 w2.heap.size (by omega)) hpq hr5 hB5).mono ?_
  rintro e w8 ⟨rfl, t, r, hB8, hst8, hc8⟩
  obtain ⟨ht8, hr8⟩ := hst8 w8 (Nat.le_refl _) fun _ _ _ => rfl
  have hS7 := Lib.hid hst8
  clear hst8
  have hA8 := Ch2.fr hA5 hc8 hp (by simp; omega)
  have hZ8 := (BoxAt.new w (Ev.zero.cells nil0 nil0) 32).fr hA8
  have hF8 : Fr w w8 := ((Fr.refl w).alloc _).trans hA8
  have hE8 := HEK.out _ hF8
  have hz9 := hB8.lt
  have hz0 := hZ8.lt
  clear hK5 hB5 hr5 hA5 hF7 hc8 H1 H4 HO HOV HKL HEK
  obtain ⟨y, E⟩ := Y
  simp only at hok hB8 ht8 hr8
  by_cases hE0 : E = 0
  · subst hE0
    obtain ⟨ta, tn, tc, rfl⟩ := ht8.slice
    obtain ⟨ra, rn, rc, rfl⟩ := hr8.slice
    have hpc := Put_c y _ w8 hE8 ⟨_, _, rfl, ht8, hr8⟩ hok
    generalize hPQ : y.put = PQ at hpc
    obtain ⟨P1, P2⟩ := PQ
    unfold Ev.val at hpc
    simp only at hpc
    have HPC := Lib.hid hpc
    have HPQ := Lib.hid hPQ
    clear hpc hPQ
    go_wp2_with ((with_reducible refine wpList_here (.load 32 (.tmp 5)) rfl ?_); refine wpList_load_box 32 (.tmp 5) rfl _ rfl _ hB8 _ Tryd.underlying32 rfl Tryd.infoEv rfl ?_)
    refine HPC.out.mono ?_
    rintro e w9 ⟨rfl, hb9⟩
    have hB9 := hB8.fr hb9
    have hZ9 := hZ8.fr hb9
    have hF9 := hF8.trans hb9
    have ht9 := ht8.keep hb9
    have hr9 := hr8.keep hb9
    have HB9 := Lib.hid hb9
    have hz10 := hB9.lt
    have hz11 := hZ9.lt
    clear hB8 hZ8 hF8 ht8 hr8 hb9 hA8 hE8 HPC hz9 hz0
    by_cases hp2' : P2 = 0
    · subst hp2'
      by_cases hps : P1 = s
      · subst hps
        have hT : endEv P1 (y, 0) = (y, 0) := by unfold endEv; rw [if_neg (by simp), if_pos HPQ.out]
        have hP : ∀ w2, Relaid w.heap.size (y.cells (.slice ta tn tc) (.slice ra rn rc)) 32 w9 w2 → Fr w w2 → TookEv w (endEv P1 (y, 0)) (.returned (.tuple #[.agg (y.cells (.slice ta tn tc) (.slice ra rn rc)), .int .i64 0])) w2 := fun w2 hR hf2 => by
          rw [hT]
          obtain ⟨h1, h2⟩ := hS7.out w2 (by rw [hR.size]; exact HB9.out.size) fun k h1 h2 => (hR.other k (by simp at h1; omega)).trans (HB9.out.block h2)
          exact ⟨_, _, rfl, h1, h2, hf2⟩
        have HP := Lib.hid hP
        clear hP hT ht9 hr9
        go_wp2_with (first | ((with_reducible refine wpList_here (.load 32 (.tmp 5)) rfl ?_); refine wpList_load_box 32 (.tmp 5) rfl _ rfl _ hB9 _ Tryd.underlying32 rfl Tryd.infoEv rfl ?_) | ((with_reducible refine wpList_here (.store 32 (.tmp 2) (.tmp 59)) rfl ?_); refine wpList_store_old 32 (.tmp 2) (.tmp 59) rfl w.heap.size _ _ rfl rfl hZ9 Tryd.infoEv rfl (Ev.oneCell y ta ra tn tc rn rc) rfl rfl ?_; rintro wz hR; have hBz := hR.box; have hFz := hR.fr hF9 (Nat.le_refl _)))
        exact bodyPost_ret (v := .tuple #[.agg (y.cells (.slice ta tn tc) (.slice ra rn rc)), .int .i64 0]) (results_ev2 rfl _ _ w.heap.size _ _ rfl rfl hBz rfl) rfl (HP.out _ hR hFz)
      · have hT : endEv s (y, 0) = (.zero, 4) := by unfold endEv; rw [if_neg (by simp), if_neg (by rw [HPQ.out]; intro e; exact hps (congrArg Prod.fst e))]
        have hP : ∀ w2, Fr w w2 → TookEv w (endEv s (y, 0)) (.returned (.tuple #[.agg (Ev.zero.cells nil0 nil0), .int .i64 4])) w2 := fun w2 hf => by rw [hT]; exact ⟨nil0, nil0, rfl, RdM.nil _, RdR.nil _, hf⟩
        have HP := Lib.hid hP
        have hpb : (P1 == s) = false := by simp [hps]
        clear hP hT ht9 hr9 hps
        go_wp2_with ((with_reducible refine wpList_here (.store 32 (.tmp 2) (.tmp 58)) rfl ?_); refine wpList_store_old 32 (.tmp 2) (.tmp 58) rfl w.heap.size _ _ rfl rfl hZ9 Tryd.infoEv rfl zero_oneCell rfl rfl ?_; rintro wz hR; have hBz := hR.box; have hFz := hR.fr hF9 (Nat.le_refl _))
        exact bodyPost_ret (v := .tuple #[.agg (Ev.zero.cells nil0 nil0), .int .i64 4]) (results_ev2 rfl _ _ w.heap.size _ _ rfl rfl hBz rfl) rfl (HP.out _ hFz)
    · have he2 : ((P2 : Int) != 0) = true := by simp; omega
      have hT : endEv s (y, 0) = (.zero, 4) := by unfold endEv; rw [if_neg (by simp), if_neg (by rw [HPQ.out]; intro e; exact hp2' (congrArg Prod.snd e))]
      have hP : ∀ w2, Fr w w2 → TookEv w (endEv s (y, 0)) (.returned (.tuple #[.agg (Ev.zero.cells nil0 nil0), .int .i64 4])) w2 := fun w2 hf => by rw [hT]; exact ⟨nil0, nil0, rfl, RdM.nil _, RdR.nil _, hf⟩
      have HP := Lib.hid hP
      clear hP hT ht9 hr9 hp2'
      go_wp2_with ((with_reducible refine wpList_here (.store 32 (.tmp 2) (.tmp 58)) rfl ?_); refine wpList_store_old 32 (.tmp 2) (.tmp 58) rfl w.heap.size _ _ rfl rfl hZ9 Tryd.infoEv rfl zero_oneCell rfl rfl ?_; rintro wz hR; have hBz := hR.box; have hFz := hR.fr hF9 (Nat.le_refl _))
      exact bodyPost_ret (v := .tuple #[.agg (Ev.zero.cells nil0 nil0), .int .i64 4]) (results_ev2 rfl _ _ w.heap.size _ _ rfl rfl hBz rfl) rfl (HP.out _ hFz)
  · have he2 : ((E : Int) != 0) = true := by simp; omega
    have hT : endEv s (y, E) = (.zero, E) := by unfold endEv; rw [if_pos hE0]
    have hP : ∀ w2, Fr w w2 → TookEv w (endEv s (y, E)) (.returned (.tuple #[.agg (Ev.zero.cells nil0 nil0), .int .i64 E])) w2 := fun w2 hf => by rw [hT]; exact ⟨nil0, nil0, rfl, RdM.nil _, RdR.nil _, hf⟩
    have HP := Lib.hid hP
    clear hP hT hE0 ht8 hr8 hok hE8
    go_wp2_with ((with_reducible refine wpList_here (.store 32 (.tmp 2) (.tmp 44)) rfl ?_); refine wpList_store_old 32 (.tmp 2) (.tmp 44) rfl w.heap.size _ _ rfl rfl hZ8 Tryd.infoEv rfl zero_oneCell rfl rfl ?_; rintro wz hR; have hBz := hR.box; have hFz := hR.fr hF8 (Nat.le_refl _))
    exact bodyPost_ret (v := .tuple #[.agg (Ev.zero.cells nil0 nil0), .int .i64 E]) (results_ev2 rfl _ _ w.heap.size _ _ rfl rfl hBz rfl) rfl (HP.out _ hFz)
end Go.Proofs.YtdjjjnoecfbjeaaDoor

/- event.Take of any bytes. No condition but the bytes' length and the tables' content. -/
namespace Go.Proofs.YtdjjjnoecfbjeaaDoor
open Go.RowKit

theorem takeEv_cons (kk : UInt8) (s : List UInt8) (h : ¬ (kk.toNat < 1 ∨ 7 < kk.toNat)) : takeEv (kk :: s) = endEv (kk :: s) (rdEv kk.toNat (kk :: s)) := if_neg h
theorem evTake_c (s : List UInt8) (w : World) (hE : Env w) (hs : s.length < 1000000) : Calls Tryd.prog 29 #[.string ⟨s.toArray⟩] w (TookEv w (takeEv s)) := by
  cases s with
  | nil => exact evTake_nil w
  | cons kk s =>
    by_cases hb : kk.toNat < 1 ∨ 7 < kk.toNat
    · exact evTake_kind kk s w hb hs
    · rw [takeEv_cons kk s hb]
      rcases (show kk.toNat = 1 ∨ kk.toNat = 2 ∨ kk.toNat = 3 ∨ kk.toNat = 4 ∨ kk.toNat = 5 ∨ kk.toNat = 6 ∨ kk.toNat = 7 by omega) with h | h | h | h | h | h | h
      · rw [h]
        exact evTake_cfg 1 _ _ _ _ kk s _ w rfl hE h (by omega) (by omega) rfl hs rfl (isFn Tryd.func62 (by kernel_rfl) rfl) fun W p q e at_ x hk ht hr hop hE hp hq hpq hrd hB => by
          rw [show rdBody x e (kk :: s) at_ = ({ x with cfg := (rdCfg e (kk :: s) at_).1 }, (rdCfg e (kk :: s) at_).2.1) by simp [rdBody, hk]]
          exact takeConfig_c p q e at_ _ x W hrd hB hpq ht hr
      · rw [h]
        exact evTake_main 2 _ _ _ _ kk s _ w rfl hE h (by omega) (by omega) (by omega) hs rfl (isFn Tryd.func66 (by kernel_rfl) rfl) fun W p q e at_ x hk ht hr hop hE hp hq hpq hrd hB => by
          rw [show rdBody x e (kk :: s) at_ = ({ x with op := (rdOp e (kk :: s) at_).1 }, (rdOp e (kk :: s) at_).2) by simp [rdBody, hk]]
          exact takeOp_c p q e at_ _ x W hE hq hp hrd hs hB hpq hop ht hr
      · rw [h]
        exact evTake_main 3 _ _ _ _ kk s _ w rfl hE h (by omega) (by omega) (by omega) hs rfl (isFn Tryd.func70 (by kernel_rfl) rfl) fun W p q e at_ x hk ht hr hop hE hp hq hpq hrd hB => by
          rw [show rdBody x e (kk :: s) at_ = ({ x with rk := (takeRes e (kk :: s) at_).1.1, rv := (takeRes e (kk :: s) at_).1.2.1 }, (takeRes e (kk :: s) at_).1.2.2) by simp [rdBody, hk]]
          exact takeResult_c p q e at_ _ x W hrd hB hpq ht hr
      · rw [h]
        exact evTake_main 4 _ _ _ _ kk s _ w rfl hE h (by omega) (by omega) (by omega) hs rfl (isFn Tryd.func74 (by kernel_rfl) rfl) fun W p q e at_ x hk ht hr hop hE hp hq hpq hrd hB => by
          rw [show rdBody x e (kk :: s) at_ = (x, e) by simp [rdBody, hk]]
          exact pass_c p q e at_ _ x W hrd hB ht hr
      · rw [h]
        exact evTake_main 5 _ _ _ _ kk s _ w rfl hE h (by omega) (by omega) (by omega) hs rfl (isFn Tryd.func78 (by kernel_rfl) rfl) fun W p q e at_ x hk ht hr hop hE hp hq hpq hrd hB => by
          rw [show rdBody x e (kk :: s) at_ = ({ x with txn := (rdTxn e (kk :: s) at_).1 }, (rdTxn e (kk :: s) at_).2.1) by simp [rdBody, hk]]
          exact takeTxn_c p q e at_ _ x W hrd hB hpq ht hr
      · rw [h]
        exact evTake_main 6 _ _ _ _ kk s _ w rfl hE h (by omega) (by omega) (by omega) hs rfl (isFn Tryd.func82 (by kernel_rfl) rfl) fun W p q e at_ x hk ht hr hop hE hp hq hpq hrd hB => by
          rw [show rdBody x e (kk :: s) at_ = ({ x with reads := (rdReads e (kk :: s) at_).1 }, (rdReads e (kk :: s) at_).2.1) by simp [rdBody, hk]]
          exact takeReads_c p q e at_ _ x W hrd hB hpq ht hr
      · rw [h]
        exact evTake_main 7 _ _ _ _ kk s _ w rfl hE h (by omega) (by omega) (by omega) hs rfl (isFn Tryd.func74 (by kernel_rfl) rfl) fun W p q e at_ x hk ht hr hop hE hp hq hpq hrd hB => by
          rw [show rdBody x e (kk :: s) at_ = (x, e) by simp [rdBody, hk]]
          exact pass_c p q e at_ _ x W hrd hB ht hr
end Go.Proofs.YtdjjjnoecfbjeaaDoor

/- Of an event that may be: its bytes are read as it; a beginning of them is torn; with a byte behind they are none. Plain. -/
namespace Go.Proofs.YtdjjjnoecfbjeaaDoor
open Go.RowKit

def rdHead (s : List UInt8) (a : Nat) : (Nat × Nat) × Nat × Nat :=
  let x := rdRaw 0 s a 1
  let y := rdRaw x.2.1 s x.2.2 2
  ((ofBe x.1, ofBe y.1), y.2)
theorem rds_head (c i : Nat) (hc : c < 256) (hi : i < 65536) : Rds rdHead (be c 1 ++ be i 2) (c, i) := by
  have := rds_seq (k := fun x y => (ofBe x, ofBe y)) (g := fun _ e s a => rdRaw e s a 2) (rds_raw (be c 1) 1 (be_len _ 1)) (rds_raw (be i 2) 2 (be_len _ 2)) (fun _ s a => raw_bad5 2 s a)
  rw [ofBe_be 1 c (by omega), ofBe_be 2 i hi] at this
  exact this
theorem rdBody_five (x : Ev) (s : List UInt8) (a : Nat) : (rdBody x 5 s a).2 = 5 := by
  unfold rdBody
  split
  · show (rdCfg 5 s a).2.1 = 5
    simp [rdCfg, rdRaw_bad]
  · split
    · simp [rdOp]
    · split
      · simp [takeRes, rdRaw_bad, ofBe]
      · split
        · simp [rdTxn, rdRaw_bad, ofBe, rdMics]
        · split
          · simp [rdReads, rdRaw_bad, ofBe, rdLists]
          · rfl
/-- An event as its header has it. -/
def Ev.bare (x : Ev) : Ev := if x.kind = 1 then { Ev.zero with kind := x.kind } else { Ev.zero with kind := x.kind, client := x.client, id := x.id }
theorem needed_of {x : Ev} (hm : x.may = true) : x = x.needed := by
  unfold Ev.may at hm
  simp only [Bool.and_eq_true, decide_eq_true_eq] at hm
  exact hm.2
theorem client_of {x : Ev} (hm : x.may = true) : x.client < 16 := by
  unfold Ev.may at hm
  simp only [Bool.and_eq_true, decide_eq_true_eq] at hm
  exact hm.1.2
theorem kind_range {x : Ev} (hm : x.may = true) : 1 ≤ x.kind ∧ x.kind ≤ 7 := by
  have hkm := kindMay_of hm
  refine Classical.byContradiction fun h => ?_
  have h1 : x.kind ≠ 1 := by omega
  have h2 : x.kind ≠ 2 := by omega
  have h3 : x.kind ≠ 3 := by omega
  have h4 : x.kind ≠ 4 := by omega
  have h5 : x.kind ≠ 5 := by omega
  have h6 : x.kind ≠ 6 := by omega
  have h7 : x.kind ≠ 7 := by omega
  simp [Ev.kindMay, h1, h2, h3, h4, h5, h6, h7] at hkm
theorem txn_facts {l : List Mic} (h : txnMay l = true) : l.length ≤ 8 ∧ l.any micBad = false := by
  unfold txnMay at h
  simp only [Bool.and_eq_true, decide_eq_true_eq, Bool.not_eq_true'] at h
  exact ⟨h.1.2, h.2⟩
theorem reads_facts {l : List (List Nat)} (h : readsMay l = true) : l.length ≤ 8 ∧ ∀ k ∈ l, k.length ≤ 32 := by
  unfold readsMay at h
  simp only [Bool.and_eq_true, decide_eq_true_eq, Bool.not_eq_true'] at h
  refine ⟨h.1, fun k hk => ?_⟩
  have := List.any_eq_false.1 h.2 k hk
  unfold listBad at this
  simpa using this
theorem body_whole (x : Ev) (ok : x.Ok) (hm : x.may = true) (pre : List UInt8) : rdBody x.bare 0 (pre ++ x.tail) pre.length = (x, 0) := by
  have hkm := kindMay_of hm
  have hn := needed_of hm
  have hk := kind_range hm
  have hp : ∀ b : List UInt8, pre ++ b = pre ++ b ++ [] := fun b => by simp
  rcases (show x.kind = 1 ∨ x.kind = 2 ∨ x.kind = 3 ∨ x.kind = 4 ∨ x.kind = 5 ∨ x.kind = 6 ∨ x.kind = 7 by omega) with h | h | h | h | h | h | h
  · simp only [Ev.kindMay, h, if_true] at hkm
    rw [show x.tail = cfgBytes x.cfg by simp [Ev.tail, h], hp]
    have hr := (rds_cfg x.cfg hkm).reads pre []
    rw [show rdBody x.bare 0 (pre ++ cfgBytes x.cfg ++ []) pre.length = ({ x.bare with cfg := (rdCfg 0 (pre ++ cfgBytes x.cfg ++ []) pre.length).1 }, (rdCfg 0 (pre ++ cfgBytes x.cfg ++ []) pre.length).2.1) by simp [rdBody, Ev.bare, h], hr]
    have e : ({ x.bare with cfg := x.cfg } : Ev) = x := by
      have e2 : ({ x.bare with cfg := x.cfg } : Ev) = x.needed := by simp [Ev.bare, Ev.needed, h]
      rw [e2, ← hn]
    show (({ x.bare with cfg := x.cfg } : Ev), 0) = (x, 0)
    rw [e]
  · simp only [Ev.kindMay, h] at hkm
    rw [show x.tail = opBytes x.op.F x.op.O x.op.K x.op.A x.op.B by simp [Ev.tail, h]]
    have hr := takeOp_whole x.op ⟨ok.F, ok.O, ok.K, ok.A, ok.B⟩ (by simpa using hkm)
    have hd : rdOp 0 (pre ++ opBytes x.op.F x.op.O x.op.K x.op.A x.op.B) pre.length = (x.op, 0) := by
      unfold rdOp
      rw [if_neg (by simp), List.drop_left' rfl, hr]
      simp
    rw [show ∀ s, rdBody x.bare 0 s pre.length = ({ x.bare with op := (rdOp 0 s pre.length).1 }, (rdOp 0 s pre.length).2) from fun s => by simp [rdBody, Ev.bare, h], hd]
    have e : ({ x.bare with op := x.op } : Ev) = x := by
      have e2 : ({ x.bare with op := x.op } : Ev) = x.needed := by simp [Ev.bare, Ev.needed, h]
      rw [e2, ← hn]
    show (({ x.bare with op := x.op } : Ev), 0) = (x, 0)
    rw [e]
  · simp only [Ev.kindMay, h] at hkm
    have hg : goodB x.rk x.rv = true := by simpa using hkm
    rw [show x.tail = resBytes x.rk x.rv by simp [Ev.tail, h], hp]
    have hr := (rds_res x.rk x.rv hg ok.rv).reads pre []
    have ht := takeRes_rd (pre ++ resBytes x.rk x.rv ++ []) pre.length
    rw [hr] at ht
    simp only [ne_eq, not_true_eq_false, if_false, hg, if_true] at ht
    rw [show ∀ s, rdBody x.bare 0 s pre.length = ({ x.bare with rk := (takeRes 0 s pre.length).1.1, rv := (takeRes 0 s pre.length).1.2.1 }, (takeRes 0 s pre.length).1.2.2) from fun s => by simp [rdBody, Ev.bare, h], ht]
    have e : ({ x.bare with rk := x.rk, rv := x.rv } : Ev) = x := by
      have e2 : ({ x.bare with rk := x.rk, rv := x.rv } : Ev) = x.needed := by simp [Ev.bare, Ev.needed, h]
      rw [e2, ← hn]
    show (({ x.bare with rk := x.rk, rv := x.rv } : Ev), 0) = (x, 0)
    rw [e]
  · rw [show ∀ s, rdBody x.bare 0 s pre.length = (x.bare, 0) from fun s => by simp [rdBody, Ev.bare, h]]
    have e : (x.bare) = x := by
      have e2 : (x.bare) = x.needed := by simp [Ev.bare, Ev.needed, h]
      rw [e2, ← hn]
    show ((x.bare), 0) = (x, 0)
    rw [e]
  · simp only [Ev.kindMay, h] at hkm
    obtain ⟨h8, hg⟩ := txn_facts (l := x.txn) (by simpa using hkm)
    rw [show x.tail = be x.txn.length 1 ++ x.txn.flatMap micBytes by simp [Ev.tail, h], hp]
    have hr := (rds_txn x.txn (by omega) hg (fun m hm => (ok.txn m hm).2)).reads pre []
    rw [show ∀ s, rdBody x.bare 0 s pre.length = ({ x.bare with txn := (rdTxn 0 s pre.length).1 }, (rdTxn 0 s pre.length).2.1) from fun s => by simp [rdBody, Ev.bare, h], hr]
    have e : ({ x.bare with txn := x.txn } : Ev) = x := by
      have e2 : ({ x.bare with txn := x.txn } : Ev) = x.needed := by simp [Ev.bare, Ev.needed, h]
      rw [e2, ← hn]
    show (({ x.bare with txn := x.txn } : Ev), 0) = (x, 0)
    rw [e]
  · simp only [Ev.kindMay, h] at hkm
    obtain ⟨h8, hg⟩ := reads_facts (l := x.reads) (by simpa using hkm)
    rw [show x.tail = be x.reads.length 1 ++ x.reads.flatMap listBytes by simp [Ev.tail, h], hp]
    have hr := (rds_reads x.reads (by omega) (fun l hl => ⟨by have := hg l hl; omega, ok.reads l hl⟩)).reads pre []
    rw [show ∀ s, rdBody x.bare 0 s pre.length = ({ x.bare with reads := (rdReads 0 s pre.length).1 }, (rdReads 0 s pre.length).2.1) from fun s => by simp [rdBody, Ev.bare, h], hr]
    have e : ({ x.bare with reads := x.reads } : Ev) = x := by
      have e2 : ({ x.bare with reads := x.reads } : Ev) = x.needed := by simp [Ev.bare, Ev.needed, h]
      rw [e2, ← hn]
    show (({ x.bare with reads := x.reads } : Ev), 0) = (x, 0)
    rw [e]
  · rw [show ∀ s, rdBody x.bare 0 s pre.length = (x.bare, 0) from fun s => by simp [rdBody, Ev.bare, h]]
    have e : (x.bare) = x := by
      have e2 : (x.bare) = x.needed := by simp [Ev.bare, Ev.needed, h]
      rw [e2, ← hn]
    show ((x.bare), 0) = (x, 0)
    rw [e]
theorem body_torn (x : Ev) (ok : x.Ok) (hm : x.may = true) (pre c d : List UInt8) (hb : x.tail = c ++ d) (hd : d ≠ []) : (rdBody x.bare 0 (pre ++ c) pre.length).2 = 5 := by
  have hkm := kindMay_of hm
  have hk := kind_range hm
  have hd2 : 0 < d.length := List.length_pos_iff.2 hd
  rcases (show x.kind = 1 ∨ x.kind = 2 ∨ x.kind = 3 ∨ x.kind = 4 ∨ x.kind = 5 ∨ x.kind = 6 ∨ x.kind = 7 by omega) with h | h | h | h | h | h | h
  · simp only [Ev.kindMay, h, if_true] at hkm
    rw [show x.tail = cfgBytes x.cfg by simp [Ev.tail, h]] at hb
    rw [show ∀ s, rdBody x.bare 0 s pre.length = ({ x.bare with cfg := (rdCfg 0 s pre.length).1 }, (rdCfg 0 s pre.length).2.1) from fun s => by simp [rdBody, Ev.bare, h]]
    exact (rds_cfg x.cfg hkm).torn pre c d hb hd
  · simp only [Ev.kindMay, h] at hkm
    rw [show x.tail = opBytes x.op.F x.op.O x.op.K x.op.A x.op.B by simp [Ev.tail, h]] at hb
    rw [show ∀ s, rdBody x.bare 0 s pre.length = ({ x.bare with op := (rdOp 0 s pre.length).1 }, (rdOp 0 s pre.length).2) from fun s => by simp [rdBody, Ev.bare, h]]
    have hr := takeOp_pre x.op ⟨ok.F, ok.O, ok.K, ok.A, ok.B⟩ (by simpa using hkm) c d hb hd
    unfold rdOp
    rw [if_neg (by simp), List.drop_left' rfl, hr]
    simp
  · simp only [Ev.kindMay, h] at hkm
    have hg : goodB x.rk x.rv = true := by simpa using hkm
    rw [show x.tail = resBytes x.rk x.rv by simp [Ev.tail, h]] at hb
    rw [show ∀ s, rdBody x.bare 0 s pre.length = ({ x.bare with rk := (takeRes 0 s pre.length).1.1, rv := (takeRes 0 s pre.length).1.2.1 }, (takeRes 0 s pre.length).1.2.2) from fun s => by simp [rdBody, Ev.bare, h]]
    have hr := (rds_res x.rk x.rv hg ok.rv).torn pre c d hb hd
    rw [takeRes_rd, hr]
    simp
  · rw [show x.tail = [] by simp [Ev.tail, h]] at hb
    have := congrArg List.length hb
    simp at this
    omega
  · simp only [Ev.kindMay, h] at hkm
    obtain ⟨h8, hg⟩ := txn_facts (l := x.txn) (by simpa using hkm)
    rw [show x.tail = be x.txn.length 1 ++ x.txn.flatMap micBytes by simp [Ev.tail, h]] at hb
    rw [show ∀ s, rdBody x.bare 0 s pre.length = ({ x.bare with txn := (rdTxn 0 s pre.length).1 }, (rdTxn 0 s pre.length).2.1) from fun s => by simp [rdBody, Ev.bare, h]]
    exact (rds_txn x.txn (by omega) hg (fun m hm => (ok.txn m hm).2)).torn pre c d hb hd
  · simp only [Ev.kindMay, h] at hkm
    obtain ⟨h8, hg⟩ := reads_facts (l := x.reads) (by simpa using hkm)
    rw [show x.tail = be x.reads.length 1 ++ x.reads.flatMap listBytes by simp [Ev.tail, h]] at hb
    rw [show ∀ s, rdBody x.bare 0 s pre.length = ({ x.bare with reads := (rdReads 0 s pre.length).1 }, (rdReads 0 s pre.length).2.1) from fun s => by simp [rdBody, Ev.bare, h]]
    exact (rds_reads x.reads (by omega) (fun l hl => ⟨by have := hg l hl; omega, ok.reads l hl⟩)).torn pre c d hb hd
  · rw [show x.tail = [] by simp [Ev.tail, h]] at hb
    have := congrArg List.length hb
    simp at this
    omega
theorem bytes_cons (x : Ev) : x.bytes = UInt8.ofNat x.kind :: ((if x.kind = 1 then [] else be x.client 1 ++ be x.id 2) ++ x.tail) := by
  unfold Ev.bytes Ev.head
  split <;> simp [be_one']
theorem rdEv_head (k : Nat) (s : List UInt8) (h : k ≠ 1) : rdEv k s = rdBody { Ev.zero with kind := k, client := (rdHead s 1).1.1, id := (rdHead s 1).1.2 } (rdHead s 1).2.1 s (rdHead s 1).2.2 := by
  unfold rdEv
  rw [if_neg h]
  rfl
theorem kindByte {x : Ev} (hm : x.may = true) : (UInt8.ofNat x.kind).toNat = x.kind := by have := kind_range hm; simp; omega
theorem rdEv_whole (x : Ev) (ok : x.Ok) (hm : x.may = true) : rdEv x.kind x.bytes = (x, 0) := by
  rw [bytes_cons]
  by_cases h : x.kind = 1
  · have := body_whole x ok hm [UInt8.ofNat x.kind]
    unfold rdEv
    rw [if_pos h, if_pos h]
    simpa [Ev.bare, h] using this
  · rw [rdEv_head _ _ h, if_neg h]
    have hr : rdHead ([UInt8.ofNat x.kind] ++ (be x.client 1 ++ be x.id 2) ++ x.tail) 1 = ((x.client, x.id), 0, 1 + (be x.client 1 ++ be x.id 2).length) := (rds_head x.client x.id ok.client ok.id).reads [UInt8.ofNat x.kind] x.tail
    have hw := body_whole x ok hm (UInt8.ofNat x.kind :: (be x.client 1 ++ be x.id 2))
    rw [show UInt8.ofNat x.kind :: (be x.client 1 ++ be x.id 2 ++ x.tail) = [UInt8.ofNat x.kind] ++ (be x.client 1 ++ be x.id 2) ++ x.tail by simp, hr]
    simp only [Ev.bare, if_neg h] at hw
    simpa [be_len] using hw
theorem rdEv_torn (x : Ev) (ok : x.Ok) (hm : x.may = true) (c d : List UInt8) (hb : x.bytes = (UInt8.ofNat x.kind :: c) ++ d) (hd : d ≠ []) : (rdEv x.kind (UInt8.ofNat x.kind :: c)).2 = 5 := by
  rw [bytes_cons] at hb
  simp only [List.cons_append, List.cons.injEq, true_and] at hb
  by_cases h : x.kind = 1
  · rw [if_pos h, List.nil_append] at hb
    have := body_torn x ok hm [UInt8.ofNat x.kind] c d hb hd
    unfold rdEv
    rw [if_pos h]
    simpa [Ev.bare, h] using this
  · rw [if_neg h] at hb
    rw [rdEv_head _ _ h]
    rcases pre_split hb hd with ⟨d1, hd1, hb1⟩ | ⟨c2, rfl, hb2⟩
    · have hr : (rdHead ([UInt8.ofNat x.kind] ++ c) 1).2.1 = 5 := (rds_head x.client x.id ok.client ok.id).torn [UInt8.ofNat x.kind] c d1 hb1 hd1
      rw [show UInt8.ofNat x.kind :: c = [UInt8.ofNat x.kind] ++ c from rfl, hr]
      exact rdBody_five _ _ _
    · have hr : rdHead ([UInt8.ofNat x.kind] ++ (be x.client 1 ++ be x.id 2) ++ c2) 1 = ((x.client, x.id), 0, 1 + (be x.client 1 ++ be x.id 2).length) := (rds_head x.client x.id ok.client ok.id).reads [UInt8.ofNat x.kind] c2
      have hw := body_torn x ok hm (UInt8.ofNat x.kind :: (be x.client 1 ++ be x.id 2)) c2 d hb2 hd
      rw [show UInt8.ofNat x.kind :: (be x.client 1 ++ be x.id 2 ++ c2) = [UInt8.ofNat x.kind] ++ (be x.client 1 ++ be x.id 2) ++ c2 by simp, hr]
      simp only [Ev.bare, if_neg h] at hw
      simpa [be_len] using hw
theorem put_of {x : Ev} (hm : x.may = true) : x.put = (x.bytes, 0) := by unfold Ev.put; rw [if_pos hm]
theorem takeEv_kk (kk : UInt8) (s : List UInt8) {x : Ev} (hm : x.may = true) (h : kk = UInt8.ofNat x.kind) : takeEv (kk :: s) = endEv (kk :: s) (rdEv x.kind (kk :: s)) := by
  subst h
  have hk := kind_range hm
  have hb := kindByte hm
  rw [takeEv_cons _ _ (by rw [hb]; omega), hb]
/-- An event's bytes are read as the event. -/
theorem takeEv_bytes (x : Ev) (ok : x.Ok) (hm : x.may = true) : takeEv x.bytes = (x, 0) := by
  have hw := rdEv_whole x ok hm
  rw [bytes_cons] at hw ⊢
  rw [takeEv_kk _ _ hm rfl, hw]
  unfold endEv
  rw [if_neg (by simp), if_pos (by rw [put_of hm, bytes_cons])]
/-- A beginning of them is torn. -/
theorem takeEv_torn (x : Ev) (ok : x.Ok) (hm : x.may = true) (c d : List UInt8) (hb : x.bytes = c ++ d) (hd : d ≠ []) : takeEv c = (.zero, 5) := by
  cases c with
  | nil => rfl
  | cons kk c =>
    have hkk : kk = UInt8.ofNat x.kind := by
      rw [bytes_cons] at hb
      exact (List.cons.inj hb).1.symm
    rw [takeEv_kk kk c hm hkk]
    subst hkk
    have ht := rdEv_torn x ok hm c d hb hd
    unfold endEv
    rw [ht, if_pos (by decide)]
/-- What is read of any bytes has these bytes, and may be. -/
theorem takeEv_ok {s : List UInt8} {y : Ev} (h : takeEv s = (y, 0)) : y.put = (s, 0) := by
  cases s with
  | nil => cases h
  | cons kk s =>
    by_cases hb : kk.toNat < 1 ∨ 7 < kk.toNat
    · rw [show takeEv (kk :: s) = (.zero, 4) from if_pos hb] at h
      cases h
    · rw [takeEv_cons kk s hb] at h
      unfold endEv at h
      split at h
      · rename_i h1
        have := congrArg Prod.snd h
        exact absurd this h1
      · split at h
        · rename_i h1 h2
          cases h
          exact h2
        · cases h
theorem takeEv_no {s : List UInt8} {y : Ev} {e : Nat} (h : takeEv s = (y, e)) (he : e ≠ 0) : y = .zero := by
  cases s with
  | nil => cases h; rfl
  | cons kk s =>
    by_cases hb : kk.toNat < 1 ∨ 7 < kk.toNat
    · rw [show takeEv (kk :: s) = (.zero, 4) from if_pos hb] at h
      cases h; rfl
    · rw [takeEv_cons kk s hb] at h
      unfold endEv at h
      split at h
      · cases h; rfl
      · split at h
        · cases h; exact absurd rfl he
        · cases h; rfl
theorem put_may {y : Ev} {s : List UInt8} (h : y.put = (s, 0)) : y.may = true ∧ y.bytes = s := by
  unfold Ev.put at h
  split at h
  · rename_i hm
    cases h
    exact ⟨hm, rfl⟩
  · cases h
theorem takeEv_okOk {s : List UInt8} : (takeEv s).1.Ok := by
  cases s with
  | nil => exact zero_ok
  | cons kk s =>
    by_cases hb : kk.toNat < 1 ∨ 7 < kk.toNat
    · rw [show takeEv (kk :: s) = (.zero, 4) from if_pos hb]
      exact zero_ok
    · rw [takeEv_cons kk s hb]
      have hkk : kk.toNat < 256 := kk.toNat_lt
      have hok : (rdEv kk.toNat (kk :: s)).1.Ok := by
        unfold rdEv
        split
        · exact rdBody_ok _ _ _ _ { zero_ok with kind := hkk }
        · exact rdBody_ok _ _ _ _ { zero_ok with kind := hkk, client := ofBe1_lt _ _ _, id := ofBe2_lt _ _ _ }
      unfold endEv
      split
      · exact zero_ok
      · split
        · exact hok
        · exact zero_ok
/-- With a byte behind they are none. -/
theorem takeEv_more (x : Ev) (ok : x.Ok) (hm : x.may = true) (b : UInt8) : (takeEv (x.bytes ++ [b])).2 ≠ 0 := fun h => by
  have h1 : takeEv (x.bytes ++ [b]) = ((takeEv (x.bytes ++ [b])).1, 0) := by rw [← h]
  obtain ⟨hm2, hb2⟩ := put_may (takeEv_ok h1)
  have := takeEv_torn _ takeEv_okOk hm2 x.bytes [b] hb2 (by simp)
  rw [takeEv_bytes x ok hm] at this
  cases this
end Go.Proofs.YtdjjjnoecfbjeaaDoor

/- An event's bytes are 600 at most; two that may be have unlike bytes if they are unlike: plain. -/
namespace Go.Proofs.YtdjjjnoecfbjeaaDoor
open Go.RowKit

theorem flat_len_le {α β : Type} (f : α → List β) (k : Nat) : ∀ l : List α, (∀ x ∈ l, (f x).length ≤ k) → (l.flatMap f).length ≤ k * l.length
  | [], _ => by simp
  | x :: l, h => by
    have h1 := h x (by simp)
    have h2 := flat_len_le f k l (fun y hy => h y (by simp [hy]))
    rw [List.flatMap_cons, List.length_append, List.length_cons, Nat.mul_add]
    omega
theorem op_len (F O K A B : Nat) : (opBytes F O K A B).length ≤ 7 := by
  unfold opBytes
  simp only [List.length_append, List.length_cons, List.length_nil]
  have h1 : (if hasK F then [UInt8.ofNat K] else []).length ≤ 1 := by split <;> simp
  have h2 : (if hasA F then be A 2 else []).length ≤ 2 := by split <;> simp [be_len]
  have h3 : (if hasB F then be B 2 else []).length ≤ 2 := by split <;> simp [be_len]
  omega
theorem res_len (K V : Nat) : (resBytes K V).length ≤ 3 := by
  unfold resBytes
  split <;> simp [be_len]
theorem mic_len (m : Mic) : (micBytes m).length ≤ 3 := by
  unfold micBytes
  split <;> simp [be_len]
theorem tail_len {x : Ev} (hm : x.may = true) : x.tail.length ≤ 521 := by
  have hkm := kindMay_of hm
  unfold Ev.tail
  split
  · simp [cfgBytes, be_len]
  · split
    · have := op_len x.op.F x.op.O x.op.K x.op.A x.op.B; omega
    · split
      · have := res_len x.rk x.rv; omega
      · split
        · rename_i h1 h2 h3 h5
          have ht : txnMay x.txn = true := by simpa [Ev.kindMay, h5] using hkm
          have h8 := (txn_facts ht).1
          have := flat_len_le micBytes 3 x.txn (fun m _ => mic_len m)
          rw [List.length_append, be_len]
          omega
        · split
          · rename_i h1 h2 h3 h5 h6
            have ht : readsMay x.reads = true := by simpa [Ev.kindMay, h6] using hkm
            obtain ⟨h8, h9⟩ := reads_facts ht
            have := flat_len_le listBytes 65 x.reads (fun l hl => by have := h9 l hl; rw [listBytes_len]; omega)
            rw [List.length_append, be_len]
            omega
          · simp
theorem bytes_len {x : Ev} (hm : x.may = true) : 0 < x.bytes.length ∧ x.bytes.length ≤ 600 := by
  have h := tail_len hm
  have hh : x.head.length ≤ 4 ∧ 0 < x.head.length := by
    unfold Ev.head
    split <;> simp [be_len]
  unfold Ev.bytes
  rw [List.length_append]
  omega
theorem bytes_inj {x y : Ev} (okx : x.Ok) (oky : y.Ok) (hx : x.may = true) (hy : y.may = true) : x.bytes = y.bytes ↔ x = y := by
  refine ⟨fun h => ?_, fun h => by rw [h]⟩
  have h1 := takeEv_bytes x okx hx
  rw [h, takeEv_bytes y oky hy] at h1
  exact (congrArg Prod.fst h1).symm
/-- What cannot be, by one reason. -/
theorem put_no_may {x : Ev} (h : x.put.2 ≠ 0) : x.put.1 = [] ∧ x.put.2 = 4 ∧ x.check = 4 := by
  unfold Ev.put at h ⊢
  unfold Ev.check
  split
  · rename_i hm
    rw [if_pos hm] at h
    exact absurd rfl h
  · exact ⟨rfl, rfl, rfl⟩
theorem may_of_put {x : Ev} (h : x.put.2 = 0) : x.may = true := by
  unfold Ev.put at h
  split at h
  · assumption
  · cases h
theorem check_of {x : Ev} (hm : x.may = true) : x.check = 0 := by unfold Ev.check; rw [if_pos hm]
end Go.Proofs.YtdjjjnoecfbjeaaDoor
