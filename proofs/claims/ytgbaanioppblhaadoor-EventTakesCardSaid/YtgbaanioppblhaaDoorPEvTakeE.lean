/- event.Take. No condition but the bytes' length and the tables' content. -/
import Derived.Test.YtgbaanioppblhaaDoorPEvTakeD
import Derived.Test.YtgbaanioppblhaaDoorPEvPutK
import Derived.Test.YtgbaanioppblhaaDoorPEvCheck
set_option linter.all false
set_option linter.unusedVariables false
set_option linter.unusedSimpArgs false
set_option linter.unnecessarySimpa false
/- event.Take. No condition but the bytes' length and the tables' content. -/
namespace Go.Proofs.YtgbaanioppblhaaDoor
open Go.RowKit

theorem results_ev2 {fn : Func} {p r : Tmp} (h : fn.results = #[.cell p 32, .tmp r]) (tmps : Array Value) (w : World) (g : Nat) (c : Array Value) (v : Value) (hp : tmps.getD p undef = .pointer (some ⟨g, 0, none⟩)) (hr : tmps.getD r undef = v) (hB : BoxAt w g c 32) (hc : c.size = 19) :
    (results fn tmps).run Tryd.prog w = .ok (.tuple #[.agg c, v]) w := by
  have hp' : tmps[p]?.getD undef = .pointer (some ⟨g, 0, none⟩) := by simpa using hp
  have hr' : tmps[r]?.getD undef = v := by simpa using hr
  have hl := run_loadVar_row (P := Tryd.prog) w g 32 32 c (0, 0) _ hB Tryd.underlying32 rfl (by rw [hc]; exact Tryd.infoEv)
  simp [results, h, hp', hr', asAddr, hl]
/-- What Take leaves: the event and the error. -/
def TookEv (w : World) (y : Ev × Nat) (e : Ending) (w' : World) : Prop := ∃ t r, e = .returned (.tuple #[y.1.val t r, .int .i64 y.2]) ∧ RdM w' t y.1.txn ∧ RdR w' r y.1.reads ∧ Fr w w'
theorem Ev.cells_size (x : Ev) (t r : Value) : (x.cells t r).size = 19 := rfl
theorem zeroCells_eq : zeroCells = Ev.zero.cells nil0 nil0 := rfl
theorem zero_oneCell : (Ev.zero.cells nil0 nil0).all (·.oneCell') = true := Ev.oneCell Ev.zero none none 0 0 0 0
set_option maxRecDepth 100000 in
theorem evTake_nil (w : World) : Calls Tryd.prog 16 #[.string ⟨#[]⟩] w (TookEv w (takeEv [])) := by
  have hP : ∀ (w2 : World), Fr w w2 → TookEv w (takeEv []) (.returned (.tuple #[.agg (Ev.zero.cells nil0 nil0), .int .i64 5])) w2 := fun w2 hf => ⟨nil0, nil0, rfl, RdM.nil _, RdR.nil _, hf⟩
  have HP := Lib.hid hP
  clear hP
  go_enter Tryd.func16, Tryd.ntmps16
  go_wp2_with ((with_reducible refine wpList_here (.store 32 (.tmp 2) (.tmp 13)) rfl ?_); refine wpList_store_new 32 (.tmp 2) (.tmp 13) rfl _ _ _ rfl rfl rfl Tryd.infoEv rfl zero_oneCell rfl rfl ?_)
  exact bodyPost_ret (v := .tuple #[.agg (Ev.zero.cells nil0 nil0), .int .i64 5]) (results_ev2 rfl _ _ w.heap.size _ _ rfl rfl (BoxAt.new _ _ _) rfl) rfl (HP.out _ ((Fr.refl w).alloc _))
theorem rdRaw_first (k : UInt8) (s : List UInt8) : rdRaw 0 (k :: s) 0 1 = ([k], 0, 1) := by simp [rdRaw]
theorem ofBe_single (k : UInt8) : ofBe [k] = k.toNat := by simp [ofBe]
set_option maxRecDepth 100000 in
set_option maxHeartbeats 1000000 in
theorem evTake_kind (k : UInt8) (s : List UInt8) (w : World) (hk : k.toNat < 1 ∨ 7 < k.toNat) (hs : (k :: s).length < 1000000) : Calls Tryd.prog 16 #[.string ⟨(k :: s).toArray⟩] w (TookEv w (takeEv (k :: s))) := by
  have ht : takeEv (k :: s) = (.zero, 4) := if_pos hk
  rw [ht]
  have hP : ∀ (w2 : World), Fr w w2 → TookEv w (.zero, 4) (.returned (.tuple #[.agg (Ev.zero.cells nil0 nil0), .int .i64 4])) w2 := fun w2 hf => ⟨nil0, nil0, rfl, RdM.nil _, RdR.nil _, hf⟩
  have HP := Lib.hid hP
  have HOV := Lib.hid (fun W => Over_c (k :: s) W (by simp at hs ⊢; omega))
  have h1 := fun p W h => rU8_c p 0 0 (k :: s) W h
  rw [rdRaw_first, ofBe_single] at h1
  have H1 := Lib.hid h1
  have HO := Lib.hid (fun W => of_no (k.toNat : Int) W (by omega))
  clear hP ht h1 hk hs
  go_enter Tryd.func16, Tryd.ntmps16
  go_wp2_with fail
  refine (HOV.out _).mono ?_
  rintro e w1 ⟨p, rfl, hr1, hf1, hp⟩
  go_wp2_with fail
  refine (H1.out p _ hr1).mono ?_
  rintro e w2 ⟨rfl, hr2, hch2⟩
  have hA := BoxAt.new w (Ev.zero.cells nil0 nil0) 32
  have hp' : w.heap.size < p := by simp at hp; omega
  have hA2 := (hA.fr hf1).chp hch2 (by omega)
  have hfr2 : Fr w w2 := Chp.fr (((Fr.refl w).alloc _).trans hf1) hch2 (by omega)
  clear hA hr1 hf1 hr2 hch2
  go_wp2_with ((with_reducible refine wpList_here (.store 32 (.tmp 5) (.tmp 18)) rfl ?_); refine wpList_store_new 32 (.tmp 5) (.tmp 18) rfl _ _ _ rfl rfl rfl Tryd.infoEv rfl (Ev.oneCell ⟨k.toNat, 0, 0, .zero, 0, 0, [], [], .zero⟩ none none 0 0 0 0) rfl rfl ?_)
  refine (HO.out _).mono ?_
  rintro e w3 ⟨rfl, hb3⟩
  have hA3 := (hA2.alloc _).fr hb3
  have hfr3 : Fr w w3 := (hfr2.alloc _).trans hb3
  have hA4 := hA3.alloc (.cells #[.nilFunc, .nilFunc, .nilFunc, .nilFunc] 67)
  have hz3 := hA3.lt
  clear hA2 hb3
  go_wp2_with (first | ((with_reducible refine wpList_here (.store 67 (.tmp 6) (.tmp 23)) rfl ?_); refine wpList_store_new 67 (.tmp 6) (.tmp 23) rfl _ _ _ rfl rfl rfl Tryd.info67 rfl rfl rfl rfl ?_) | ((with_reducible refine wpList_here (.store 32 (.tmp 2) (.tmp 27)) rfl ?_); refine wpList_store_old 32 (.tmp 2) (.tmp 27) rfl w.heap.size _ _ rfl rfl hA4 Tryd.infoEv rfl zero_oneCell rfl rfl ?_; rintro w4 hR; have hB4 := hR.box; have hfr4 := hR.fr (hfr3.alloc _) (Nat.le_refl _)))
  exact bodyPost_ret (v := .tuple #[.agg (Ev.zero.cells nil0 nil0), .int .i64 4]) (results_ev2 rfl _ _ w.heap.size _ _ rfl rfl hB4 rfl) rfl (HP.out _ hfr4)
end Go.Proofs.YtgbaanioppblhaaDoor

/- event.Take, whole. No condition but the bytes' length and the tables' content. -/
namespace Go.Proofs.YtgbaanioppblhaaDoor
open Go.RowKit

theorem Fr.kindsLt {w W : World} (h : Env w) (f : Fr w W) {p : Nat} (hp : w.heap.size ≤ p) : 0 < p := by
  have := lt_of_cell (h.kinds.model 1 (by omega) (by omega)); simp at this; omega
/-- What a kind's take does. -/
def TakesK (q3 : Nat) (k : Nat) (s : List UInt8) : Prop := ∀ (W : World) (p q e at_ : Nat) (x : Ev), x.kind = k → x.txn = [] → x.reads = [] → x.op = .zero → Env W → 0 < p → 0 < q → q ≠ p → RdAt W p e s at_ → BoxAt W q (x.cells nil0 nil0) 32 →
  Calls Tryd.prog q3 #[.pointer (some ⟨p, 0, none⟩), .pointer (some ⟨q, 0, none⟩)] W (TakeP p q W (rdBody x e s at_))
/-- What is done with what was taken. -/
def endEv (s : List UInt8) (y : Ev × Nat) : Ev × Nat := if y.2 ≠ 0 then (.zero, y.2) else if y.1.put = (s, 0) then (y.1, 0) else (.zero, 4)
set_option maxRecDepth 100000 in
set_option maxHeartbeats 4000000 in
theorem evTake_main (k q0 q1 q2 q3 : Nat) (kk : UInt8) (s' s : List UInt8) (w : World) (hs' : s = kk :: s') (hE : Env w) (hkk : kk.toNat = k) (h1 : 1 ≤ k) (h7 : k ≤ 7) (hne : k ≠ 1) (hs : s.length < 1000000)
    (hq : evKind k = #[.func (.func q0) #[] #[], .func (.func q1) #[] #[], .func (.func q2) #[] #[], .func (.func q3) #[] #[]]) (hf : IsFn q3) (htk : TakesK q3 k s) :
    Calls Tryd.prog 16 #[.string ⟨s.toArray⟩] w (TookEv w (endEv s (rdEv k s))) := by
  unfold rdEv
  rw [if_neg hne]
  simp only
  have la := ofBe1_lt 0 s 1
  have H2 := Lib.hid (fun p W h => rU8_c p 0 1 s W h)
  generalize rdRaw 0 s 1 1 = a at la H2 ⊢
  obtain ⟨a0, ae, aa⟩ := a
  simp only at la H2 ⊢
  have lb := ofBe2_lt ae s aa
  have H3 := Lib.hid (fun p W h => rU16_c p ae aa s W h)
  generalize rdRaw ae s aa 2 = b at lb H3 ⊢
  obtain ⟨b0, be', ba⟩ := b
  simp only at lb H3 ⊢
  generalize ofBe a0 = C at la H2 ⊢
  generalize ofBe b0 = I at lb H3 ⊢
  have hok : (rdBody { Ev.zero with kind := k, client := C, id := I } be' s ba).1.Ok := rdBody_ok _ _ _ _ { zero_ok with kind := (by simp only; omega), client := la, id := lb }
  have H4 := Lib.hid (fun W p q h1 h2 h3 h4 h5 h6 => htk W p q be' ba { Ev.zero with kind := k, client := C, id := I } rfl rfl rfl rfl h1 h2 h3 h4 h5 h6)
  generalize rdBody { Ev.zero with kind := k, client := C, id := I } be' s ba = Y at hok H4 ⊢
  have HOV := Lib.hid (fun W => Over_c s W (by omega))
  have h1' := fun p W h => rU8_c p 0 0 s W h
  have hfirst : rdRaw 0 s 0 1 = ([kk], 0, 1) := by rw [hs']; exact rdRaw_first kk s'
  rw [hfirst, ofBe_single, hkk] at h1'
  have H1 := Lib.hid h1'
  have hof := fun W => of_yes k W h1 h7
  rw [hq] at hof
  have HO := Lib.hid hof
  have hk1 : ((k : Int) != 1) = true := by simp; omega
  have hstr : s.isEmpty = false := by rw [hs']; rfl
  unfold IsFn at hf
  have HKL := Lib.hid (fun (W : World) (f : Fr w W) (p : Nat) (hp : w.heap.size ≤ p) => Fr.kindsLt hE f hp)
  have HEK := Lib.hid (fun (W : World) (f : Fr w W) => hE.keep f)
  have HX := Lib.hid hs'
  clear h1' hfirst hof hq hne hkk htk hE hs'
  go_enter Tryd.func16, Tryd.ntmps16
  go_wp2_with fail
  refine (HOV.out _).mono ?_
  rintro e w1 ⟨p, rfl, hr1, hf1, hp⟩
  go_wp2_with fail
  refine (H1.out p _ hr1).mono ?_
  rintro e w2 ⟨rfl, hr2, hch2⟩
  have hA2 : Fr (w.alloc (.cells (Ev.zero.cells nil0 nil0) 32)) w2 := Chp.fr hf1 hch2 hp
  have hp' : w.heap.size < p := by simp at hp; omega
  have hpq : w2.heap.size ≠ p := by have := hr2.lt; omega
  have hp2 : p < w2.heap.size := hr2.lt
  have hwq : w.heap.size < w2.heap.size := by omega
  clear hr1 hf1 hch2
  go_wp2_with ((with_reducible refine wpList_here (.store 32 (.tmp 5) (.tmp 18)) rfl ?_); refine wpList_store_new 32 (.tmp 5) (.tmp 18) rfl _ _ _ rfl rfl rfl Tryd.infoEv rfl (Ev.oneCell { Ev.zero with kind := k } none none 0 0 0 0) rfl rfl ?_)
  have hB3 := BoxAt.new w2 (({ Ev.zero with kind := k } : Ev).cells nil0 nil0) 32
  have hr3 := hr2.keep ((Fr.refl w2).alloc (.cells (({ Ev.zero with kind := k } : Ev).cells nil0 nil0) 32))
  have hA3 := hA2.alloc (.cells (({ Ev.zero with kind := k } : Ev).cells nil0 nil0) 32)
  refine (HO.out _).mono ?_
  rintro e w4 ⟨rfl, hb4⟩
  have hB4 := hB3.fr hb4
  have hr4 := hr3.keep hb4
  have hA4 := hA3.trans hb4
  have hz4 := hB4.lt
  clear hr2 hA2 hB3 hr3 hA3 hb4
  have d0 : (w4.alloc (.cells #[.func (.func q0) #[] #[], .func (.func q1) #[] #[], .func (.func q2) #[] #[], .func (.func q3) #[] #[]] 67)).cell? ⟨w2.heap.size, 0, none⟩ = some (.int .u8 k) := (hB4.alloc _).at 0 rfl
  go_wp2_with ((with_reducible refine wpList_here (.store 67 (.tmp 6) (.tmp 23)) rfl ?_); refine wpList_store_new 67 (.tmp 6) (.tmp 23) rfl _ _ _ rfl rfl rfl Tryd.info67 rfl rfl rfl rfl ?_)
  have hK5 := BoxAt.new w4 #[.func (.func q0) #[] #[], .func (.func q1) #[] #[], .func (.func q2) #[] #[], .func (.func q3) #[] #[]] 67
  have hB5 := hB4.alloc (.cells #[.func (.func q0) #[] #[], .func (.func q1) #[] #[], .func (.func q2) #[] #[], .func (.func q3) #[] #[]] 67)
  have hr5 := hr4.keep ((Fr.refl w4).alloc (.cells #[.func (.func q0) #[] #[], .func (.func q1) #[] #[], .func (.func q2) #[] #[], .func (.func q3) #[] #[]] 67))
  have hA5 := hA4.alloc (.cells #[.func (.func q0) #[] #[], .func (.func q1) #[] #[], .func (.func q2) #[] #[], .func (.func q3) #[] #[]] 67)
  clear hB4 hr4 hA4 d0
  refine (H2.out p _ hr5).mono ?_
  rintro e w6 ⟨rfl, hr6, hch6⟩
  have hB6 := hB5.chp hch6 hpq
  have hK6 := hK5.chp hch6 (show w4.heap.size ≠ p by omega)
  have hA6 := Chp.fr hA5 hch6 hp
  have c1 := hB6.at 1 rfl
  have c2 := hB6.at 2 rfl
  have g1 := hB6.free 1
  have g2 := hB6.free 2
  have hz6 := hB6.lt
  clear hK5 hB5 hr5 hA5 hch6
  go_wp2_with fail
  have hr6' := (hr6.setBox hpq 1 (.int .u8 C)).setBox hpq 2 (.int .u16 0)
  have hB6a : BoxAt _ w2.heap.size (({ Ev.zero with kind := k, client := C } : Ev).cells nil0 nil0) _ := hB6.setAt 1 (.int .u8 C)
  have hB6' : BoxAt _ w2.heap.size (({ Ev.zero with kind := k, client := C } : Ev).cells nil0 nil0) _ := hB6a.setAt 2 (.int .u16 0)
  have hK6' := (hK6.set (p := ⟨w2.heap.size, 1, none⟩) (by simp; omega) (.int .u8 C)).set (p := ⟨w2.heap.size, 2, none⟩) (by simp; omega) (.int .u16 0)
  have hA6' := (hA6.setCell (p := ⟨w2.heap.size, 1, none⟩) (by simp; omega) (.int .u8 C)).setCell (p := ⟨w2.heap.size, 2, none⟩) (by simp; omega) (.int .u16 0)
  refine (H3.out p _ hr6').mono ?_
  rintro e w7 ⟨rfl, hr7, hch7⟩
  have hB7 := hB6'.chp hch7 hpq
  have hK7 := hK6'.chp hch7 (show w4.heap.size ≠ p by omega)
  have hA7 := Chp.fr hA6' hch7 hp
  have c2 := hB7.at 2 rfl
  have g2 := hB7.free 2
  have k3 : w7.cell? ⟨w4.heap.size, 3, none⟩ = some (.func (.func q3) #[] #[]) := hK7.at 3 rfl
  have hz7 := hB7.lt
  have hz8 := hK7.lt
  clear hr6 hB6 hK6 hA6 c1 g1 hr6' hB6a hB6' hK6' hA6' hch7
  go_wp2_with fail
  have hr7' := hr7.setBox hpq 2 (.int .u16 I)
  have hB7' : BoxAt _ w2.heap.size (({ Ev.zero with kind := k, client := C, id := I } : Ev).cells nil0 nil0) _ := hB7.setAt 2 (.int .u16 I)
  have hA7' := hA7.setCell (p := ⟨w2.heap.size, 2, none⟩) (by simp; omega) (.int .u16 I)
  have hF7 : Fr w (w7.setCell ⟨w2.heap.size, 2, none⟩ (.int .u16 I)) := ((Fr.refl w).alloc _).trans hA7'
  refine (H4.out _ p w2.heap.size (HEK.out _ hF7) (HKL.out _ hF7 p (by omega)) (HKL.out _ hF7 w2.heap.size (by omega)) hpq hr7' hB7').mono ?_
  rintro e w8 ⟨rfl, t, r, hB8, hst8, hc8⟩
  obtain ⟨ht8, hr8⟩ := hst8 w8 (Nat.le_refl _) fun _ _ _ => rfl
  have hS7 := Lib.hid hst8
  have hwz : w.heap.size < w7.heap.size := by have := hB7.lt; omega
  clear hst8
  have hA8 := Ch2.fr hA7' hc8 hp (by simp; omega)
  have hZ8 := (BoxAt.new w (Ev.zero.cells nil0 nil0) 32).fr hA8
  have hF8 : Fr w w8 := ((Fr.refl w).alloc _).trans hA8
  have hE8 := HEK.out _ hF8
  have hz9 := hB8.lt
  have hz0 := hZ8.lt
  clear hr7 hB7 hK7 hA7 c2 g2 k3 hz7 hz8 hr7' hB7' hA7' hF7 hc8 H1 H2 H3 H4 HO HOV HKL HEK
  obtain ⟨y, E⟩ := Y
  simp only at hok hB8 ht8 hr8
  by_cases hE0 : E = 0
  · subst hE0
    obtain ⟨ta, tn, tc, rfl⟩ := ht8.slice
    obtain ⟨ra, rn, rc, rfl⟩ := hr8.slice
    have hpc := Put_c y _ w8 hE8 ⟨_, _, rfl, ht8, hr8⟩ hok
    generalize hPQ : y.put = PQ at hpc
    obtain ⟨P1, P2⟩ := PQ
    unfold Ev.val at hpc
    simp only at hpc
    have HPC := Lib.hid hpc
    have HPQ := Lib.hid hPQ
    clear hpc hPQ
    go_wp2_with ((with_reducible refine wpList_here (.load 32 (.tmp 5)) rfl ?_); refine wpList_load_box 32 (.tmp 5) rfl _ rfl _ hB8 _ Tryd.underlying32 rfl Tryd.infoEv rfl ?_)
    refine HPC.out.mono ?_
    rintro e w9 ⟨rfl, hb9⟩
    have hB9 := hB8.fr hb9
    have hZ9 := hZ8.fr hb9
    have hF9 := hF8.trans hb9
    have ht9 := ht8.keep hb9
    have hr9 := hr8.keep hb9
    have HB9 := Lib.hid hb9
    have hz10 := hB9.lt
    have hz11 := hZ9.lt
    clear hB8 hZ8 hF8 ht8 hr8 hb9 hA8 hE8 HPC hz9 hz0
    by_cases hp2' : P2 = 0
    · subst hp2'
      by_cases hps : P1 = s
      · subst hps
        have hT : endEv P1 (y, 0) = (y, 0) := by unfold endEv; rw [if_neg (by simp), if_pos HPQ.out]
        have hP : ∀ w2, Relaid w.heap.size (y.cells (.slice ta tn tc) (.slice ra rn rc)) 32 w9 w2 → Fr w w2 → TookEv w (endEv P1 (y, 0)) (.returned (.tuple #[.agg (y.cells (.slice ta tn tc) (.slice ra rn rc)), .int .i64 0])) w2 := fun w2 hR hf2 => by
          rw [hT]
          obtain ⟨h1, h2⟩ := hS7.out w2 (by rw [hR.size]; exact HB9.out.size) fun k h1 h2 => (hR.other k (by simp at h1; omega)).trans (HB9.out.block h2)
          exact ⟨_, _, rfl, h1, h2, hf2⟩
        have HP := Lib.hid hP
        clear hP hT ht9 hr9
        go_wp2_with (first | ((with_reducible refine wpList_here (.load 32 (.tmp 5)) rfl ?_); refine wpList_load_box 32 (.tmp 5) rfl _ rfl _ hB9 _ Tryd.underlying32 rfl Tryd.infoEv rfl ?_) | ((with_reducible refine wpList_here (.store 32 (.tmp 2) (.tmp 59)) rfl ?_); refine wpList_store_old 32 (.tmp 2) (.tmp 59) rfl w.heap.size _ _ rfl rfl hZ9 Tryd.infoEv rfl (Ev.oneCell y ta ra tn tc rn rc) rfl rfl ?_; rintro wz hR; have hBz := hR.box; have hFz := hR.fr hF9 (Nat.le_refl _)))
        exact bodyPost_ret (v := .tuple #[.agg (y.cells (.slice ta tn tc) (.slice ra rn rc)), .int .i64 0]) (results_ev2 rfl _ _ w.heap.size _ _ rfl rfl hBz rfl) rfl (HP.out _ hR hFz)
      · have hT : endEv s (y, 0) = (.zero, 4) := by unfold endEv; rw [if_neg (by simp), if_neg (by rw [HPQ.out]; intro e; exact hps (congrArg Prod.fst e))]
        have hP : ∀ w2, Fr w w2 → TookEv w (endEv s (y, 0)) (.returned (.tuple #[.agg (Ev.zero.cells nil0 nil0), .int .i64 4])) w2 := fun w2 hf => by rw [hT]; exact ⟨nil0, nil0, rfl, RdM.nil _, RdR.nil _, hf⟩
        have HP := Lib.hid hP
        have hpb : (P1 == s) = false := by simp [hps]
        clear hP hT ht9 hr9 hps
        go_wp2_with ((with_reducible refine wpList_here (.store 32 (.tmp 2) (.tmp 58)) rfl ?_); refine wpList_store_old 32 (.tmp 2) (.tmp 58) rfl w.heap.size _ _ rfl rfl hZ9 Tryd.infoEv rfl zero_oneCell rfl rfl ?_; rintro wz hR; have hBz := hR.box; have hFz := hR.fr hF9 (Nat.le_refl _))
        exact bodyPost_ret (v := .tuple #[.agg (Ev.zero.cells nil0 nil0), .int .i64 4]) (results_ev2 rfl _ _ w.heap.size _ _ rfl rfl hBz rfl) rfl (HP.out _ hFz)
    · have he2 : ((P2 : Int) != 0) = true := by simp; omega
      have hT : endEv s (y, 0) = (.zero, 4) := by unfold endEv; rw [if_neg (by simp), if_neg (by rw [HPQ.out]; intro e; exact hp2' (congrArg Prod.snd e))]
      have hP : ∀ w2, Fr w w2 → TookEv w (endEv s (y, 0)) (.returned (.tuple #[.agg (Ev.zero.cells nil0 nil0), .int .i64 4])) w2 := fun w2 hf => by rw [hT]; exact ⟨nil0, nil0, rfl, RdM.nil _, RdR.nil _, hf⟩
      have HP := Lib.hid hP
      clear hP hT ht9 hr9 hp2'
      go_wp2_with ((with_reducible refine wpList_here (.store 32 (.tmp 2) (.tmp 58)) rfl ?_); refine wpList_store_old 32 (.tmp 2) (.tmp 58) rfl w.heap.size _ _ rfl rfl hZ9 Tryd.infoEv rfl zero_oneCell rfl rfl ?_; rintro wz hR; have hBz := hR.box; have hFz := hR.fr hF9 (Nat.le_refl _))
      exact bodyPost_ret (v := .tuple #[.agg (Ev.zero.cells nil0 nil0), .int .i64 4]) (results_ev2 rfl _ _ w.heap.size _ _ rfl rfl hBz rfl) rfl (HP.out _ hFz)
  · have he2 : ((E : Int) != 0) = true := by simp; omega
    have hT : endEv s (y, E) = (.zero, E) := by unfold endEv; rw [if_pos hE0]
    have hP : ∀ w2, Fr w w2 → TookEv w (endEv s (y, E)) (.returned (.tuple #[.agg (Ev.zero.cells nil0 nil0), .int .i64 E])) w2 := fun w2 hf => by rw [hT]; exact ⟨nil0, nil0, rfl, RdM.nil _, RdR.nil _, hf⟩
    have HP := Lib.hid hP
    clear hP hT hE0 ht8 hr8 hok hE8
    go_wp2_with ((with_reducible refine wpList_here (.store 32 (.tmp 2) (.tmp 44)) rfl ?_); refine wpList_store_old 32 (.tmp 2) (.tmp 44) rfl w.heap.size _ _ rfl rfl hZ8 Tryd.infoEv rfl zero_oneCell rfl rfl ?_; rintro wz hR; have hBz := hR.box; have hFz := hR.fr hF8 (Nat.le_refl _))
    exact bodyPost_ret (v := .tuple #[.agg (Ev.zero.cells nil0 nil0), .int .i64 E]) (results_ev2 rfl _ _ w.heap.size _ _ rfl rfl hBz rfl) rfl (HP.out _ hFz)
set_option maxRecDepth 100000 in
set_option maxHeartbeats 4000000 in
theorem evTake_cfg (k q0 q1 q2 q3 : Nat) (kk : UInt8) (s' s : List UInt8) (w : World) (hs' : s = kk :: s') (hE : Env w) (hkk : kk.toNat = k) (h1 : 1 ≤ k) (h7 : k ≤ 7) (hne : k = 1) (hs : s.length < 1000000)
    (hq : evKind k = #[.func (.func q0) #[] #[], .func (.func q1) #[] #[], .func (.func q2) #[] #[], .func (.func q3) #[] #[]]) (hf : IsFn q3) (htk : TakesK q3 k s) :
    Calls Tryd.prog 16 #[.string ⟨s.toArray⟩] w (TookEv w (endEv s (rdEv k s))) := by
  unfold rdEv
  rw [if_pos hne]
  have hok : (rdBody { Ev.zero with kind := k } 0 s 1).1.Ok := rdBody_ok _ _ _ _ { zero_ok with kind := (by simp only; omega) }
  have H4 := Lib.hid (fun W p q h1 h2 h3 h4 h5 h6 => htk W p q 0 1 { Ev.zero with kind := k } rfl rfl rfl rfl h1 h2 h3 h4 h5 h6)
  generalize rdBody { Ev.zero with kind := k } 0 s 1 = Y at hok H4 ⊢
  have HOV := Lib.hid (fun W => Over_c s W (by omega))
  have h1' := fun p W h => rU8_c p 0 0 s W h
  have hfirst : rdRaw 0 s 0 1 = ([kk], 0, 1) := by rw [hs']; exact rdRaw_first kk s'
  rw [hfirst, ofBe_single, hkk] at h1'
  have H1 := Lib.hid h1'
  have hof := fun W => of_yes k W h1 h7
  rw [hq] at hof
  have HO := Lib.hid hof
  have hk1 : ((k : Int) != 1) = false := by simp; omega
  have hstr : s.isEmpty = false := by rw [hs']; rfl
  unfold IsFn at hf
  have HKL := Lib.hid (fun (W : World) (f : Fr w W) (p : Nat) (hp : w.heap.size ≤ p) => Fr.kindsLt hE f hp)
  have HEK := Lib.hid (fun (W : World) (f : Fr w W) => hE.keep f)
  have HX := Lib.hid hs'
  clear h1' hfirst hof hq hne hkk htk hE hs'
  go_enter Tryd.func16, Tryd.ntmps16
  go_wp2_with fail
  refine (HOV.out _).mono ?_
  rintro e w1 ⟨p, rfl, hr1, hf1, hp⟩
  go_wp2_with fail
  refine (H1.out p _ hr1).mono ?_
  rintro e w2 ⟨rfl, hr2, hch2⟩
  have hA2 : Fr (w.alloc (.cells (Ev.zero.cells nil0 nil0) 32)) w2 := Chp.fr hf1 hch2 hp
  have hp' : w.heap.size < p := by simp at hp; omega
  have hpq : w2.heap.size ≠ p := by have := hr2.lt; omega
  have hp2 : p < w2.heap.size := hr2.lt
  have hwq : w.heap.size < w2.heap.size := by omega
  clear hr1 hf1 hch2
  go_wp2_with ((with_reducible refine wpList_here (.store 32 (.tmp 5) (.tmp 18)) rfl ?_); refine wpList_store_new 32 (.tmp 5) (.tmp 18) rfl _ _ _ rfl rfl rfl Tryd.infoEv rfl (Ev.oneCell { Ev.zero with kind := k } none none 0 0 0 0) rfl rfl ?_)
  have hB3 := BoxAt.new w2 (({ Ev.zero with kind := k } : Ev).cells nil0 nil0) 32
  have hr3 := hr2.keep ((Fr.refl w2).alloc (.cells (({ Ev.zero with kind := k } : Ev).cells nil0 nil0) 32))
  have hA3 := hA2.alloc (.cells (({ Ev.zero with kind := k } : Ev).cells nil0 nil0) 32)
  refine (HO.out _).mono ?_
  rintro e w4 ⟨rfl, hb4⟩
  have hB4 := hB3.fr hb4
  have hr4 := hr3.keep hb4
  have hA4 := hA3.trans hb4
  have hz4 := hB4.lt
  clear hr2 hA2 hB3 hr3 hA3 hb4
  have d0 : (w4.alloc (.cells #[.func (.func q0) #[] #[], .func (.func q1) #[] #[], .func (.func q2) #[] #[], .func (.func q3) #[] #[]] 67)).cell? ⟨w2.heap.size, 0, none⟩ = some (.int .u8 k) := (hB4.alloc _).at 0 rfl
  go_wp2_with ((with_reducible refine wpList_here (.store 67 (.tmp 6) (.tmp 23)) rfl ?_); refine wpList_store_new 67 (.tmp 6) (.tmp 23) rfl _ _ _ rfl rfl rfl Tryd.info67 rfl rfl rfl rfl ?_)
  have hK5 := BoxAt.new w4 #[.func (.func q0) #[] #[], .func (.func q1) #[] #[], .func (.func q2) #[] #[], .func (.func q3) #[] #[]] 67
  have hB5 := hB4.alloc (.cells #[.func (.func q0) #[] #[], .func (.func q1) #[] #[], .func (.func q2) #[] #[], .func (.func q3) #[] #[]] 67)
  have hr5 := hr4.keep ((Fr.refl w4).alloc (.cells #[.func (.func q0) #[] #[], .func (.func q1) #[] #[], .func (.func q2) #[] #[], .func (.func q3) #[] #[]] 67))
  have hA5 := hA4.alloc (.cells #[.func (.func q0) #[] #[], .func (.func q1) #[] #[], .func (.func q2) #[] #[], .func (.func q3) #[] #[]] 67)
  clear hB4 hr4 hA4 d0
  have hF7 : Fr w (w4.alloc (.cells #[.func (.func q0) #[] #[], .func (.func q1) #[] #[], .func (.func q2) #[] #[], .func (.func q3) #[] #[]] 67)) := ((Fr.refl w).alloc _).trans hA5
  have hwz : w.heap.size < w4.heap.size := by omega
  refine (H4.out _ p w2.heap.size (HEK.out _ hF7) (HKL.out _ hF7 p (by omega)) (HKL.out _ hF7 w2.heap.size (by omega)) hpq hr5 hB5).mono ?_
  rintro e w8 ⟨rfl, t, r, hB8, hst8, hc8⟩
  obtain ⟨ht8, hr8⟩ := hst8 w8 (Nat.le_refl _) fun _ _ _ => rfl
  have hS7 := Lib.hid hst8
  clear hst8
  have hA8 := Ch2.fr hA5 hc8 hp (by simp; omega)
  have hZ8 := (BoxAt.new w (Ev.zero.cells nil0 nil0) 32).fr hA8
  have hF8 : Fr w w8 := ((Fr.refl w).alloc _).trans hA8
  have hE8 := HEK.out _ hF8
  have hz9 := hB8.lt
  have hz0 := hZ8.lt
  clear hK5 hB5 hr5 hA5 hF7 hc8 H1 H4 HO HOV HKL HEK
  obtain ⟨y, E⟩ := Y
  simp only at hok hB8 ht8 hr8
  by_cases hE0 : E = 0
  · subst hE0
    obtain ⟨ta, tn, tc, rfl⟩ := ht8.slice
    obtain ⟨ra, rn, rc, rfl⟩ := hr8.slice
    have hpc := Put_c y _ w8 hE8 ⟨_, _, rfl, ht8, hr8⟩ hok
    generalize hPQ : y.put = PQ at hpc
    obtain ⟨P1, P2⟩ := PQ
    unfold Ev.val at hpc
    simp only at hpc
    have HPC := Lib.hid hpc
    have HPQ := Lib.hid hPQ
    clear hpc hPQ
    go_wp2_with ((with_reducible refine wpList_here (.load 32 (.tmp 5)) rfl ?_); refine wpList_load_box 32 (.tmp 5) rfl _ rfl _ hB8 _ Tryd.underlying32 rfl Tryd.infoEv rfl ?_)
    refine HPC.out.mono ?_
    rintro e w9 ⟨rfl, hb9⟩
    have hB9 := hB8.fr hb9
    have hZ9 := hZ8.fr hb9
    have hF9 := hF8.trans hb9
    have ht9 := ht8.keep hb9
    have hr9 := hr8.keep hb9
    have HB9 := Lib.hid hb9
    have hz10 := hB9.lt
    have hz11 := hZ9.lt
    clear hB8 hZ8 hF8 ht8 hr8 hb9 hA8 hE8 HPC hz9 hz0
    by_cases hp2' : P2 = 0
    · subst hp2'
      by_cases hps : P1 = s
      · subst hps
        have hT : endEv P1 (y, 0) = (y, 0) := by unfold endEv; rw [if_neg (by simp), if_pos HPQ.out]
        have hP : ∀ w2, Relaid w.heap.size (y.cells (.slice ta tn tc) (.slice ra rn rc)) 32 w9 w2 → Fr w w2 → TookEv w (endEv P1 (y, 0)) (.returned (.tuple #[.agg (y.cells (.slice ta tn tc) (.slice ra rn rc)), .int .i64 0])) w2 := fun w2 hR hf2 => by
          rw [hT]
          obtain ⟨h1, h2⟩ := hS7.out w2 (by rw [hR.size]; exact HB9.out.size) fun k h1 h2 => (hR.other k (by simp at h1; omega)).trans (HB9.out.block h2)
          exact ⟨_, _, rfl, h1, h2, hf2⟩
        have HP := Lib.hid hP
        clear hP hT ht9 hr9
        go_wp2_with (first | ((with_reducible refine wpList_here (.load 32 (.tmp 5)) rfl ?_); refine wpList_load_box 32 (.tmp 5) rfl _ rfl _ hB9 _ Tryd.underlying32 rfl Tryd.infoEv rfl ?_) | ((with_reducible refine wpList_here (.store 32 (.tmp 2) (.tmp 59)) rfl ?_); refine wpList_store_old 32 (.tmp 2) (.tmp 59) rfl w.heap.size _ _ rfl rfl hZ9 Tryd.infoEv rfl (Ev.oneCell y ta ra tn tc rn rc) rfl rfl ?_; rintro wz hR; have hBz := hR.box; have hFz := hR.fr hF9 (Nat.le_refl _)))
        exact bodyPost_ret (v := .tuple #[.agg (y.cells (.slice ta tn tc) (.slice ra rn rc)), .int .i64 0]) (results_ev2 rfl _ _ w.heap.size _ _ rfl rfl hBz rfl) rfl (HP.out _ hR hFz)
      · have hT : endEv s (y, 0) = (.zero, 4) := by unfold endEv; rw [if_neg (by simp), if_neg (by rw [HPQ.out]; intro e; exact hps (congrArg Prod.fst e))]
        have hP : ∀ w2, Fr w w2 → TookEv w (endEv s (y, 0)) (.returned (.tuple #[.agg (Ev.zero.cells nil0 nil0), .int .i64 4])) w2 := fun w2 hf => by rw [hT]; exact ⟨nil0, nil0, rfl, RdM.nil _, RdR.nil _, hf⟩
        have HP := Lib.hid hP
        have hpb : (P1 == s) = false := by simp [hps]
        clear hP hT ht9 hr9 hps
        go_wp2_with ((with_reducible refine wpList_here (.store 32 (.tmp 2) (.tmp 58)) rfl ?_); refine wpList_store_old 32 (.tmp 2) (.tmp 58) rfl w.heap.size _ _ rfl rfl hZ9 Tryd.infoEv rfl zero_oneCell rfl rfl ?_; rintro wz hR; have hBz := hR.box; have hFz := hR.fr hF9 (Nat.le_refl _))
        exact bodyPost_ret (v := .tuple #[.agg (Ev.zero.cells nil0 nil0), .int .i64 4]) (results_ev2 rfl _ _ w.heap.size _ _ rfl rfl hBz rfl) rfl (HP.out _ hFz)
    · have he2 : ((P2 : Int) != 0) = true := by simp; omega
      have hT : endEv s (y, 0) = (.zero, 4) := by unfold endEv; rw [if_neg (by simp), if_neg (by rw [HPQ.out]; intro e; exact hp2' (congrArg Prod.snd e))]
      have hP : ∀ w2, Fr w w2 → TookEv w (endEv s (y, 0)) (.returned (.tuple #[.agg (Ev.zero.cells nil0 nil0), .int .i64 4])) w2 := fun w2 hf => by rw [hT]; exact ⟨nil0, nil0, rfl, RdM.nil _, RdR.nil _, hf⟩
      have HP := Lib.hid hP
      clear hP hT ht9 hr9 hp2'
      go_wp2_with ((with_reducible refine wpList_here (.store 32 (.tmp 2) (.tmp 58)) rfl ?_); refine wpList_store_old 32 (.tmp 2) (.tmp 58) rfl w.heap.size _ _ rfl rfl hZ9 Tryd.infoEv rfl zero_oneCell rfl rfl ?_; rintro wz hR; have hBz := hR.box; have hFz := hR.fr hF9 (Nat.le_refl _))
      exact bodyPost_ret (v := .tuple #[.agg (Ev.zero.cells nil0 nil0), .int .i64 4]) (results_ev2 rfl _ _ w.heap.size _ _ rfl rfl hBz rfl) rfl (HP.out _ hFz)
  · have he2 : ((E : Int) != 0) = true := by simp; omega
    have hT : endEv s (y, E) = (.zero, E) := by unfold endEv; rw [if_pos hE0]
    have hP : ∀ w2, Fr w w2 → TookEv w (endEv s (y, E)) (.returned (.tuple #[.agg (Ev.zero.cells nil0 nil0), .int .i64 E])) w2 := fun w2 hf => by rw [hT]; exact ⟨nil0, nil0, rfl, RdM.nil _, RdR.nil _, hf⟩
    have HP := Lib.hid hP
    clear hP hT hE0 ht8 hr8 hok hE8
    go_wp2_with ((with_reducible refine wpList_here (.store 32 (.tmp 2) (.tmp 44)) rfl ?_); refine wpList_store_old 32 (.tmp 2) (.tmp 44) rfl w.heap.size _ _ rfl rfl hZ8 Tryd.infoEv rfl zero_oneCell rfl rfl ?_; rintro wz hR; have hBz := hR.box; have hFz := hR.fr hF8 (Nat.le_refl _))
    exact bodyPost_ret (v := .tuple #[.agg (Ev.zero.cells nil0 nil0), .int .i64 E]) (results_ev2 rfl _ _ w.heap.size _ _ rfl rfl hBz rfl) rfl (HP.out _ hFz)
end Go.Proofs.YtgbaanioppblhaaDoor

/- event.Take of any bytes. No condition but the bytes' length and the tables' content. -/
namespace Go.Proofs.YtgbaanioppblhaaDoor
open Go.RowKit

theorem takeEv_cons (kk : UInt8) (s : List UInt8) (h : ¬ (kk.toNat < 1 ∨ 7 < kk.toNat)) : takeEv (kk :: s) = endEv (kk :: s) (rdEv kk.toNat (kk :: s)) := if_neg h
theorem evTake_c (s : List UInt8) (w : World) (hE : Env w) (hs : s.length < 1000000) : Calls Tryd.prog 16 #[.string ⟨s.toArray⟩] w (TookEv w (takeEv s)) := by
  cases s with
  | nil => exact evTake_nil w
  | cons kk s =>
    by_cases hb : kk.toNat < 1 ∨ 7 < kk.toNat
    · exact evTake_kind kk s w hb hs
    · rw [takeEv_cons kk s hb]
      rcases (show kk.toNat = 1 ∨ kk.toNat = 2 ∨ kk.toNat = 3 ∨ kk.toNat = 4 ∨ kk.toNat = 5 ∨ kk.toNat = 6 ∨ kk.toNat = 7 by omega) with h | h | h | h | h | h | h
      · rw [h]
        exact evTake_cfg 1 _ _ _ _ kk s _ w rfl hE h (by omega) (by omega) rfl hs rfl (isFn Tryd.func59 (by kernel_rfl) rfl) fun W p q e at_ x hk ht hr hop hE hp hq hpq hrd hB => by
          rw [show rdBody x e (kk :: s) at_ = ({ x with cfg := (rdCfg e (kk :: s) at_).1 }, (rdCfg e (kk :: s) at_).2.1) by simp [rdBody, hk]]
          exact takeConfig_c p q e at_ _ x W hrd hB hpq ht hr
      · rw [h]
        exact evTake_main 2 _ _ _ _ kk s _ w rfl hE h (by omega) (by omega) (by omega) hs rfl (isFn Tryd.func63 (by kernel_rfl) rfl) fun W p q e at_ x hk ht hr hop hE hp hq hpq hrd hB => by
          rw [show rdBody x e (kk :: s) at_ = ({ x with op := (rdOp e (kk :: s) at_).1 }, (rdOp e (kk :: s) at_).2) by simp [rdBody, hk]]
          exact takeOp_c p q e at_ _ x W hE hq hp hrd hs hB hpq hop ht hr
      · rw [h]
        exact evTake_main 3 _ _ _ _ kk s _ w rfl hE h (by omega) (by omega) (by omega) hs rfl (isFn Tryd.func67 (by kernel_rfl) rfl) fun W p q e at_ x hk ht hr hop hE hp hq hpq hrd hB => by
          rw [show rdBody x e (kk :: s) at_ = ({ x with rk := (takeRes e (kk :: s) at_).1.1, rv := (takeRes e (kk :: s) at_).1.2.1 }, (takeRes e (kk :: s) at_).1.2.2) by simp [rdBody, hk]]
          exact takeResult_c p q e at_ _ x W hrd hB hpq ht hr
      · rw [h]
        exact evTake_main 4 _ _ _ _ kk s _ w rfl hE h (by omega) (by omega) (by omega) hs rfl (isFn Tryd.func71 (by kernel_rfl) rfl) fun W p q e at_ x hk ht hr hop hE hp hq hpq hrd hB => by
          rw [show rdBody x e (kk :: s) at_ = (x, e) by simp [rdBody, hk]]
          exact pass_c p q e at_ _ x W hrd hB ht hr
      · rw [h]
        exact evTake_main 5 _ _ _ _ kk s _ w rfl hE h (by omega) (by omega) (by omega) hs rfl (isFn Tryd.func75 (by kernel_rfl) rfl) fun W p q e at_ x hk ht hr hop hE hp hq hpq hrd hB => by
          rw [show rdBody x e (kk :: s) at_ = ({ x with txn := (rdTxn e (kk :: s) at_).1 }, (rdTxn e (kk :: s) at_).2.1) by simp [rdBody, hk]]
          exact takeTxn_c p q e at_ _ x W hrd hB hpq ht hr
      · rw [h]
        exact evTake_main 6 _ _ _ _ kk s _ w rfl hE h (by omega) (by omega) (by omega) hs rfl (isFn Tryd.func79 (by kernel_rfl) rfl) fun W p q e at_ x hk ht hr hop hE hp hq hpq hrd hB => by
          rw [show rdBody x e (kk :: s) at_ = ({ x with reads := (rdReads e (kk :: s) at_).1 }, (rdReads e (kk :: s) at_).2.1) by simp [rdBody, hk]]
          exact takeReads_c p q e at_ _ x W hrd hB hpq ht hr
      · rw [h]
        exact evTake_main 7 _ _ _ _ kk s _ w rfl hE h (by omega) (by omega) (by omega) hs rfl (isFn Tryd.func71 (by kernel_rfl) rfl) fun W p q e at_ x hk ht hr hop hE hp hq hpq hrd hB => by
          rw [show rdBody x e (kk :: s) at_ = (x, e) by simp [rdBody, hk]]
          exact pass_c p q e at_ _ x W hrd hB ht hr
end Go.Proofs.YtgbaanioppblhaaDoor
