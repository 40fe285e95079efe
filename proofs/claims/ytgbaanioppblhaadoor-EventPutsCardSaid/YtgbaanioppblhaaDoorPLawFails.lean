/- umpirelaw05.fails, puts, config, awake, where they answer yes. No condition but the tables' content. -/
import Derived.Test.YtgbaanioppblhaaDoorPRefTakeF
import Derived.Test.YtgbaanioppblhaaDoorPEvLaw2
import Derived.Test.YtgbaanioppblhaaDoorPRefMay
import Derived.Test.YtgbaanioppblhaaDoorPArms
import Derived.Test.YtgbaanioppblhaaDoorPRefPutB
set_option linter.all false
set_option linter.unusedVariables false
set_option linter.unusedSimpArgs false
set_option linter.unnecessarySimpa false
/- umpirelaw05.fails, puts, config, awake, where they answer yes. No condition but the tables' content. -/
namespace Go.Proofs.YtgbaanioppblhaaDoor
open Go.RowKit

set_option maxRecDepth 100000 in
set_option maxHeartbeats 1000000 in
theorem lFails_yes (s : List UInt8) (want : Nat) (w : World) (hE : Env w) (hs : s.length < 1000000) (h : takeEv s = (.zero, want)) :
    Calls Tryd.prog 19 #[.string ⟨s.toArray⟩, .int .i64 want] w fun e w' => e = .returned (.bool true) ∧ Fr w w' := by
  have ht := evTake_c s w hE hs
  obtain ⟨y, E, hYE, hy, he⟩ : ∃ y E, takeEv s = (y, E) ∧ y = .zero ∧ E = want := ⟨_, _, h, rfl, rfl⟩
  rw [hYE] at ht
  subst he
  have HY := Lib.hid (decide_eq_true hy)
  have HT := Lib.hid ht
  clear ht hy hYE h hs
  go_enter Tryd.func19, Tryd.ntmps19
  go_wp2_with fail
  refine HT.out.mono ?_
  rintro e w1 ⟨t, r, rfl, ht1, hr1, hb1⟩
  obtain ⟨ta, tn, tc, rfl⟩ := ht1.slice
  obtain ⟨ra, rn, rc, rfl⟩ := hr1.slice
  have hB := BoxAt.new w1 (y.cells (.slice ta tn tc) (.slice ra rn rc)) 32
  have hf1 : Fr w1 (w1.alloc (.cells (y.cells (.slice ta tn tc) (.slice ra rn rc)) 32)) := (Fr.refl w1).alloc _
  have hsm' := (same_c (y.val (.slice ta tn tc) (.slice ra rn rc)) (Ev.zero.val nil0 nil0) y .zero _ ⟨_, _, rfl, ht1.keep hf1, hr1.keep hf1⟩ ⟨nil0, nil0, rfl, RdM.nil _, RdR.nil _⟩)
  rw [HY.out] at hsm'
  have hf2 := hb1.trans hf1
  unfold Ev.val at hsm' ⊢
  have hsm := Lib.hid hsm'
  clear ht1 hr1 hsm'
  go_wp2_with (first | ((with_reducible refine wpList_here (.store 32 (.tmp 5) (.tmp 10)) rfl ?_); refine wpList_store_new 32 (.tmp 5) (.tmp 10) rfl _ _ _ rfl rfl rfl Tryd.infoEv rfl (Ev.oneCell y ta ra tn tc rn rc) rfl rfl ?_) | ((with_reducible refine wpList_here (.load 32 (.tmp 5)) rfl ?_); refine wpList_load_box 32 (.tmp 5) rfl _ rfl _ hB _ Tryd.underlying32 rfl Tryd.infoEv rfl ?_))
  refine hsm.out.mono ?_
  rintro e w2 ⟨rfl, hb2⟩
  have hf3 := hf2.trans hb2
  go_wp2_with fail
  go_ret
  exact ⟨rfl, hf3⟩

set_option maxRecDepth 100000 in
set_option maxHeartbeats 1000000 in
theorem lPuts_yes (x : Ev) (v : Value) (s : List UInt8) (w : World) (hE : Env w) (hx : EvAt w v x) (ok : x.Ok) (hm : x.may = true) (hs : s = x.bytes) :
    Calls Tryd.prog 18 #[v, .string ⟨s.toArray⟩] w fun e w' => e = .returned (.bool true) ∧ Fr w w' := by
  obtain ⟨⟨t, r, rfl, ht, hr⟩⟩ := hx
  obtain ⟨ta, tn, tc, rfl⟩ := ht.slice
  obtain ⟨ra, rn, rc, rfl⟩ := hr.slice
  have hpc := fun W (f : Fr w W) => Put_c x (x.val (.slice ta tn tc) (.slice ra rn rc)) W (hE.keep f) ⟨_, _, rfl, ht.keep f, hr.keep f⟩ ok
  have hcc := fun W (f : Fr w W) => Check_c x (x.val (.slice ta tn tc) (.slice ra rn rc)) W (hE.keep f) ⟨_, _, rfl, ht.keep f, hr.keep f⟩ ok
  have htc := fun W (f : Fr w W) => evTake_c s W (hE.keep f) (by have := (bytes_len hm).2; rw [hs]; omega)
  have hsc := fun W (f : Fr w W) (t2 r2 : Value) (h1 : RdM W t2 x.txn) (h2 : RdR W r2 x.reads) => same_c (x.val (.slice ta tn tc) (.slice ra rn rc)) (x.val t2 r2) x x W ⟨_, _, rfl, ht.keep f, hr.keep f⟩ ⟨_, _, rfl, h1, h2⟩
  rw [put_of hm, ← hs] at hpc
  rw [check_of hm] at hcc
  rw [hs, takeEv_bytes x ok hm, ← hs] at htc
  rw [decide_eq_true rfl] at hsc
  unfold Ev.val at hpc hcc hsc ⊢
  have HP := Lib.hid hpc
  have HC := Lib.hid hcc
  have HT := Lib.hid htc
  have HS := Lib.hid hsc
  have hB := BoxAt.new w (x.cells (.slice ta tn tc) (.slice ra rn rc)) 32
  have hf0 : Fr w (w.alloc (.cells (x.cells (.slice ta tn tc) (.slice ra rn rc)) 32)) := (Fr.refl w).alloc _
  clear hpc hcc htc hsc ht hr hE ok hm hs
  go_enter Tryd.func18, Tryd.ntmps18
  go_wp2_with ((with_reducible refine wpList_here (.load 32 (.tmp 2)) rfl ?_); refine wpList_load_box 32 (.tmp 2) rfl _ rfl _ hB _ Tryd.underlying32 rfl Tryd.infoEv rfl ?_)
  refine (HP.out _ hf0).mono ?_
  rintro e w1 ⟨rfl, hb1⟩
  have hf1 := hf0.trans hb1
  have hB1 := hB.fr hb1
  go_wp2_with fail
  refine (HT.out _ hf1).mono ?_
  rintro e w2 ⟨t2, r2, rfl, ht2, hr2, hb2⟩
  obtain ⟨ta2, tn2, tc2, rfl⟩ := ht2.slice
  obtain ⟨ra2, rn2, rc2, rfl⟩ := hr2.slice
  have hf2 := hf1.trans hb2
  have hB2 := (hB1.fr hb2).alloc (.cells (x.cells (.slice ta2 tn2 tc2) (.slice ra2 rn2 rc2)) 32)
  have hz := hB2.lt
  have hB3 := BoxAt.new w2 (x.cells (.slice ta2 tn2 tc2) (.slice ra2 rn2 rc2)) 32
  have hf3 := hf2.alloc (.cells (x.cells (.slice ta2 tn2 tc2) (.slice ra2 rn2 rc2)) 32)
  have hg : Fr w2 (w2.alloc (.cells (x.cells (.slice ta2 tn2 tc2) (.slice ra2 rn2 rc2)) 32)) := (Fr.refl w2).alloc _
  have hsm' := HS.out _ hf3 _ _ (ht2.keep hg) (hr2.keep hg)
  have hsm := Lib.hid hsm'
  unfold Ev.val
  clear hsm' ht2 hr2
  go_wp2_with (first | ((with_reducible refine wpList_here (.store 32 (.tmp 7) (.tmp 17)) rfl ?_); refine wpList_store_new 32 (.tmp 7) (.tmp 17) rfl _ _ _ rfl rfl rfl Tryd.infoEv rfl (Ev.oneCell x ta2 ra2 tn2 tc2 rn2 rc2) rfl rfl ?_) | ((with_reducible refine wpList_here (.load 32 (.tmp 2)) rfl ?_); refine wpList_load_box 32 (.tmp 2) rfl _ rfl _ hB2 _ Tryd.underlying32 rfl Tryd.infoEv rfl ?_) | ((with_reducible refine wpList_here (.load 32 (.tmp 7)) rfl ?_); refine wpList_load_box 32 (.tmp 7) rfl _ rfl _ hB3 _ Tryd.underlying32 rfl Tryd.infoEv rfl ?_))
  refine hsm.out.mono ?_
  rintro e w3 ⟨rfl, hb3⟩
  have hf4 := hf3.trans hb3
  have hB4 := hB2.fr hb3
  go_wp2_with ((with_reducible refine wpList_here (.load 32 (.tmp 2)) rfl ?_); refine wpList_load_box 32 (.tmp 2) rfl _ rfl _ hB4 _ Tryd.underlying32 rfl Tryd.infoEv rfl ?_)
  refine (HC.out _ hf4).mono ?_
  rintro e w4 ⟨rfl, hb4⟩
  have hf5 := hf4.trans hb4
  go_wp2_with fail
  go_ret
  exact ⟨rfl, hf5⟩
end Go.Proofs.YtgbaanioppblhaaDoor

/- umpirelaw05.config, awake, few. No condition but the tables' content. -/
namespace Go.Proofs.YtgbaanioppblhaaDoor
open Go.RowKit

def cfgEv : Ev := { Ev.zero with kind := 1, cfg := ⟨2, 8, 100, 1000, true, false, true⟩ }
theorem cfgEv_ok : cfgEv.Ok := by constructor <;> simp [cfgEv, Ev.zero, OpD.zero, Cfg.zero]
def infoEv : Ev := { Ev.zero with kind := 4, client := 3, id := 258 }
theorem infoEv_ok : infoEv.Ok := by constructor <;> simp [infoEv, Ev.zero, OpD.zero, Cfg.zero]
set_option maxRecDepth 100000 in
theorem lConfig_c (w : World) : Calls Tryd.prog 20 #[] w fun e w' => e = .returned (cfgEv.val nil0 nil0) ∧ Fr w w' := by
  go_enter Tryd.func20, Tryd.ntmps20
  go_wp2_with ((with_reducible refine wpList_here (.store 32 (.tmp 0) (.tmp 2)) rfl ?_); refine wpList_store_new 32 (.tmp 0) (.tmp 2) rfl _ (cfgEv.cells nil0 nil0) _ rfl rfl rfl Tryd.infoEv rfl (Ev.oneCell cfgEv none none 0 0 0 0) rfl rfl ?_)
  exact bodyPost_ret (v := cfgEv.val nil0 nil0) (results_cell_row rfl _ _ w.heap.size _ _ (0, 0) _ rfl (heap_alloc_last w _) Tryd.underlying32 rfl Tryd.infoEv) rfl ⟨rfl, (Fr.refl w).alloc _⟩

set_option maxRecDepth 100000 in
set_option maxHeartbeats 1000000 in
theorem awake_c (w : World) (hE : Env w) : Calls Tryd.prog 9 #[] w fun e w' => e = .returned (.bool true) ∧ Fr w w' := by
  have h1 := fun W (f : Fr w W) => lPuts_yes cfgEv (cfgEv.val nil0 nil0) [1, 2, 5, 8, 0, 100, 0, 0, 3, 232] W (hE.keep f) ⟨nil0, nil0, rfl, RdM.nil _, RdR.nil _⟩ cfgEv_ok (by decide) (by decide)
  have h2 := fun W (f : Fr w W) => lPuts_yes infoEv (infoEv.val nil0 nil0) [4, 3, 1, 2] W (hE.keep f) ⟨nil0, nil0, rfl, RdM.nil _, RdR.nil _⟩ infoEv_ok (by decide) (by decide)
  have h3 := fun W (f : Fr w W) => lFails_yes [] 5 W (hE.keep f) (by decide) (by decide)
  have h4 := fun W (f : Fr w W) => lFails_yes [8] 4 W (hE.keep f) (by decide) (by decide)
  have H1 := Lib.hid h1
  have H2 := Lib.hid h2
  have H3 := Lib.hid h3
  have H4 := Lib.hid h4
  clear h1 h2 h3 h4 hE
  go_enter Tryd.func9, Tryd.ntmps9
  go_wp2_with fail
  refine (lConfig_c _).mono ?_
  rintro e w1 ⟨rfl, hb1⟩
  go_wp2_with fail
  refine (H1.out _ hb1).mono ?_
  rintro e w2 ⟨rfl, hb2⟩
  have hf2 := hb1.trans hb2
  go_wp2_with fail
  refine (H2.out _ hf2).mono ?_
  rintro e w3 ⟨rfl, hb3⟩
  have hf3 := hf2.trans hb3
  go_wp2_with fail
  refine (H3.out _ hf3).mono ?_
  rintro e w4 ⟨rfl, hb4⟩
  have hf4 := hf3.trans hb4
  go_wp2_with fail
  refine (H4.out _ hf4).mono ?_
  rintro e w5 ⟨rfl, hb5⟩
  have hf5 := hf4.trans hb5
  go_wp2_with fail
  go_ret
  exact ⟨rfl, hf5⟩

/-- Some Bool. -/
def RetB (e : Ending) : Prop := ∃ b, e = .returned (.bool b)
set_option maxRecDepth 100000 in
set_option maxHeartbeats 1000000 in
theorem few_c (x : Ev) (v : Value) (w : World) (hx : EvAt w v x) :
    Calls Tryd.prog 8 #[v] w fun e w' => RetB e ∧ Fr w w' := by
  obtain ⟨⟨t, r, rfl, ht, hr⟩⟩ := hx
  obtain ⟨ta, tn, tc, rfl⟩ := ht.slice
  have hsl : ∃ ra rc, r = .slice ra x.reads.length rc := by obtain ⟨_, _, ⟨a, c, h, _⟩, _⟩ := hr; exact ⟨a, c, h⟩
  obtain ⟨ra, rc, rfl⟩ := hsl
  obtain ⟨xk, xc, xi, xo, xrk, xrv, xtx, xrs, xcf⟩ := x
  simp only at hr
  have hl := hr
  unfold Ev.val
  simp only
  clear ht hr
  go_enter Tryd.func8, Tryd.ntmps8
  go_wp2_with fail
  go_loop [3] (fun i => ∃ k : Nat, k ≤ xrs.length ∧ i = .int .i64 k) (fun i => xrs.length - (intOf i).toNat)
  case atStart => exact ⟨0, Nat.zero_le _, rfl⟩
  case round =>
    obtain ⟨k, hk, rfl⟩ := hrel
    have fin : ∀ (a b : Bool), True := fun _ _ => trivial
    by_cases hlt : k < xrs.length
    · by_cases h50 : k < 50
      · have h50i : (k : Int) < 50 := by omega
        obtain ⟨b, o, rc', u, hre, hcap, hmx, hbl, hc, hu⟩ := RdR.at' hl hlt
        obtain ⟨rfl, rfl⟩ : ra = some ⟨b, o, none⟩ ∧ rc = rc' := by cases hre; exact ⟨rfl, rfl⟩
        unfold maxLen at hmx
        have hk1 : k < rc := by omega
        clear hre
        generalize xrs[k] = m at hu
        obtain ⟨ua, uc, rfl⟩ : ∃ ua uc, u = .slice ua m.length uc := by obtain ⟨a, c, h, _⟩ := hu; exact ⟨a, c, h⟩
        clear hu
        by_cases h60 : (60 : Int) < m.length
        · go_wp2_with fail
          go_ret
          exact ⟨⟨_, rfl⟩, (Fr.refl w).alloc _⟩
        · go_wp2_with fail
          go_round
          case rel => exact ⟨k + 1, by omega, by go_num⟩
          case measure => simp [intOf]; omega
      · have h50i : ¬ (k : Int) < 50 := by omega
        by_cases h1 : (tn : Int) ≤ 40
        · go_wp2_with fail
          go_ret
          exact ⟨⟨_, rfl⟩, (Fr.refl w).alloc _⟩
        · go_wp2_with fail
          go_ret
          exact ⟨⟨_, rfl⟩, (Fr.refl w).alloc _⟩
    · by_cases h1 : (tn : Int) ≤ 40
      · go_wp2_with fail
        go_ret
        exact ⟨⟨_, rfl⟩, (Fr.refl w).alloc _⟩
      · go_wp2_with fail
        go_ret
        exact ⟨⟨_, rfl⟩, (Fr.refl w).alloc _⟩
end Go.Proofs.YtgbaanioppblhaaDoor

/- The walks of EventTakes and EventBack: they answer true. No condition but the tables' content. -/
namespace Go.Proofs.YtgbaanioppblhaaDoor
open Go.RowKit

def StoreArm : Unit := ()
set_option maxRecDepth 100000 in
set_option maxHeartbeats 1000000 in
theorem takes_c (s : List UInt8) (w : World) (hE : Env w) :
    Calls Tryd.prog 4 #[.string ⟨s.toArray⟩] w fun e w' => e = .returned (.bool true) ∧ Fr w w' := by
  by_cases hs : 2000 < s.length
  · have hsi : (2000 : Int) < s.length := by omega
    have HE := Lib.hid hE
    clear hE hs
    go_enter Tryd.func4, Tryd.ntmps4
    go_wp2_with fail
    refine (awake_c _ HE.out).mono ?_
    rintro e w1 ⟨rfl, hb1⟩
    go_wp2_with fail
    go_ret
    exact ⟨rfl, hb1⟩
  · have hsi : ¬ (2000 : Int) < s.length := by omega
    have ht := fun W (f : Fr w W) => evTake_c s W (hE.keep f) (by omega)
    have hr := fun W => rTakeE_c s W (by omega)
    generalize takeEv s = Y at ht hr
    obtain ⟨y, E⟩ := Y
    have hsc := fun W (t1 r1 t2 r2 : Value) (g1 : RdM W t1 y.txn) (g2 : RdR W r1 y.reads) (g3 : RdM W t2 y.txn) (g4 : RdR W r2 y.reads) => refSame_c (y.val t1 r1) (y.val t2 r2) y y W ⟨_, _, rfl, g1, g2⟩ ⟨_, _, rfl, g3, g4⟩
    rw [decide_eq_true rfl] at hsc
    have HT := Lib.hid ht
    have HR := Lib.hid hr
    have HS := Lib.hid hsc
    have HE := Lib.hid hE
    clear ht hr hsc hE hs
    go_enter Tryd.func4, Tryd.ntmps4
    go_wp2_with fail
    refine (HT.out _ (Fr.refl w)).mono ?_
    rintro e w1 ⟨t, r, rfl, ht1, hr1, hb1⟩
    obtain ⟨ta, tn, tc, rfl⟩ := ht1.slice
    obtain ⟨ra, rn, rc, rfl⟩ := hr1.slice
    have hf1 : Fr w1 (w1.alloc (.cells (y.cells (.slice ta tn tc) (.slice ra rn rc)) 32)) := (Fr.refl w1).alloc _
    have hB := BoxAt.new w1 (y.cells (.slice ta tn tc) (.slice ra rn rc)) 32
    unfold Ev.val
    simp only at ht1 hr1
    go_wp2_with ((with_reducible refine wpList_here (.store 32 (.tmp 3) (.tmp 14)) rfl ?_); refine wpList_store_new 32 (.tmp 3) (.tmp 14) rfl _ _ _ rfl rfl rfl Tryd.infoEv rfl (Ev.oneCell y ta ra tn tc rn rc) rfl rfl ?_)
    refine (HR.out _).mono ?_
    rintro e w2 ⟨t', r', rfl, ht2, hr2, hb2⟩
    obtain ⟨ta2, tn2, tc2, rfl⟩ := ht2.slice
    obtain ⟨ra2, rn2, rc2, rfl⟩ := hr2.slice
    have hf2 : Fr w2 (w2.alloc (.cells (y.cells (.slice ta2 tn2 tc2) (.slice ra2 rn2 rc2)) 32)) := (Fr.refl w2).alloc _
    have hB2 := (hB.fr hb2).fr hf2
    have hB3 := BoxAt.new w2 (y.cells (.slice ta2 tn2 tc2) (.slice ra2 rn2 rc2)) 32
    have hz := (hB.fr hb2).lt
    unfold Ev.val at HS ⊢
    simp only at ht2 hr2
    have hq := Lib.hid (HS.out _ _ _ _ _ (((ht1.keep hf1).keep hb2).keep hf2) (((hr1.keep hf1).keep hb2).keep hf2) (ht2.keep hf2) (hr2.keep hf2))
    clear ht1 hr1 ht2 hr2 HS
    have hfz := ((hb1.trans hf1).trans hb2).trans hf2
    go_wp2_with (first | ((with_reducible refine wpList_here (.store 32 (.tmp 5) (.tmp 19)) rfl ?_); refine wpList_store_new 32 (.tmp 5) (.tmp 19) rfl _ _ _ rfl rfl rfl Tryd.infoEv rfl (Ev.oneCell y ta2 ra2 tn2 tc2 rn2 rc2) rfl rfl ?_) | ((with_reducible refine wpList_here (.load 32 (.tmp 3)) rfl ?_); refine wpList_load_box 32 (.tmp 3) rfl _ rfl _ hB2 _ Tryd.underlying32 rfl Tryd.infoEv rfl ?_) | ((with_reducible refine wpList_here (.load 32 (.tmp 5)) rfl ?_); refine wpList_load_box 32 (.tmp 5) rfl _ rfl _ hB3 _ Tryd.underlying32 rfl Tryd.infoEv rfl ?_))
    refine hq.out.mono ?_
    rintro e w3 ⟨rfl, hb3⟩
    have hf3 := hfz.trans hb3
    go_wp2_with fail
    refine (awake_c _ (HE.out.keep hf3)).mono ?_
    rintro e w4 ⟨rfl, hb4⟩
    have hf4 := hf3.trans hb4
    go_wp2_with fail
    go_ret
    exact ⟨rfl, hf4⟩

set_option maxRecDepth 100000 in
set_option maxHeartbeats 2000000 in
theorem back_c (x : Ev) (v : Value) (s : List UInt8) (w : World) (hE : Env w) (hx : EvAt w v x) (ok : x.Ok) :
    Calls Tryd.prog 6 #[v, .string ⟨s.toArray⟩] w fun e w' => e = .returned (.bool true) ∧ Fr w w' := by
  obtain ⟨⟨t, r, rfl, ht, hr⟩⟩ := hx
  obtain ⟨ta, tn, tc, rfl⟩ := ht.slice
  obtain ⟨ra, rn, rc, rfl⟩ := hr.slice
  have hev := fun W (f : Fr w W) => (⟨_, _, rfl, ht.keep f, hr.keep f⟩ : EvAt W (x.val (.slice ta tn tc) (.slice ra rn rc)) x)
  have hfew := fun W (f : Fr w W) => few_c x (x.val (.slice ta tn tc) (.slice ra rn rc)) W (hev W f)
  have hput := fun W (f : Fr w W) => Put_c x (x.val (.slice ta tn tc) (.slice ra rn rc)) W (hE.keep f) (hev W f) ok
  have hpy := fun (hm : x.may = true) W (f : Fr w W) => lPuts_yes x (x.val (.slice ta tn tc) (.slice ra rn rc)) x.bytes W (hE.keep f) (hev W f) ok hm rfl
  have hno := fun W (f : Fr w W) => lNone_c x (x.val (.slice ta tn tc) (.slice ra rn rc)) W (hE.keep f) (hev W f) ok put_no_may
  unfold Ev.val at hfew hput hpy hno ⊢
  have HF := Lib.hid hfew
  have HP := Lib.hid hput
  have HY := Lib.hid hpy
  have HN := Lib.hid hno
  have HE := Lib.hid hE
  have hB := BoxAt.new w (x.cells (.slice ta tn tc) (.slice ra rn rc)) 32
  have hf0 : Fr w (w.alloc (.cells (x.cells (.slice ta tn tc) (.slice ra rn rc)) 32)) := (Fr.refl w).alloc _
  clear hfew hput hpy hno hev ht hr ok hE
  go_enter Tryd.func6, Tryd.ntmps6
  go_wp2_with ((with_reducible refine wpList_here (.load 32 (.tmp 2)) rfl ?_); refine wpList_load_box 32 (.tmp 2) rfl _ rfl _ hB _ Tryd.underlying32 rfl Tryd.infoEv rfl ?_)
  refine (HF.out _ hf0).mono ?_
  rintro e w1 ⟨⟨fb, rfl⟩, hb1⟩
  have hf1 := hf0.trans hb1
  have hB1 := hB.fr hb1
  have hz1 := hB1.lt
  cases fb with
  | false =>
    go_wp2_with fail
    refine (awake_c _ (HE.out.keep hf1)).mono ?_
    rintro e w2 ⟨rfl, hb2⟩
    have hf2 := hf1.trans hb2
    go_wp2_with fail
    go_ret
    exact ⟨rfl, hf2⟩
  | true =>
    by_cases hs : 2000 < s.length
    · have hsi : (2000 : Int) < s.length := by omega
      go_wp2_with fail
      refine (awake_c _ (HE.out.keep hf1)).mono ?_
      rintro e w2 ⟨rfl, hb2⟩
      have hf2 := hf1.trans hb2
      go_wp2_with fail
      go_ret
      exact ⟨rfl, hf2⟩
    · have hsi : ¬ (2000 : Int) < s.length := by omega
      go_wp2_with ((with_reducible refine wpList_here (.load 32 (.tmp 2)) rfl ?_); refine wpList_load_box 32 (.tmp 2) rfl _ rfl _ hB1 _ Tryd.underlying32 rfl Tryd.infoEv rfl ?_)
      refine (HP.out _ hf1).mono ?_
      rintro e w2 ⟨rfl, hb2⟩
      have hf2 := hf1.trans hb2
      have hB2 := hB1.fr hb2
      have hz2 := hB2.lt
      have rest : ∀ W (f : Fr w W), Calls Tryd.prog 16 #[.string ⟨s.toArray⟩] W (TookEv W (takeEv s)) := fun W f => evTake_c s W (HE.out.keep f) (by omega)
      have HT := Lib.hid rest
      have hcase : (takeEv s).2 = 0 ∨ (takeEv s).2 ≠ 0 := by omega
      have hfl := fun (h : (takeEv s).2 ≠ 0) W (f : Fr w W) => lFails_yes s (takeEv s).2 W (HE.out.keep f) (by omega) (Prod.ext (takeEv_no (s := s) (y := (takeEv s).1) (e := (takeEv s).2) rfl h) rfl)
      have hgo := fun (h : (takeEv s).2 = 0) W (f : Fr w W) v (hv : EvAt W v (takeEv s).1) => lPuts_yes (takeEv s).1 v s W (HE.out.keep f) hv takeEv_okOk (put_may (takeEv_ok (s := s) (y := (takeEv s).1) (by rw [← h]))).1 (put_may (takeEv_ok (s := s) (y := (takeEv s).1) (by rw [← h]))).2.symm
      generalize takeEv s = Y at HT hcase hfl hgo
      obtain ⟨y, E⟩ := Y
      simp only at hcase hfl hgo
      have HFL := Lib.hid hfl
      have HGO := Lib.hid hgo
      have HC := Lib.hid hcase
      clear rest hfl hgo hcase hs
      have fin : ∀ (fr : Prop), True := fun _ => trivial
      cases hm : x.may with
      | true =>
        have hp : x.put = (x.bytes, 0) := put_of hm
        have HY2 := Lib.hid (HY.out hm)
        rw [hp]
        generalize x.bytes = B at HY2
        clear hp hm HN HY HP HF
        simp only
        go_wp2_with ((with_reducible refine wpList_here (.load 32 (.tmp 2)) rfl ?_); refine wpList_load_box 32 (.tmp 2) rfl _ rfl _ hB2 _ Tryd.underlying32 rfl Tryd.infoEv rfl ?_)
        refine (HY2.out _ hf2).mono ?_
        rintro e w3 ⟨rfl, hb3⟩
        have hf3 := hf2.trans hb3
        go_wp2_with fail
        refine (HT.out _ hf3).mono ?_
        rintro e w4 ⟨t, r, rfl, ht1, hr1, hb4⟩
        obtain ⟨ta2, tn2, tc2, rfl⟩ := ht1.slice
        obtain ⟨ra2, rn2, rc2, rfl⟩ := hr1.slice
        have hf4 := hf3.trans hb4
        have hg : Fr w4 (w4.alloc (.cells (y.cells (.slice ta2 tn2 tc2) (.slice ra2 rn2 rc2)) 32)) := (Fr.refl w4).alloc _
        have hf5 := hf4.trans hg
        have hB3 := BoxAt.new w4 (y.cells (.slice ta2 tn2 tc2) (.slice ra2 rn2 rc2)) 32
        have hev : EvAt (w4.alloc (.cells (y.cells (.slice ta2 tn2 tc2) (.slice ra2 rn2 rc2)) 32)) (y.val (.slice ta2 tn2 tc2) (.slice ra2 rn2 rc2)) y := ⟨_, _, rfl, ht1.keep hg, hr1.keep hg⟩
        simp only at ht1 hr1
        rcases HC.out with h | h
        · have hq := Lib.hid (HGO.out h _ hf5 _ hev)
          subst h
          unfold Ev.val at hq ⊢
          clear hev ht1 hr1 HC HGO HFL HT
          go_wp2_with (first | ((with_reducible refine wpList_here (.store 32 (.tmp 7) (.tmp 43)) rfl ?_); refine wpList_store_new 32 (.tmp 7) (.tmp 43) rfl _ _ _ rfl rfl rfl Tryd.infoEv rfl (Ev.oneCell y ta2 ra2 tn2 tc2 rn2 rc2) rfl rfl ?_) | ((with_reducible refine wpList_here (.load 32 (.tmp 7)) rfl ?_); refine wpList_load_box 32 (.tmp 7) rfl _ rfl _ hB3 _ Tryd.underlying32 rfl Tryd.infoEv rfl ?_))
          refine hq.out.mono ?_
          rintro e w6 ⟨rfl, hb6⟩
          have hf6 := hf5.trans hb6
          go_wp2_with fail
          refine (awake_c _ (HE.out.keep hf6)).mono ?_
          rintro e w7 ⟨rfl, hb7⟩
          have hf7 := hf6.trans hb7
          go_wp2_with fail
          go_ret
          exact ⟨rfl, hf7⟩
        · have hq := Lib.hid (HFL.out h _ hf5)
          have hne : ((E : Int) != 0) = true := by simp; omega
          unfold Ev.val
          clear hev ht1 hr1 HC HGO HFL HT h
          go_wp2_with ((with_reducible refine wpList_here (.store 32 (.tmp 7) (.tmp 43)) rfl ?_); refine wpList_store_new 32 (.tmp 7) (.tmp 43) rfl _ _ _ rfl rfl rfl Tryd.infoEv rfl (Ev.oneCell y ta2 ra2 tn2 tc2 rn2 rc2) rfl rfl ?_)
          refine hq.out.mono ?_
          rintro e w6 ⟨rfl, hb6⟩
          have hf6 := hf5.trans hb6
          go_wp2_with fail
          refine (awake_c _ (HE.out.keep hf6)).mono ?_
          rintro e w7 ⟨rfl, hb7⟩
          have hf7 := hf6.trans hb7
          go_wp2_with fail
          go_ret
          exact ⟨rfl, hf7⟩
      | false =>
        have hp : x.put = ([], 4) := by unfold Ev.put; rw [hm]; rfl
        have hn2 := HN.out
        rw [hp] at hn2
        rw [show decide ((([] : List UInt8), 4).2 ≠ 0) = true from rfl] at hn2
        have HN2 := Lib.hid hn2
        rw [hp]
        clear hp hm HN HY HP HF hn2
        simp only
        go_wp2_with ((with_reducible refine wpList_here (.load 32 (.tmp 2)) rfl ?_); refine wpList_load_box 32 (.tmp 2) rfl _ rfl _ hB2 _ Tryd.underlying32 rfl Tryd.infoEv rfl ?_)
        refine (HN2.out _ hf2).mono ?_
        rintro e w3 ⟨rfl, hb3⟩
        have hf3 := hf2.trans hb3
        go_wp2_with fail
        refine (HT.out _ hf3).mono ?_
        rintro e w4 ⟨t, r, rfl, ht1, hr1, hb4⟩
        obtain ⟨ta2, tn2, tc2, rfl⟩ := ht1.slice
        obtain ⟨ra2, rn2, rc2, rfl⟩ := hr1.slice
        have hf4 := hf3.trans hb4
        have hg : Fr w4 (w4.alloc (.cells (y.cells (.slice ta2 tn2 tc2) (.slice ra2 rn2 rc2)) 32)) := (Fr.refl w4).alloc _
        have hf5 := hf4.trans hg
        have hB3 := BoxAt.new w4 (y.cells (.slice ta2 tn2 tc2) (.slice ra2 rn2 rc2)) 32
        have hev : EvAt (w4.alloc (.cells (y.cells (.slice ta2 tn2 tc2) (.slice ra2 rn2 rc2)) 32)) (y.val (.slice ta2 tn2 tc2) (.slice ra2 rn2 rc2)) y := ⟨_, _, rfl, ht1.keep hg, hr1.keep hg⟩
        simp only at ht1 hr1
        rcases HC.out with h | h
        · have hq := Lib.hid (HGO.out h _ hf5 _ hev)
          subst h
          unfold Ev.val at hq ⊢
          clear hev ht1 hr1 HC HGO HFL HT
          go_wp2_with (first | ((with_reducible refine wpList_here (.store 32 (.tmp 7) (.tmp 43)) rfl ?_); refine wpList_store_new 32 (.tmp 7) (.tmp 43) rfl _ _ _ rfl rfl rfl Tryd.infoEv rfl (Ev.oneCell y ta2 ra2 tn2 tc2 rn2 rc2) rfl rfl ?_) | ((with_reducible refine wpList_here (.load 32 (.tmp 7)) rfl ?_); refine wpList_load_box 32 (.tmp 7) rfl _ rfl _ hB3 _ Tryd.underlying32 rfl Tryd.infoEv rfl ?_))
          refine hq.out.mono ?_
          rintro e w6 ⟨rfl, hb6⟩
          have hf6 := hf5.trans hb6
          go_wp2_with fail
          refine (awake_c _ (HE.out.keep hf6)).mono ?_
          rintro e w7 ⟨rfl, hb7⟩
          have hf7 := hf6.trans hb7
          go_wp2_with fail
          go_ret
          exact ⟨rfl, hf7⟩
        · have hq := Lib.hid (HFL.out h _ hf5)
          have hne : ((E : Int) != 0) = true := by simp; omega
          unfold Ev.val
          clear hev ht1 hr1 HC HGO HFL HT h
          go_wp2_with ((with_reducible refine wpList_here (.store 32 (.tmp 7) (.tmp 43)) rfl ?_); refine wpList_store_new 32 (.tmp 7) (.tmp 43) rfl _ _ _ rfl rfl rfl Tryd.infoEv rfl (Ev.oneCell y ta2 ra2 tn2 tc2 rn2 rc2) rfl rfl ?_)
          refine hq.out.mono ?_
          rintro e w6 ⟨rfl, hb6⟩
          have hf6 := hf5.trans hb6
          go_wp2_with fail
          refine (awake_c _ (HE.out.keep hf6)).mono ?_
          rintro e w7 ⟨rfl, hb7⟩
          have hf7 := hf6.trans hb7
          go_wp2_with fail
          go_ret
          exact ⟨rfl, hf7⟩
end Go.Proofs.YtgbaanioppblhaaDoor

/- The walk of EventPuts: it answers true. No condition but the tables' content. -/
namespace Go.Proofs.YtgbaanioppblhaaDoor
open Go.RowKit

set_option maxRecDepth 100000 in
set_option maxHeartbeats 2000000 in
theorem putsLaw_c (x y : Ev) (u v : Value) (w : World) (hE : Env w) (hx : EvAt w u x) (hy : EvAt w v y) (ok : x.Ok) :
    Calls Tryd.prog 3 #[u, v] w fun e w' => e = .returned (.bool true) ∧ Fr w w' := by
  obtain ⟨⟨t, r, rfl, ht, hr⟩⟩ := hx
  obtain ⟨ta, tn, tc, rfl⟩ := ht.slice
  obtain ⟨ra, rn, rc, rfl⟩ := hr.slice
  obtain ⟨⟨t', r', rfl, ht', hr'⟩⟩ := hy
  obtain ⟨ta', tn', tc', rfl⟩ := ht'.slice
  obtain ⟨ra', rn', rc', rfl⟩ := hr'.slice
  have hev := fun W (f : Fr w W) => (⟨_, _, rfl, ht.keep f, hr.keep f⟩ : EvAt W (x.val (.slice ta tn tc) (.slice ra rn rc)) x)
  have hev' := fun W (f : Fr w W) => (⟨_, _, rfl, ht'.keep f, hr'.keep f⟩ : EvAt W (y.val (.slice ta' tn' tc') (.slice ra' rn' rc')) y)
  have hf1 := fun W (f : Fr w W) => few_c x (x.val (.slice ta tn tc) (.slice ra rn rc)) W (hev W f)
  have hf2 := fun W (f : Fr w W) => few_c y (y.val (.slice ta' tn' tc') (.slice ra' rn' rc')) W (hev' W f)
  have hput := fun W (f : Fr w W) => Put_c x (x.val (.slice ta tn tc) (.slice ra rn rc)) W (hE.keep f) (hev W f) ok
  have hrput := fun W (f : Fr w W) => rPutE_c x (x.val (.slice ta tn tc) (.slice ra rn rc)) W (hev W f) ok
  have hchk := fun W (f : Fr w W) => Check_c x (x.val (.slice ta tn tc) (.slice ra rn rc)) W (hE.keep f) (hev W f) ok
  have hmay := fun W (f : Fr w W) => rMayE_c x (x.val (.slice ta tn tc) (.slice ra rn rc)) W (hev W f) ok
  have hsxy := fun W (f : Fr w W) => same_c (x.val (.slice ta tn tc) (.slice ra rn rc)) (y.val (.slice ta' tn' tc') (.slice ra' rn' rc')) x y W (hev W f) (hev' W f)
  have hrxy := fun W (f : Fr w W) => refSame_c (x.val (.slice ta tn tc) (.slice ra rn rc)) (y.val (.slice ta' tn' tc') (.slice ra' rn' rc')) x y W (hev W f) (hev' W f)
  have hsxx := fun W (f : Fr w W) => same_c (x.val (.slice ta tn tc) (.slice ra rn rc)) (x.val (.slice ta tn tc) (.slice ra rn rc)) x x W (hev W f) (hev W f)
  rw [decide_eq_true rfl] at hsxx
  have hck : x.check = 0 ∧ x.may = true ∨ x.check = 4 ∧ x.may = false := by unfold Ev.check; cases x.may <;> simp
  generalize x.check = K at hck hchk
  generalize x.may = M at hck hmay
  generalize decide (x = y) = S at hsxy hrxy
  generalize x.put = PQ at hput hrput
  obtain ⟨PB, PE⟩ := PQ
  unfold Ev.val at hf1 hf2 hput hrput hchk hmay hsxy hrxy hsxx ⊢
  have H1 := Lib.hid hf1
  have H2 := Lib.hid hf2
  have HP := Lib.hid hput
  have HR := Lib.hid hrput
  have HC := Lib.hid hchk
  have HM := Lib.hid hmay
  have HS := Lib.hid hsxy
  have HT := Lib.hid hrxy
  have HX := Lib.hid hsxx
  have HE := Lib.hid hE
  have HK := Lib.hid hck
  have hg0 : Fr w (w.alloc (.cells (x.cells (.slice ta tn tc) (.slice ra rn rc)) 32)) := (Fr.refl w).alloc _
  have hB := (BoxAt.new w (x.cells (.slice ta tn tc) (.slice ra rn rc)) 32).alloc (.cells (y.cells (.slice ta' tn' tc') (.slice ra' rn' rc')) 32)
  have hB' := BoxAt.new (w.alloc (.cells (x.cells (.slice ta tn tc) (.slice ra rn rc)) 32)) (y.cells (.slice ta' tn' tc') (.slice ra' rn' rc')) 32
  have hf0 := hg0.alloc (.cells (y.cells (.slice ta' tn' tc') (.slice ra' rn' rc')) 32)
  rw [show (w.alloc (.cells (x.cells (.slice ta tn tc) (.slice ra rn rc)) 32)).heap.size = w.heap.size + 1 by simp] at hB'
  clear hf1 hf2 hput hrput hchk hmay hsxy hrxy hsxx hev hev' ht hr ht' hr' ok hE hck hg0
  go_enter Tryd.func3, Tryd.ntmps3
  go_wp2_with ((with_reducible refine wpList_here (.load 32 (.tmp 2)) rfl ?_); refine wpList_load_box 32 (.tmp 2) rfl _ rfl _ hB _ Tryd.underlying32 rfl Tryd.infoEv rfl ?_)
  refine (H1.out _ hf0).mono ?_
  rintro e w1 ⟨⟨fb, rfl⟩, hb1⟩
  have hf1 := hf0.trans hb1
  have hB1 := hB.fr hb1
  have hB1' := hB'.fr hb1
  have hz1 := hB1'.lt
  cases fb with
  | false =>
    go_wp2_with fail
    refine (awake_c _ (HE.out.keep hf1)).mono ?_
    rintro e w2 ⟨rfl, hb2⟩
    have hf2 := hf1.trans hb2
    go_wp2_with fail
    go_ret
    exact ⟨rfl, hf2⟩
  | true =>
    go_wp2_with ((with_reducible refine wpList_here (.load 32 (.tmp 3)) rfl ?_); refine wpList_load_box 32 (.tmp 3) rfl _ rfl _ hB1' _ Tryd.underlying32 rfl Tryd.infoEv rfl ?_)
    refine (H2.out _ hf1).mono ?_
    rintro e w2 ⟨⟨fb, rfl⟩, hb2⟩
    have hf2 := hf1.trans hb2
    have hB2 := hB1.fr hb2
    have hB2' := hB1'.fr hb2
    have hz2 := hB2'.lt
    cases fb with
    | false =>
      go_wp2_with fail
      refine (awake_c _ (HE.out.keep hf2)).mono ?_
      rintro e w3 ⟨rfl, hb3⟩
      have hf3 := hf2.trans hb3
      go_wp2_with fail
      go_ret
      exact ⟨rfl, hf3⟩
    | true =>
      go_wp2_with ((with_reducible refine wpList_here (.load 32 (.tmp 2)) rfl ?_); refine wpList_load_box 32 (.tmp 2) rfl _ rfl _ hB2 _ Tryd.underlying32 rfl Tryd.infoEv rfl ?_)
      refine (HP.out _ hf2).mono ?_
      rintro e w3 ⟨rfl, hb3⟩
      have hf3 := hf2.trans hb3
      have hB3 := hB2.fr hb3
      have hB3' := hB2'.fr hb3
      have hz3 := hB3'.lt
      simp only
      go_wp2_with ((with_reducible refine wpList_here (.load 32 (.tmp 2)) rfl ?_); refine wpList_load_box 32 (.tmp 2) rfl _ rfl _ hB3 _ Tryd.underlying32 rfl Tryd.infoEv rfl ?_)
      refine (HR.out _ hf3).mono ?_
      rintro e w4 ⟨rfl, hb4⟩
      have hf4 := hf3.trans hb4
      have hB4 := hB3.fr hb4
      have hB4' := hB3'.fr hb4
      have hz4 := hB4'.lt
      clear H1 H2 HP HR hB hB' hB1 hB1' hB2 hB2' hB3 hB3'
      rcases HK.out with ⟨rfl, rfl⟩ | ⟨rfl, rfl⟩ <;> cases S
      all_goals
        simp only
        go_wp2_with fail
        refine wp_region_fr (by kernel_rfl) (by kernel_rfl) ?_
        repeat (first
          | ((with_reducible refine wpQuiet_here (.load 32 (.tmp 2)) rfl ?_); refine wpQuiet_load_box 32 (.tmp 2) rfl _ rfl _ hB4.ofFrW _ Tryd.underlying32 rfl Tryd.infoEv rfl ?_; simp only [Act.put, List.setIfInBounds_toArray, List.set_cons_succ, List.set_cons_zero])
          | ((with_reducible refine wpQuiet_here (.load 32 (.tmp 3)) rfl ?_); refine wpQuiet_load_box 32 (.tmp 3) rfl _ rfl _ hB4'.ofFrW _ Tryd.underlying32 rfl Tryd.infoEv rfl ?_; simp only [Act.put, List.setIfInBounds_toArray, List.set_cons_succ, List.set_cons_zero])
          | go_big_quiet_step ((first
            | (go_at_call 12; exact frq (HC.out _ (hf4.trans (FrW.fr _))))
            | (go_at_call 13; exact frq (HM.out _ (hf4.trans (FrW.fr _))))
            | (go_at_call 15; exact frq (HT.out _ (hf4.trans (FrW.fr _))))
            | (go_at_call 9; exact frq (awake_c _ (HE.out.keep (hf4.trans (FrW.fr _)))))
            | (go_at_call 14; unfold Ev.cells; first | with_reducible exact frq (HS.out _ (hf4.trans (FrW.fr _))) | with_reducible exact frq (HX.out _ (hf4.trans (FrW.fr _)))))))
        refine wpQuiet_nil ?_
        rintro _ ⟨z, rfl⟩
        go_wp2_with fail
        go_ret
        exact ⟨rfl, hf4.trans z.fr⟩
end Go.Proofs.YtgbaanioppblhaaDoor

/- The walk of EventWhole: it answers true. No condition but the tables' content. -/
namespace Go.Proofs.YtgbaanioppblhaaDoor
open Go.RowKit

set_option maxRecDepth 100000 in
set_option maxHeartbeats 2000000 in
theorem whole_c (x y : Ev) (u v : Value) (z0 z1 : Nat) (w : World) (hE : Env w) (hx : EvAt w u x) (hy : EvAt w v y) (ok : x.Ok) (oky : y.Ok) (hz0 : z0 < 65536) (hz1 : z1 < 65536) :
    Calls Tryd.prog 7 #[u, v, .agg #[.int .u16 z0, .int .u16 z1]] w fun e w' => e = .returned (.bool true) ∧ Fr w w' := by
  obtain ⟨⟨t, r, rfl, ht, hr⟩⟩ := hx
  obtain ⟨ta, tn, tc, rfl⟩ := ht.slice
  obtain ⟨ra, rn, rc, rfl⟩ := hr.slice
  obtain ⟨⟨t', r', rfl, ht', hr'⟩⟩ := hy
  obtain ⟨ta', tn', tc', rfl⟩ := ht'.slice
  obtain ⟨ra', rn', rc', rfl⟩ := hr'.slice
  have hev := fun W (f : Fr w W) => (⟨_, _, rfl, ht.keep f, hr.keep f⟩ : EvAt W (x.val (.slice ta tn tc) (.slice ra rn rc)) x)
  have hev' := fun W (f : Fr w W) => (⟨_, _, rfl, ht'.keep f, hr'.keep f⟩ : EvAt W (y.val (.slice ta' tn' tc') (.slice ra' rn' rc')) y)
  have hf1 := fun W (f : Fr w W) => few_c x (x.val (.slice ta tn tc) (.slice ra rn rc)) W (hev W f)
  have hf2 := fun W (f : Fr w W) => few_c y (y.val (.slice ta' tn' tc') (.slice ra' rn' rc')) W (hev' W f)
  have hput := fun W (f : Fr w W) => Put_c x (x.val (.slice ta tn tc) (.slice ra rn rc)) W (hE.keep f) (hev W f) ok
  have hput' := fun W (f : Fr w W) => Put_c y (y.val (.slice ta' tn' tc') (.slice ra' rn' rc')) W (hE.keep f) (hev' W f) oky
  have hsxy := fun W (f : Fr w W) => same_c (x.val (.slice ta tn tc) (.slice ra rn rc)) (y.val (.slice ta' tn' tc') (.slice ra' rn' rc')) x y W (hev W f) (hev' W f)
  have hfl := fun (c : List UInt8) (hc : c.length < 1000000) (h : takeEv c = (.zero, 5)) W (f : Fr w W) => lFails_yes c 5 W (hE.keep f) hc h
  have htk := fun (c : List UInt8) (hc : c.length < 1000000) W (f : Fr w W) => evTake_c c W (hE.keep f) hc
  have hpx : x.put.2 = 0 ∧ x.may = true ∨ x.put.2 = 4 := by cases hm : x.may <;> simp [Ev.put, hm]
  have hpy : y.put.2 = 0 ∧ ((x.may = true → (x.put.1 == y.put.1) = decide (x = y))) ∨ y.put.2 = 4 := by
    cases hm : y.may
    · right; simp [Ev.put, hm]
    · left
      refine ⟨by simp [Ev.put, hm], fun hmx => ?_⟩
      rw [put_of hm, put_of hmx]
      by_cases h : x = y
      · rw [decide_eq_true h, h]; simp
      · rw [decide_eq_false h]
        have := fun e => h ((bytes_inj ok oky hmx hm).1 e)
        simpa using this
  have hlen := fun hm : x.may = true => bytes_len hm
  have htorn := fun (hm : x.may = true) (k : Nat) (hk : k < x.bytes.length) => takeEv_torn x ok hm (x.bytes.take k) (x.bytes.drop k) (List.take_append_drop k _).symm (by intro e; have := congrArg List.length e; simp at this; omega)
  have hmore := fun (hm : x.may = true) b => takeEv_more x ok hm b
  have hbx : x.may = true → x.put.1 = x.bytes := fun hm => by rw [put_of hm]
  generalize decide (x = y) = S at hsxy hpy
  generalize x.may = M at hpx hpy hlen htorn hmore hbx
  generalize x.bytes = B at hlen htorn hmore hbx
  generalize x.put = PX at hpx hpy hput hbx
  obtain ⟨PB, PE⟩ := PX
  generalize y.put = PY at hpy hput'
  obtain ⟨QB, QE⟩ := PY
  simp only at hpx hpy hbx
  unfold Ev.val at hf1 hf2 hput hput' hsxy ⊢
  have H1 := Lib.hid hf1
  have H2 := Lib.hid hf2
  have HP := Lib.hid hput
  have HQ := Lib.hid hput'
  have HS := Lib.hid hsxy
  have HE := Lib.hid hE
  have HX := Lib.hid hpx
  have HY := Lib.hid hpy
  have HL := Lib.hid hlen
  have HT := Lib.hid htorn
  have HM := Lib.hid hmore
  have HB := Lib.hid hbx
  have HFL := Lib.hid hfl
  have HTK := Lib.hid htk
  have hg0 : Fr w (w.alloc (.cells (x.cells (.slice ta tn tc) (.slice ra rn rc)) 32)) := (Fr.refl w).alloc _
  have hB := ((BoxAt.new w (x.cells (.slice ta tn tc) (.slice ra rn rc)) 32).alloc (.cells (y.cells (.slice ta' tn' tc') (.slice ra' rn' rc')) 32)).alloc (.cells #[.int .u16 z0, .int .u16 z1] 53)
  have hB' := (BoxAt.new (w.alloc (.cells (x.cells (.slice ta tn tc) (.slice ra rn rc)) 32)) (y.cells (.slice ta' tn' tc') (.slice ra' rn' rc')) 32).alloc (.cells #[.int .u16 z0, .int .u16 z1] 53)
  have hZ := BoxAt.new ((w.alloc (.cells (x.cells (.slice ta tn tc) (.slice ra rn rc)) 32)).alloc (.cells (y.cells (.slice ta' tn' tc') (.slice ra' rn' rc')) 32)) #[.int .u16 z0, .int .u16 z1] 53
  have hf0 := (hg0.alloc (.cells (y.cells (.slice ta' tn' tc') (.slice ra' rn' rc')) 32)).alloc (.cells #[.int .u16 z0, .int .u16 z1] 53)
  rw [show (w.alloc (.cells (x.cells (.slice ta tn tc) (.slice ra rn rc)) 32)).heap.size = w.heap.size + 1 by simp] at hB'
  rw [show ((w.alloc (.cells (x.cells (.slice ta tn tc) (.slice ra rn rc)) 32)).alloc (.cells (y.cells (.slice ta' tn' tc') (.slice ra' rn' rc')) 32)).heap.size = w.heap.size + 2 by simp] at hZ
  clear hf1 hf2 hput hput' hsxy hev hev' ht hr ht' hr' ok oky hE hpx hpy hg0 hlen htorn hmore hbx hfl htk
  go_enter Tryd.func7, Tryd.ntmps7
  go_wp2_with ((with_reducible refine wpList_here (.load 32 (.tmp 3)) rfl ?_); refine wpList_load_box 32 (.tmp 3) rfl _ rfl _ hB _ Tryd.underlying32 rfl Tryd.infoEv rfl ?_)
  refine (H1.out _ hf0).mono ?_
  rintro e w1 ⟨⟨fb, rfl⟩, hb1⟩
  have hf1 := hf0.trans hb1
  have hB1 := hB.fr hb1
  have hB1' := hB'.fr hb1
  have hZ1 := hZ.fr hb1
  have hz1 := hB1'.lt
  cases fb with
  | false =>
    go_wp2_with fail
    refine (awake_c _ (HE.out.keep hf1)).mono ?_
    rintro e w2 ⟨rfl, hb2⟩
    have hf2 := hf1.trans hb2
    go_wp2_with fail
    go_ret
    exact ⟨rfl, hf2⟩
  | true =>
    go_wp2_with ((with_reducible refine wpList_here (.load 32 (.tmp 4)) rfl ?_); refine wpList_load_box 32 (.tmp 4) rfl _ rfl _ hB1' _ Tryd.underlying32 rfl Tryd.infoEv rfl ?_)
    refine (H2.out _ hf1).mono ?_
    rintro e w2 ⟨⟨fb, rfl⟩, hb2⟩
    have hf2 := hf1.trans hb2
    have hB2 := hB1.fr hb2
    have hB2' := hB1'.fr hb2
    have hZ2 := hZ1.fr hb2
    have hz2 := hB2'.lt
    cases fb with
    | false =>
      go_wp2_with fail
      refine (awake_c _ (HE.out.keep hf2)).mono ?_
      rintro e w3 ⟨rfl, hb3⟩
      have hf3 := hf2.trans hb3
      go_wp2_with fail
      go_ret
      exact ⟨rfl, hf3⟩
    | true =>
      go_wp2_with ((with_reducible refine wpList_here (.load 32 (.tmp 3)) rfl ?_); refine wpList_load_box 32 (.tmp 3) rfl _ rfl _ hB2 _ Tryd.underlying32 rfl Tryd.infoEv rfl ?_)
      refine (HP.out _ hf2).mono ?_
      rintro e w3 ⟨rfl, hb3⟩
      have hf3 := hf2.trans hb3
      have hB3 := hB2.fr hb3
      have hB3' := hB2'.fr hb3
      have hZ3 := hZ2.fr hb3
      have hz3 := hB3'.lt
      simp only
      go_wp2_with ((with_reducible refine wpList_here (.load 32 (.tmp 4)) rfl ?_); refine wpList_load_box 32 (.tmp 4) rfl _ rfl _ hB3' _ Tryd.underlying32 rfl Tryd.infoEv rfl ?_)
      refine (HQ.out _ hf3).mono ?_
      rintro e w4 ⟨rfl, hb4⟩
      have hf4 := hf3.trans hb4
      have hB4 := hB3.fr hb4
      have hB4' := hB3'.fr hb4
      have hZ4 := hZ3.fr hb4
      have hz4 := hB4'.lt
      have hz5 := hZ4.lt
      have c0 := hZ4.at 0 (v := .int .u16 z0) rfl
      have c1 := hZ4.at 1 (v := .int .u16 z1) rfl
      clear H1 H2 HP HQ hB hB' hB1 hB1' hB2 hB2' hB3 hB3' hZ hZ1 hZ2 hZ3 hZ4
      simp only
      rcases HX.out with ⟨rfl, rfl⟩ | rfl
      · obtain ⟨hl0, hl1⟩ := HL.out rfl
        obtain rfl := HB.out rfl
        have hl0i : ¬ ((PB.length : Int) = 0) := by omega
        have hl0j : (PB.length : Int) ≠ 0 := by omega
        have hl1i : ¬ ((600 : Int) < PB.length) := by omega
        have hrem : (z0 : Int).tmod (PB.length : Int) = ((z0 % PB.length : Nat) : Int) := by
          rw [Int.tmod_eq_emod_of_nonneg (by omega)]; simp
        have hkl : z0 % PB.length < PB.length := Nat.mod_lt _ hl0
        have HQ := Lib.hid (HFL.out (PB.take (z0 % PB.length)) (by simp; omega) (HT.out rfl _ hkl))
        generalize z0 % PB.length = k at hrem hkl HQ
        have hne : PB ≠ [] := by intro e; rw [e] at hl0; simp at hl0
        have hkl2 : k ≤ PB.length := by omega
        have hext : (⟨PB.toArray⟩ : ByteArray).extract 0 k = ⟨(PB.take k).toArray⟩ := by apply ByteArray.ext; simp [ByteArray.data_extract]
        have HEX := Lib.hid hext
        have HTK2 := Lib.hid (HTK.out (PB ++ [UInt8.ofNat z1]) (by simp; omega))
        have HMO := Lib.hid (HM.out rfl (UInt8.ofNat z1))
        clear hext HTK HM HFL HT HL HX HB
        go_wp2_with fail
        rw [HEX.out]
        refine (HQ.out _ hf4).mono ?_
        rintro e w5 ⟨rfl, hb5⟩
        have hf5 := hf4.trans hb5
        have hB5 := hB4.fr hb5
        have hB5' := hB4'.fr hb5
        have c15 := hb5.keep c1
        have hz6 : w.heap.size + 2 < w5.heap.size := by have := hb5.size; omega
        have hbyte : UInt8.ofNat ((z1 : Int) % 256).toNat = UInt8.ofNat z1 := by
          rw [show ((z1 : Int) % 256).toNat = z1 % 256 by omega]
          apply UInt8.toNat_inj.1
          simp
        have HBY := Lib.hid hbyte
        clear hbyte hB4 hB4' c0 c1 hz4 hz5
        have hpl : ((PB.length : Int) == 0) = false := by simp; omega
        have hcat : (⟨PB.toArray⟩ : ByteArray) ++ (⟨#[UInt8.ofNat (z1 % 256)]⟩ : ByteArray) = ⟨(PB ++ [UInt8.ofNat z1]).toArray⟩ := by
          rw [show UInt8.ofNat (z1 % 256) = UInt8.ofNat z1 by apply UInt8.toNat_inj.1; simp]
          exact mk_append PB [UInt8.ofNat z1]
        have HCA := Lib.hid hcat
        clear hcat
        go_wp2_with fail
        rw [HCA.out]
        have hz7 : w.heap.size + 2 < w5.heap.size := by omega
        refine (HTK2.out _ (hf5.alloc _)).mono ?_
        rintro e w6 ⟨t2, r2, rfl, ht2, hr2, hb6⟩
        obtain ⟨ta2, tn2, tc2, rfl⟩ := ht2.slice
        obtain ⟨ra2, rn2, rc2, rfl⟩ := hr2.slice
        have hf6 := (hf5.alloc _).trans hb6
        have hg6 := ((Fr.refl w5).alloc (Obj.cells #[Value.int IntKind.u8 ((z1 : Int) % 256)] 5)).trans hb6
        have hB6 := (hB5.fr hg6).alloc (.cells ((takeEv (PB ++ [UInt8.ofNat z1])).1.cells (.slice ta2 tn2 tc2) (.slice ra2 rn2 rc2)) 32)
        have hB6' := (hB5'.fr hg6).alloc (.cells ((takeEv (PB ++ [UInt8.ofNat z1])).1.cells (.slice ta2 tn2 tc2) (.slice ra2 rn2 rc2)) 32)
        have hz8 : w.heap.size + 2 < w6.heap.size := by have := hg6.size; omega
        have hne2 := HMO.out
        generalize takeEv (PB ++ [UInt8.ofNat z1]) = Y at hne2 hB6 hB6' ht2 hr2
        obtain ⟨y2, E2⟩ := Y
        simp only at hne2 hB6 hB6'
        have hne3 : ((E2 : Int) != 0) = true := by simp; omega
        have hf7 := hf6.alloc (.cells (y2.cells (.slice ta2 tn2 tc2) (.slice ra2 rn2 rc2)) 32)
        unfold Ev.val
        clear hne2 ht2 hr2 hB5 hB5' c15 hg6 HMO HTK2 HEX HQ
        rcases HY.out with ⟨rfl, hq⟩ | rfl
        · have hq := hq trivial
          have hs := HS.out _ hf7
          generalize hbq : (PB == QB) = S2 at hq
          subst hq
          have HS2 := Lib.hid hs
          clear HS HY hs
          cases S2
          all_goals
            go_wp2_with (first | ((with_reducible refine wpList_here (.store 32 (.tmp 11) (.tmp 64)) rfl ?_); refine wpList_store_new 32 (.tmp 11) (.tmp 64) rfl _ _ _ rfl rfl rfl Tryd.infoEv rfl (Ev.oneCell y2 ta2 ra2 tn2 tc2 rn2 rc2) rfl rfl ?_) | ((with_reducible refine wpList_here (.load 32 (.tmp 3)) rfl ?_); refine wpList_load_box 32 (.tmp 3) rfl _ rfl _ hB6 _ Tryd.underlying32 rfl Tryd.infoEv rfl ?_) | ((with_reducible refine wpList_here (.load 32 (.tmp 4)) rfl ?_); refine wpList_load_box 32 (.tmp 4) rfl _ rfl _ hB6' _ Tryd.underlying32 rfl Tryd.infoEv rfl ?_))
            refine HS2.out.mono ?_
            rintro e w7 ⟨rfl, hb7⟩
            have hf8 := hf7.trans hb7
            go_wp2_with fail
            refine (awake_c _ (HE.out.keep hf8)).mono ?_
            rintro e w8 ⟨rfl, hb8⟩
            have hf9 := hf8.trans hb8
            go_wp2_with fail
            go_ret
            exact ⟨rfl, hf9⟩
        · clear HS HY
          go_wp2_with ((with_reducible refine wpList_here (.store 32 (.tmp 11) (.tmp 64)) rfl ?_); refine wpList_store_new 32 (.tmp 11) (.tmp 64) rfl _ _ _ rfl rfl rfl Tryd.infoEv rfl (Ev.oneCell y2 ta2 ra2 tn2 tc2 rn2 rc2) rfl rfl ?_)
          refine (awake_c _ (HE.out.keep hf7)).mono ?_
          rintro e w8 ⟨rfl, hb8⟩
          have hf9 := hf7.trans hb8
          go_wp2_with fail
          go_ret
          exact ⟨rfl, hf9⟩
      · go_wp2_with fail
        refine (awake_c _ (HE.out.keep hf4)).mono ?_
        rintro e w5 ⟨rfl, hb5⟩
        have hf5 := hf4.trans hb5
        go_wp2_with fail
        go_ret
        exact ⟨rfl, hf5⟩
end Go.Proofs.YtgbaanioppblhaaDoor
