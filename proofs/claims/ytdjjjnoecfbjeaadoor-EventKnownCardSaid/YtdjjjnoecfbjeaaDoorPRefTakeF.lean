/- umpireref05.Take. No condition but the bytes' length. -/
import Derived.Test.YtdjjjnoecfbjeaaDoorPEvTakeE
import Derived.Test.YtdjjjnoecfbjeaaDoorPRefPutB
import Derived.Test.YtdjjjnoecfbjeaaDoorPEvTakeF
import Derived.Test.YtdjjjnoecfbjeaaDoorPEvOk
import Derived.Test.YtdjjjnoecfbjeaaDoorPEvSame
import Derived.Test.YtdjjjnoecfbjeaaDoorPEvCheck
set_option linter.all false
set_option linter.unusedVariables false
set_option linter.unusedSimpArgs false
set_option linter.unnecessarySimpa false
/- umpireref05.Take. No condition but the bytes' length. -/
namespace Go.Proofs.YtdjjjnoecfbjeaaDoor
open Go.RowKit

theorem rdBody_bad (x : Ev) (e : Nat) (s : List UInt8) (at_ : Nat) (he : e ≠ 0) (h1 : x.kind ≠ 1) : (rdBody x e s at_).2 = e := by
  unfold rdBody
  rw [if_neg h1]
  split
  · simp [rdOp, he]
  · split
    · have h0 : ofBe ([] : List UInt8) ≠ 1 := by simp [ofBe]
      simp [takeRes, rdRaw_bad, he, h0]
    · split
      · simp [rdTxn, rdRaw_bad, rdMics_err, he]
      · split
        · simp [rdReads, rdRaw_bad, rdLists_err, he]
        · rfl
end Go.Proofs.YtdjjjnoecfbjeaaDoor

/- umpireref05.Take of a config. No condition but the bytes' length. -/
namespace Go.Proofs.YtdjjjnoecfbjeaaDoor
open Go.RowKit

theorem BoxAt.eq {w : World} {b : Nat} {c c' : Array Value} {t : TypeId} (h : BoxAt w b c t) (e : c = c') : BoxAt w b c' t := e ▸ h
end Go.Proofs.YtdjjjnoecfbjeaaDoor

/- umpirelaw05.none, fails. No condition but the tables' content. -/
namespace Go.Proofs.YtdjjjnoecfbjeaaDoor
open Go.RowKit

set_option maxRecDepth 100000 in
set_option maxHeartbeats 1000000 in
theorem lNone_c (x : Ev) (v : Value) (w : World) (hE : Env w) (hx : EvAt w v x) (ok : x.Ok) (h0 : x.put.2 ≠ 0 → x.put.1 = [] ∧ x.put.2 = 4 ∧ x.check = 4) :
    Calls Tryd.prog 11 #[v] w fun e w' => e = .returned (.bool (decide (x.put.2 ≠ 0))) ∧ Fr w w' := by
  obtain ⟨⟨t, r, rfl, ht, hr⟩⟩ := hx
  obtain ⟨ta, tn, tc, rfl⟩ := ht.slice
  obtain ⟨ra, rn, rc, rfl⟩ := hr.slice
  have hpc := fun W (f : Fr w W) => Put_c x (x.val (.slice ta tn tc) (.slice ra rn rc)) W (hE.keep f) ⟨_, _, rfl, ht.keep f, hr.keep f⟩ ok
  have hcc := fun W (f : Fr w W) => EvCheck_c x (x.val (.slice ta tn tc) (.slice ra rn rc)) W (hE.keep f) ⟨_, _, rfl, ht.keep f, hr.keep f⟩ ok
  unfold Ev.val at hpc hcc ⊢
  generalize x.put = PQ at h0 hpc ⊢
  obtain ⟨P1, P2⟩ := PQ
  generalize x.check = K at h0 hcc
  simp only at h0 hpc ⊢
  have HP := Lib.hid hpc
  have HC := Lib.hid hcc
  have hB := BoxAt.new w (x.cells (.slice ta tn tc) (.slice ra rn rc)) 32
  have hf0 : Fr w (w.alloc (.cells (x.cells (.slice ta tn tc) (.slice ra rn rc)) 32)) := (Fr.refl w).alloc _
  clear hpc hcc ht hr hE ok
  by_cases hP : P2 = 0
  · subst hP
    rw [show decide ((0 : Nat) ≠ 0) = false from rfl]
    clear h0
    go_enter Tryd.func11, Tryd.ntmps11
    go_wp2_with ((with_reducible refine wpList_here (.load 32 (.tmp 1)) rfl ?_); refine wpList_load_box 32 (.tmp 1) rfl _ rfl _ hB _ Tryd.underlying32 rfl Tryd.infoEv rfl ?_)
    refine (HP.out _ hf0).mono ?_
    rintro e w1 ⟨rfl, hb1⟩
    have hf1 := hf0.trans hb1
    by_cases hn : P1 = []
    · subst hn
      go_wp2_with fail
      go_ret
      exact ⟨rfl, hf1⟩
    · have hnb : (P1 == []) = false := by simp [hn]
      go_wp2_with fail
      go_ret
      exact ⟨rfl, hf1⟩
  · obtain ⟨rfl, rfl, rfl⟩ := h0 hP
    rw [show decide ((4 : Nat) ≠ 0) = true from rfl]
    clear hP h0
    go_enter Tryd.func11, Tryd.ntmps11
    go_wp2_with ((with_reducible refine wpList_here (.load 32 (.tmp 1)) rfl ?_); refine wpList_load_box 32 (.tmp 1) rfl _ rfl _ hB _ Tryd.underlying32 rfl Tryd.infoEv rfl ?_)
    refine (HP.out _ hf0).mono ?_
    rintro e w1 ⟨rfl, hb1⟩
    have hf1 := hf0.trans hb1
    have hB1 := hB.fr hb1
    have hz := hB1.lt
    go_wp2_with ((with_reducible refine wpList_here (.load 32 (.tmp 1)) rfl ?_); refine wpList_load_box 32 (.tmp 1) rfl _ rfl _ hB1 _ Tryd.underlying32 rfl Tryd.infoEv rfl ?_)
    refine (HC.out _ hf1).mono ?_
    rintro e w2 ⟨rfl, hb2⟩
    have hf2 := hf1.trans hb2
    go_wp2_with fail
    go_ret
    exact ⟨rfl, hf2⟩
end Go.Proofs.YtdjjjnoecfbjeaaDoor

/- umpirelaw05.fails, puts, config, awake, where they answer yes. No condition but the tables' content. -/
namespace Go.Proofs.YtdjjjnoecfbjeaaDoor
open Go.RowKit

set_option maxRecDepth 100000 in
set_option maxHeartbeats 1000000 in
theorem lFails_yes (s : List UInt8) (want : Nat) (w : World) (hE : Env w) (hs : s.length < 1000000) (h : takeEv s = (.zero, want)) :
    Calls Tryd.prog 9 #[.string ⟨s.toArray⟩, .int .i64 want] w fun e w' => e = .returned (.bool true) ∧ Fr w w' := by
  have ht := evTake_c s w hE hs
  obtain ⟨y, E, hYE, hy, he⟩ : ∃ y E, takeEv s = (y, E) ∧ y = .zero ∧ E = want := ⟨_, _, h, rfl, rfl⟩
  rw [hYE] at ht
  subst he
  have HY := Lib.hid (decide_eq_true hy)
  have HT := Lib.hid ht
  clear ht hy hYE h hs
  go_enter Tryd.func9, Tryd.ntmps9
  go_wp2_with fail
  refine HT.out.mono ?_
  rintro e w1 ⟨t, r, rfl, ht1, hr1, hb1⟩
  obtain ⟨ta, tn, tc, rfl⟩ := ht1.slice
  obtain ⟨ra, rn, rc, rfl⟩ := hr1.slice
  have hB := BoxAt.new w1 (y.cells (.slice ta tn tc) (.slice ra rn rc)) 32
  have hf1 : Fr w1 (w1.alloc (.cells (y.cells (.slice ta tn tc) (.slice ra rn rc)) 32)) := (Fr.refl w1).alloc _
  have hsm' := (same_c (y.val (.slice ta tn tc) (.slice ra rn rc)) (Ev.zero.val nil0 nil0) y .zero _ ⟨_, _, rfl, ht1.keep hf1, hr1.keep hf1⟩ ⟨nil0, nil0, rfl, RdM.nil _, RdR.nil _⟩)
  rw [HY.out] at hsm'
  have hf2 := hb1.trans hf1
  unfold Ev.val at hsm' ⊢
  have hsm := Lib.hid hsm'
  clear ht1 hr1 hsm'
  go_wp2_with (first | ((with_reducible refine wpList_here (.store 32 (.tmp 5) (.tmp 10)) rfl ?_); refine wpList_store_new 32 (.tmp 5) (.tmp 10) rfl _ _ _ rfl rfl rfl Tryd.infoEv rfl (Ev.oneCell y ta ra tn tc rn rc) rfl rfl ?_) | ((with_reducible refine wpList_here (.load 32 (.tmp 5)) rfl ?_); refine wpList_load_box 32 (.tmp 5) rfl _ rfl _ hB _ Tryd.underlying32 rfl Tryd.infoEv rfl ?_))
  refine hsm.out.mono ?_
  rintro e w2 ⟨rfl, hb2⟩
  have hf3 := hf2.trans hb2
  go_wp2_with fail
  go_ret
  exact ⟨rfl, hf3⟩

set_option maxRecDepth 100000 in
set_option maxHeartbeats 1000000 in
theorem lPuts_yes (x : Ev) (v : Value) (s : List UInt8) (w : World) (hE : Env w) (hx : EvAt w v x) (ok : x.Ok) (hm : x.may = true) (hs : s = x.bytes) :
    Calls Tryd.prog 8 #[v, .string ⟨s.toArray⟩] w fun e w' => e = .returned (.bool true) ∧ Fr w w' := by
  obtain ⟨⟨t, r, rfl, ht, hr⟩⟩ := hx
  obtain ⟨ta, tn, tc, rfl⟩ := ht.slice
  obtain ⟨ra, rn, rc, rfl⟩ := hr.slice
  have hpc := fun W (f : Fr w W) => Put_c x (x.val (.slice ta tn tc) (.slice ra rn rc)) W (hE.keep f) ⟨_, _, rfl, ht.keep f, hr.keep f⟩ ok
  have hcc := fun W (f : Fr w W) => EvCheck_c x (x.val (.slice ta tn tc) (.slice ra rn rc)) W (hE.keep f) ⟨_, _, rfl, ht.keep f, hr.keep f⟩ ok
  have htc := fun W (f : Fr w W) => evTake_c s W (hE.keep f) (by have := (bytes_len hm).2; rw [hs]; omega)
  have hsc := fun W (f : Fr w W) (t2 r2 : Value) (h1 : RdM W t2 x.txn) (h2 : RdR W r2 x.reads) => same_c (x.val (.slice ta tn tc) (.slice ra rn rc)) (x.val t2 r2) x x W ⟨_, _, rfl, ht.keep f, hr.keep f⟩ ⟨_, _, rfl, h1, h2⟩
  rw [put_of hm, ← hs] at hpc
  rw [check_of hm] at hcc
  rw [hs, takeEv_bytes x ok hm, ← hs] at htc
  rw [decide_eq_true rfl] at hsc
  unfold Ev.val at hpc hcc hsc ⊢
  have HP := Lib.hid hpc
  have HC := Lib.hid hcc
  have HT := Lib.hid htc
  have HS := Lib.hid hsc
  have hB := BoxAt.new w (x.cells (.slice ta tn tc) (.slice ra rn rc)) 32
  have hf0 : Fr w (w.alloc (.cells (x.cells (.slice ta tn tc) (.slice ra rn rc)) 32)) := (Fr.refl w).alloc _
  clear hpc hcc htc hsc ht hr hE ok hm hs
  go_enter Tryd.func8, Tryd.ntmps8
  go_wp2_with ((with_reducible refine wpList_here (.load 32 (.tmp 2)) rfl ?_); refine wpList_load_box 32 (.tmp 2) rfl _ rfl _ hB _ Tryd.underlying32 rfl Tryd.infoEv rfl ?_)
  refine (HP.out _ hf0).mono ?_
  rintro e w1 ⟨rfl, hb1⟩
  have hf1 := hf0.trans hb1
  have hB1 := hB.fr hb1
  go_wp2_with fail
  refine (HT.out _ hf1).mono ?_
  rintro e w2 ⟨t2, r2, rfl, ht2, hr2, hb2⟩
  obtain ⟨ta2, tn2, tc2, rfl⟩ := ht2.slice
  obtain ⟨ra2, rn2, rc2, rfl⟩ := hr2.slice
  have hf2 := hf1.trans hb2
  have hB2 := (hB1.fr hb2).alloc (.cells (x.cells (.slice ta2 tn2 tc2) (.slice ra2 rn2 rc2)) 32)
  have hz := hB2.lt
  have hB3 := BoxAt.new w2 (x.cells (.slice ta2 tn2 tc2) (.slice ra2 rn2 rc2)) 32
  have hf3 := hf2.alloc (.cells (x.cells (.slice ta2 tn2 tc2) (.slice ra2 rn2 rc2)) 32)
  have hg : Fr w2 (w2.alloc (.cells (x.cells (.slice ta2 tn2 tc2) (.slice ra2 rn2 rc2)) 32)) := (Fr.refl w2).alloc _
  have hsm' := HS.out _ hf3 _ _ (ht2.keep hg) (hr2.keep hg)
  have hsm := Lib.hid hsm'
  unfold Ev.val
  clear hsm' ht2 hr2
  go_wp2_with (first | ((with_reducible refine wpList_here (.store 32 (.tmp 7) (.tmp 17)) rfl ?_); refine wpList_store_new 32 (.tmp 7) (.tmp 17) rfl _ _ _ rfl rfl rfl Tryd.infoEv rfl (Ev.oneCell x ta2 ra2 tn2 tc2 rn2 rc2) rfl rfl ?_) | ((with_reducible refine wpList_here (.load 32 (.tmp 2)) rfl ?_); refine wpList_load_box 32 (.tmp 2) rfl _ rfl _ hB2 _ Tryd.underlying32 rfl Tryd.infoEv rfl ?_) | ((with_reducible refine wpList_here (.load 32 (.tmp 7)) rfl ?_); refine wpList_load_box 32 (.tmp 7) rfl _ rfl _ hB3 _ Tryd.underlying32 rfl Tryd.infoEv rfl ?_))
  refine hsm.out.mono ?_
  rintro e w3 ⟨rfl, hb3⟩
  have hf4 := hf3.trans hb3
  have hB4 := hB2.fr hb3
  go_wp2_with ((with_reducible refine wpList_here (.load 32 (.tmp 2)) rfl ?_); refine wpList_load_box 32 (.tmp 2) rfl _ rfl _ hB4 _ Tryd.underlying32 rfl Tryd.infoEv rfl ?_)
  refine (HC.out _ hf4).mono ?_
  rintro e w4 ⟨rfl, hb4⟩
  have hf5 := hf4.trans hb4
  go_wp2_with fail
  go_ret
  exact ⟨rfl, hf5⟩
end Go.Proofs.YtdjjjnoecfbjeaaDoor

/- umpirelaw05.config, awake, few. No condition but the tables' content. -/
namespace Go.Proofs.YtdjjjnoecfbjeaaDoor
open Go.RowKit

def cfgEv : Ev := { Ev.zero with kind := 1, cfg := ⟨2, 8, 100, 1000, true, false, true⟩ }
theorem cfgEv_ok : cfgEv.Ok := by constructor <;> simp [cfgEv, Ev.zero, OpD.zero, Cfg.zero]
def infoEv : Ev := { Ev.zero with kind := 4, client := 3, id := 258 }
theorem infoEv_ok : infoEv.Ok := by constructor <;> simp [infoEv, Ev.zero, OpD.zero, Cfg.zero]
set_option maxRecDepth 100000 in
theorem lConfig_c (w : World) : Calls Tryd.prog 10 #[] w fun e w' => e = .returned (cfgEv.val nil0 nil0) ∧ Fr w w' := by
  go_enter Tryd.func10, Tryd.ntmps10
  go_wp2_with ((with_reducible refine wpList_here (.store 32 (.tmp 0) (.tmp 2)) rfl ?_); refine wpList_store_new 32 (.tmp 0) (.tmp 2) rfl _ (cfgEv.cells nil0 nil0) _ rfl rfl rfl Tryd.infoEv rfl (Ev.oneCell cfgEv none none 0 0 0 0) rfl rfl ?_)
  exact bodyPost_ret (v := cfgEv.val nil0 nil0) (results_cell_row rfl _ _ w.heap.size _ _ (0, 0) _ rfl (heap_alloc_last w _) Tryd.underlying32 rfl Tryd.infoEv) rfl ⟨rfl, (Fr.refl w).alloc _⟩

set_option maxRecDepth 100000 in
set_option maxHeartbeats 1000000 in
theorem awake_c (w : World) (hE : Env w) : Calls Tryd.prog 7 #[] w fun e w' => e = .returned (.bool true) ∧ Fr w w' := by
  have h1 := fun W (f : Fr w W) => lPuts_yes cfgEv (cfgEv.val nil0 nil0) [1, 2, 5, 8, 0, 100, 0, 0, 3, 232] W (hE.keep f) ⟨nil0, nil0, rfl, RdM.nil _, RdR.nil _⟩ cfgEv_ok (by decide) (by decide)
  have h2 := fun W (f : Fr w W) => lPuts_yes infoEv (infoEv.val nil0 nil0) [4, 3, 1, 2] W (hE.keep f) ⟨nil0, nil0, rfl, RdM.nil _, RdR.nil _⟩ infoEv_ok (by decide) (by decide)
  have h3 := fun W (f : Fr w W) => lFails_yes [] 5 W (hE.keep f) (by decide) (by decide)
  have h4 := fun W (f : Fr w W) => lFails_yes [8] 4 W (hE.keep f) (by decide) (by decide)
  have H1 := Lib.hid h1
  have H2 := Lib.hid h2
  have H3 := Lib.hid h3
  have H4 := Lib.hid h4
  clear h1 h2 h3 h4 hE
  go_enter Tryd.func7, Tryd.ntmps7
  go_wp2_with fail
  refine (lConfig_c _).mono ?_
  rintro e w1 ⟨rfl, hb1⟩
  go_wp2_with fail
  refine (H1.out _ hb1).mono ?_
  rintro e w2 ⟨rfl, hb2⟩
  have hf2 := hb1.trans hb2
  go_wp2_with fail
  refine (H2.out _ hf2).mono ?_
  rintro e w3 ⟨rfl, hb3⟩
  have hf3 := hf2.trans hb3
  go_wp2_with fail
  refine (H3.out _ hf3).mono ?_
  rintro e w4 ⟨rfl, hb4⟩
  have hf4 := hf3.trans hb4
  go_wp2_with fail
  refine (H4.out _ hf4).mono ?_
  rintro e w5 ⟨rfl, hb5⟩
  have hf5 := hf4.trans hb5
  go_wp2_with fail
  go_ret
  exact ⟨rfl, hf5⟩

/-- Some Bool. -/
def RetB (e : Ending) : Prop := ∃ b, e = .returned (.bool b)
end Go.Proofs.YtdjjjnoecfbjeaaDoor
