/- Events, one behind the other, answered as they should be. No condition but that they can be read. -/
import Derived.Test.YtdjjjnoecfbjeaaDoorPHisStepB
import Derived.Test.YtdjjjnoecfbjeaaDoorPArms
import Derived.Deep.AppendLies
set_option linter.all false
set_option linter.unusedVariables false
set_option linter.unusedSimpArgs false
set_option linter.unnecessarySimpa false
/- Events, one behind the other, answered as they should be. No condition but that they can be read. -/
namespace Go.Proofs.YtdjjjnoecfbjeaaDoor
open Go.RowKit
attribute [local go_sem] Oper.semAt_some

/-- The events that are taken of some. -/
def runTo (l : List Ev) : List Ev := l.foldl stepTo []
theorem runTo_take {l : List Ev} {k : Nat} (h : k < l.length) : runTo (l.take (k + 1)) = stepTo (runTo (l.take k)) l[k] := by
  unfold runTo
  rw [List.take_succ_eq_append_getElem h, List.foldl_append]
  rfl
theorem stepTo_len (L : List Ev) (x : Ev) : (stepTo L x).length ≤ L.length + 1 := by
  unfold stepTo
  split <;> simp
theorem foldl_len (l : List Ev) : ∀ L : List Ev, (l.foldl stepTo L).length ≤ L.length + l.length := by
  induction l with
  | nil => intro L; simp
  | cons x l ih =>
    intro L
    have h1 := ih (stepTo L x)
    have h2 := stepTo_len L x
    simp only [List.foldl_cons, List.length_cons]
    omega
theorem runTo_len (l : List Ev) : (runTo l).length ≤ l.length := by
  have := foldl_len l []
  simpa [runTo] using this
/-- Are they answered so? -/
def answers (l : List Ev) (want : List Nat) : Prop := want.length = l.length ∧ ∀ i (h : i < l.length) (h2 : i < want.length), want[i] = stepWhy (runTo (l.take i)) l[i]
/-- A list of numbers that can be read. -/
def RdI (w : World) (v : Value) (l : List Nat) : Prop := SlAt w Any v l.length (l.map fun n : Nat => Value.int .i64 (n : Int))
theorem Tryd.infoErr : (Tryd.prog.info? 39).map (·.size) = some 1 := by kernel_rfl
set_option maxRecDepth 100000 in
set_option maxHeartbeats 4000000 in
theorem steps_c (l : List Ev) (want : List Nat) (v u : Value) (w : World) (hE : Env w) (hl : RdE w v l) (hu : RdI w u want) (hok : ∀ x ∈ l, x.Ok) (hn : l.length ≤ 1000) (ha : answers l want) :
    Calls Tryd.prog 25 #[v, u] w fun e w' => e = .returned (.bool true) ∧ Fr w w' := by
  obtain ⟨hlen, hans⟩ := ha
  obtain ⟨a, cap, rfl, hcap, hmax, _⟩ := id hl
  obtain ⟨c, cap2, rfl, hcap2, hmax2, hus⟩ := hu
  unfold maxLen at hmax hmax2
  have hlI : ((l.length : Int) != (want.length : Int)) = false := by simp; omega
  have HL := Lib.hid hl
  have HE := Lib.hid hE
  have HN := Lib.hid hlen
  clear hl hE hlen
  go_enter Tryd.func25, Tryd.ntmps25
  go_wp2_with fail
  refine (new_c _).mono ?_
  rintro e w1 ⟨⟨p, bm, rfl, hp, hb, hA⟩, hf1⟩
  go_wp2_with fail
  go_loopw [6] (fun i wr => ∃ k : Nat, k ≤ l.length ∧ i = .int .i64 k ∧ Fr w wr ∧ Aut wr p bm (runTo (l.take k))) (fun i _ => l.length - (intOf i).toNat)
  case atStart => exact ⟨0, Nat.zero_le _, rfl, hf1, hA⟩
  case round =>
    clear hA hf1
    obtain ⟨k, hk, rfl, hfr, hA⟩ := hrel
    by_cases hlt : k < l.length
    · obtain ⟨b1, o1, t, r, rfl, hb1, hx0, ht0, hr0⟩ := RdE.at HL.out hlt
      have hx := rangeAt_keep hx0 (hfr.block hb1)
      have ht := ht0.keep hfr
      have hr := hr0.keep hfr
      have hc20 := hb1
      clear ht0 hr0 hc20
      have hltw : k < want.length := by rw [HN.out]; exact hlt
      obtain ⟨b2, o2, rfl, _, hb2, hcell⟩ := hus.resolve_left (by intro h; have := congrArg List.length h; simp at this; rw [this] at hltw; simp at hltw)
      have hc0 := hcell k _ (by rw [List.getElem?_map, List.getElem?_eq_getElem hltw]; rfl)
      have hc2 := hfr.keep hc0
      have hwk := hans k hlt hltw
      have hok1 := hok _ (List.getElem_mem hlt)
      have hrt := runTo_take hlt
      have hlen1 : (runTo (l.take k)).length ≤ 100000000 := by have := runTo_len (l.take k); simp at this; omega
      generalize want[k] = wk at hc0 hc2 hwk
      have hstep := fun W (hA : Aut W p bm (runTo (l.take k))) (hE : Env W) (hx : EvAt W (l[k].val t r) l[k]) => step_c W hA hE hx hok1 hlen1
      rw [← hwk] at hstep
      rw [← hrt] at hstep
      generalize l[k] = x at hx0 hx ht hr hwk hstep hrt
      obtain ⟨ta, tn, tc, rfl⟩ := ht.slice
      obtain ⟨ra, rn, rc, rfl⟩ := hr.slice
      have hk1 : k < cap := by omega
      have hk2 : k < cap2 := by omega
      have HA := Lib.hid hA
      have HX : Hid (EvAt wr (x.val (.slice ta tn tc) (.slice ra rn rc)) x) := ⟨_, _, rfl, ht, hr⟩
      have HS := Lib.hid hstep
      clear hA hstep hwk hrt hans hus ht hr hcell
      unfold Ev.val at HS HX
      go_wp2_with fail
      have HSS : wr.rangeAt b1 (o1 + k * 19) (x.cells (.slice ta tn tc) (.slice ra rn rc)).toList ∧ wr.cell? ⟨b2, o2 + k * 1, none⟩ = some (.int .i64 wk) := ⟨hx, by rw [Nat.mul_one]; exact hc2⟩
      refine wp_region_held (S := fun W' => W'.rangeAt b1 (o1 + k * 19) (x.cells (.slice ta tn tc) (.slice ra rn rc)).toList ∧ W'.cell? ⟨b2, o2 + k * 1, none⟩ = some (.int .i64 wk)) (by kernel_rfl) ?_
      refine takeD 0 23 (v := .pointer (some ⟨p, 0, none⟩)) rfl rfl (by kernel_rfl) (by kernel_rfl) (by kernel_rfl) (fun _ _ _ h => h) (yRun rfl fun _ _ => rfl) HSS ?_
      simp only [List.setIfInBounds_toArray, List.set_cons_succ, List.set_cons_zero]
      refine takeD 1 24 (v := .slice (some ⟨b1, o1, none⟩) l.length cap) rfl rfl (by kernel_rfl) (by kernel_rfl) (by kernel_rfl) (fun _ _ _ h => h) (yRun rfl fun _ _ => rfl) HSS ?_
      simp only [List.setIfInBounds_toArray, List.set_cons_succ, List.set_cons_zero]
      refine takeD 2 25 (v := .int .i64 k) rfl rfl (by kernel_rfl) (by kernel_rfl) (by kernel_rfl) (fun _ _ _ h => h) (yRun rfl fun _ _ => rfl) HSS ?_
      simp only [List.setIfInBounds_toArray, List.set_cons_succ, List.set_cons_zero]
      refine takeD 3 26 (v := .pointer (some ⟨b1, o1 + k * 19, none⟩)) rfl rfl (by kernel_rfl) (by kernel_rfl) (by kernel_rfl) (fun _ _ _ h => h) (yRun rfl fun _ _ => run_idx 42 32 (.tmp 24) (.tmp 25) rfl b1 o1 l.length cap k 19 .i64 rfl rfl Tryd.underlying42 Tryd.infoEv hlt) HSS ?_
      simp only [List.setIfInBounds_toArray, List.set_cons_succ, List.set_cons_zero]
      refine takeD 4 27 (v := .agg (x.cells (.slice ta tn tc) (.slice ra rn rc)).toList.toArray) rfl rfl (by kernel_rfl) (by kernel_rfl) (by kernel_rfl) (fun _ _ _ h => h) (yRun rfl fun _ hS => run_ld_mid 32 (.tmp 26) rfl b1 (o1 + k * 19) rfl _ _ hS.1 Tryd.underlying32 rfl Tryd.infoEv) HSS ?_
      simp only [List.setIfInBounds_toArray, List.set_cons_succ, List.set_cons_zero]
      refine takeD 6 29 (v := .slice (some ⟨b2, o2, none⟩) want.length cap2) rfl rfl (by kernel_rfl) (by kernel_rfl) (by kernel_rfl) (fun _ _ _ h => h) (yRun rfl fun _ _ => rfl) HSS ?_
      simp only [List.setIfInBounds_toArray, List.set_cons_succ, List.set_cons_zero]
      refine takeD 7 30 (v := .int .i64 k) rfl rfl (by kernel_rfl) (by kernel_rfl) (by kernel_rfl) (fun _ _ _ h => h) (yRun rfl fun _ _ => rfl) HSS ?_
      simp only [List.setIfInBounds_toArray, List.set_cons_succ, List.set_cons_zero]
      refine takeD 8 31 (v := .pointer (some ⟨b2, o2 + k * 1, none⟩)) rfl rfl (by kernel_rfl) (by kernel_rfl) (by kernel_rfl) (fun _ _ _ h => h) (yRun rfl fun _ _ => run_idx 57 39 (.tmp 29) (.tmp 30) rfl b2 o2 want.length cap2 k 1 .i64 rfl rfl Tryd.underlying57 Tryd.infoErr hltw) HSS ?_
      simp only [List.setIfInBounds_toArray, List.set_cons_succ, List.set_cons_zero]
      refine takeD 9 32 (v := .int .i64 wk) rfl rfl (by kernel_rfl) (by kernel_rfl) (by kernel_rfl) (fun _ _ _ h => h) (yRun rfl fun W hS => run_ld 39 (.tmp 31) rfl _ rfl _ (by have := hS.2; rw [Nat.mul_one] at this; simp [go_sem, Instr.loadAt, this, Tryd.underlying39])) HSS ?_
      simp only [List.setIfInBounds_toArray, List.set_cons_succ, List.set_cons_zero]
      refine wpAnyH_all (rs := [5]) (by kernel_rfl) (by simp) (fun i hi => ?_)
      obtain rfl : i = 5 := by simpa using hi
      refine wpOp_enter rfl rfl 15 #[.pointer (some ⟨p, 0, none⟩), x.val (.slice ta tn tc) (.slice ra rn rc)] (run_call Tryd.func15 (by kernel_rfl) rfl _ _ rfl _ (by simp [Act.eval]; rfl)) (.int .i64 wk) ?_
      refine (HS.out _ (HA.out.fr ((Fr.refl _).drew)) (HE.out.keep hfr.drew) (HX.out.keep ((Fr.refl _).drew))).mono ?_
      rintro e w2 ⟨rfl, hA2, hch2⟩
      have hF2 : Fr w w2 := Ch2.fr hfr.drew hch2 hp hb
      have hS2 : w2.rangeAt b1 (o1 + k * 19) (x.cells (.slice ta tn tc) (.slice ra rn rc)).toList ∧ w2.cell? ⟨b2, o2 + k * 1, none⟩ = some (.int .i64 wk) := ⟨rangeAt_keep hx0 (hF2.block hb1), by rw [Nat.mul_one]; exact hF2.keep hc0⟩
      refine ⟨rfl, hS2, ?_⟩
      refine wpAnyH_all (rs := [10]) (by kernel_rfl) (by simp) (fun i hi => ?_)
      obtain rfl : i = 10 := by simpa using hi
      refine wpOp_run rfl rfl (.bool false) w2 ?_ ?_
      · unfold execOp
        simp [go_sem, Act.eval, Act.put, Tryd.underlying39]
      refine ⟨hS2, wpAnyH_done (by kernel_rfl) ?_ _⟩
      have HA2 := Lib.hid hA2
      clear hA2 hch2 hS2 HSS hx hx0 hc0 hc2 HS HX HA
      simp only [Act.put, List.setIfInBounds_toArray, List.set_cons_succ, List.set_cons_zero]
      go_wp2_with fail
      go_roundw
      case rel => exact ⟨k + 1, by omega, by go_num, hF2, HA2.out⟩
      case measure => simp [intOf]; omega
    · clear hA hus hans
      go_wp2_with fail
      go_ret
      exact ⟨rfl, hfr⟩
end Go.Proofs.YtdjjjnoecfbjeaaDoor

/- The chapter's answers are had. No condition but the tables' content. -/
namespace Go.Proofs.YtdjjjnoecfbjeaaDoor
open Go.RowKit
attribute [local go_sem] Oper.semAt_some

theorem invOk {c i f v : Nat} (hc : c < 256) (hi : i < 65536) (hf : f < 256) (hv : v < 65536) : (invEv c i f v).Ok := by
  refine ⟨?_, ?_, ?_, ?_, ?_, ?_, ?_, ?_, ?_, ?_, ?_, ?_, ?_⟩ <;> simp [invEv, Ev.zero, OpD.zero, Cfg.zero] <;> omega
theorem retOk {c i f v : Nat} (hc : c < 256) (hi : i < 65536) (hf : f < 256) (hv : v < 65536) : (retEv c i f v).Ok := by
  refine ⟨?_, ?_, ?_, ?_, ?_, ?_, ?_, ?_, ?_, ?_, ?_, ?_, ?_⟩ <;> simp [retEv, Ev.zero, OpD.zero, Cfg.zero] <;> omega
theorem plainOk {k c i : Nat} (hk : k < 256) (hc : c < 256) (hi : i < 65536) : (plainEv k c i).Ok := by
  refine ⟨?_, ?_, ?_, ?_, ?_, ?_, ?_, ?_, ?_, ?_, ?_, ?_, ?_⟩ <;> simp [plainEv, Ev.zero, OpD.zero, Cfg.zero] <;> omega
theorem cfgOk {m : Nat} (hm : m < 256) : (cfgEv m).Ok := by
  refine ⟨?_, ?_, ?_, ?_, ?_, ?_, ?_, ?_, ?_, ?_, ?_, ?_, ?_⟩ <;> simp [cfgEv, Ev.zero, OpD.zero, Cfg.zero] <;> omega
theorem beginOk {c i : Nat} {l : List Mic} (hc : c < 256) (hi : i < 65536) (hl : ∀ m ∈ l, m.key < 256 ∧ m.v < 65536) : (beginEv c i l).Ok := by
  refine ⟨?_, ?_, ?_, ?_, ?_, ?_, ?_, ?_, ?_, ?_, hl, ?_, ?_⟩ <;> simp [beginEv, Ev.zero, OpD.zero, Cfg.zero] <;> omega
def awakeL : List Ev := [invEv 0 5 1 0, cfgEv 0, cfgEv 0, invEv 0 5 1 0, invEv 0 6 1 0, retEv 0 5 1 0]
def awakeW : List Nat := [11, 0, 11, 0, 9, 0]
theorem answers_of {l : List Ev} {want : List Nat} (h : (List.range l.length).map (fun i => (l[i]?).map (stepWhy (runTo (l.take i)))) = want.map some) : answers l want := by
  have hl : want.length = l.length := by have := congrArg List.length h; simpa using this.symm
  refine ⟨hl, fun i hi hi2 => ?_⟩
  have := congrArg (fun x => x[i]?) h
  simp [hi, hi2] at this
  exact this.symm
theorem awakeA : answers awakeL awakeW := answers_of (by kernel_rfl)
theorem RdI.new (w : World) (l : List Nat) (T : TypeId) (n : Nat) (hn : n = w.heap.size) (hl : l.length ≤ 1000) : RdI (w.alloc (.cells (l.map fun n : Nat => Value.int .i64 (n : Int)).toArray T)) (.slice (some ⟨n, 0, none⟩) l.length l.length) l := by
  subst hn
  refine ⟨_, _, rfl, Nat.le_refl _, by unfold maxLen; omega, .inr ⟨w.heap.size, 0, rfl, trivial, by simp, fun j u hj => ?_⟩⟩
  rw [Nat.zero_add, (BoxAt.new w _ T).cell]
  simpa using hj
set_option maxRecDepth 100000 in
set_option maxHeartbeats 4000000 in
theorem awake7_c (w : World) (hE : Env w) : Calls Tryd.prog 13 #[] w fun e w' => e = .returned (.bool true) ∧ Fr w w' := by
  go_enter Tryd.func13, Tryd.ntmps13
  go_wp2_with fail
  refine (invoke_c 0 5 1 0 _).mono ?_
  rintro e w1 ⟨rfl, f1⟩
  go_wp2_with fail
  refine (config_c 0 _).mono ?_
  rintro e w2 ⟨rfl, f2⟩
  go_wp2_with fail
  refine (config_c 0 _).mono ?_
  rintro e w3 ⟨rfl, f3⟩
  go_wp2_with fail
  refine (invoke_c 0 5 1 0 _).mono ?_
  rintro e w4 ⟨rfl, f4⟩
  go_wp2_with fail
  refine (invoke_c 0 6 1 0 _).mono ?_
  rintro e w5 ⟨rfl, f5⟩
  go_wp2_with fail
  refine (ret_c 0 5 1 0 _).mono ?_
  rintro e w6 ⟨rfl, f6⟩
  have hF : Fr w w6 := ((((f1.trans f2).trans f3).trans f4).trans f5).trans f6
  clear f1 f2 f3 f4 f5 f6
  go_wp2_with (refine wpList_buildEvs 6 _ rfl [(invEv 0 5 1 0, nil0, nil0), (cfgEv 0, nil0, nil0), (cfgEv 0, nil0, nil0), (invEv 0 5 1 0, nil0, nil0), (invEv 0 6 1 0, nil0, nil0), (retEv 0 5 1 0, nil0, nil0)] ?hev rfl (by decide) (by decide) ?hr rfl ?_)
  case hr =>
    intro e he
    simp at he
    rcases he with rfl | rfl | rfl | rfl | rfl <;> exact ⟨RdM.nil _, RdR.nil _⟩
  intro w7 f7 hs7 hR7
  go_wp2_with fail
  have hok : ∀ x ∈ awakeL, x.Ok := by
    intro x hx
    simp only [awakeL, List.mem_cons, List.not_mem_nil, or_false] at hx
    rcases hx with rfl | rfl | rfl | rfl | rfl | rfl
    all_goals first | exact invOk (by omega) (by omega) (by omega) (by omega) | exact cfgOk (by omega) | exact retOk (by omega) (by omega) (by omega) (by omega)
  have hI : RdI (w7.alloc (.cells (awakeW.map fun n : Nat => Value.int .i64 (n : Int)).toArray 39)) (.slice (some ⟨w6.heap.size + 1, 0, none⟩) 6 6) awakeW := RdI.new w7 awakeW _ _ hs7.symm (by decide)
  have f8 := f7.alloc (.cells (awakeW.map fun n : Nat => Value.int .i64 (n : Int)).toArray 39)
  refine (steps_c awakeL awakeW _ _ _ (hE.keep (hF.trans f8)) (hR7.keep ((Fr.refl w7).alloc _)) hI hok (by decide) awakeA).mono ?_
  rintro e w8 ⟨rfl, hf8⟩
  go_wp2_with fail
  go_ret
  exact ⟨rfl, (hF.trans f8).trans hf8⟩
end Go.Proofs.YtdjjjnoecfbjeaaDoor

/- May events be gone through? No condition but that they can be read. -/
namespace Go.Proofs.YtdjjjnoecfbjeaaDoor
open Go.RowKit
attribute [local go_sem] Oper.semAt_some

theorem RdM.len {w : World} {a : Option Addr} {n c : Nat} {l : List Mic} (h : RdM w (.slice a n c) l) : n = l.length ∧ n ≤ c ∧ c ≤ maxLen := by
  obtain ⟨_, _, he, h1, h2, _⟩ := h
  cases he
  exact ⟨rfl, h1, h2⟩
theorem RdR.len {w : World} {a : Option Addr} {n c : Nat} {l : List (List Nat)} (h : RdR w (.slice a n c) l) : n = l.length ∧ n ≤ c ∧ c ≤ maxLen := by
  obtain ⟨_, _, ⟨_, _, he, h1, h2, _⟩, _⟩ := h
  cases he
  exact ⟨rfl, h1, h2⟩
theorem RdR.cellAt {w : World} {a : Option Addr} {n c : Nat} {l : List (List Nat)} (h : RdR w (.slice a n c) l) {k : Nat} (hk : k < l.length) : ∃ b off d m e, a = some ⟨b, off, none⟩ ∧ b < w.heap.size ∧ w.cell? ⟨b, off + k, none⟩ = some (.slice d m e) ∧ m ≤ e ∧ e ≤ maxLen := by
  obtain ⟨vs, h1, ⟨_, _, he, _, _, hx⟩, h3⟩ := h
  cases he
  have hk2 : k < vs.length := by omega
  rcases hx with rfl | ⟨b, off, rfl, _, hb, hc⟩
  · simp at hk2
  · obtain ⟨d, e, hu, h4, h5, _⟩ := h3 k l[k] vs[k] (by simp [hk]) (by simp [hk2])
    exact ⟨b, off, d, _, e, rfl, hb, by rw [← hu]; exact hc k _ (by simp [hk2]), h4, h5⟩
/-- A bool that tells them few. -/
def FewP (w : World) (l : List Ev) (e : Ending) (w' : World) : Prop := ∃ b, e = .returned (.bool b) ∧ (b = true → l.length ≤ 120) ∧ Fr w w'
set_option maxRecDepth 100000 in
set_option maxHeartbeats 4000000 in
theorem few7_c (l : List Ev) (v : Value) (w : World) (hl : RdE w v l) : Calls Tryd.prog 12 #[v] w (FewP w l) := by
  obtain ⟨a, cap, rfl, hcap, hmax, _⟩ := id hl
  unfold maxLen at hmax
  have HL := Lib.hid hl
  clear hl
  go_enter Tryd.func12, Tryd.ntmps12
  go_wp2_with fail
  go_loopw [3] (fun i wr => ∃ k : Nat, k ≤ l.length ∧ i = .int .i64 k ∧ Fr w wr) (fun i _ => l.length - (intOf i).toNat)
  case atStart => exact ⟨0, Nat.zero_le _, rfl, Fr.refl _⟩
  case round =>
    obtain ⟨k, hk, rfl, hfr⟩ := hrel
    by_cases hlt : k < l.length
    · by_cases h130 : k < 130
      · obtain ⟨b1, o1, t, r, rfl, hb1, hx, ht, hr⟩ := RdE.at (HL.out.keep hfr) hlt
        have h130' : (k : Int) < 130 := by omega
        have hk1 : k < cap := by omega
        obtain ⟨ta, tn, tc, rfl⟩ := ht.slice
        obtain ⟨ra, rn, rc, rfl⟩ := hr.slice
        obtain ⟨ht1, ht2, ht3⟩ := ht.len
        obtain ⟨hr1, hr2, hr3⟩ := hr.len
        have c10 : wr.cell? ⟨b1, o1 + k * 19 + 10, none⟩ = some (.slice ta tn tc) := hx 10 _ rfl
        have c11 : wr.cell? ⟨b1, o1 + k * 19 + 11, none⟩ = some (.slice ra rn rc) := hx 11 _ rfl
        have HR := Lib.hid hr
        unfold maxLen at ht3 hr3
        clear hx ht hr
        by_cases h20 : 20 < tn
        · have hi : (20 : Int) < tn := by omega
          go_wp2_with fail
          go_ret
          exact ⟨false, rfl, (fun h => by cases h), hfr⟩
        · have hi : ¬ (20 : Int) < tn := by omega
          by_cases h20r : 20 < rn
          · have hj : (20 : Int) < rn := by omega
            go_wp2_with fail
            go_ret
            exact ⟨false, rfl, (fun h => by cases h), hfr⟩
          · have hj : ¬ (20 : Int) < rn := by omega
            go_wp2_with fail
            obtain ⟨W1, hW1⟩ : ∃ W1, W1 = wr := ⟨wr, rfl⟩
            subst hW1
            go_loopw [4] (fun i wr => ∃ j : Nat, j ≤ rn ∧ i = .int .i64 j ∧ Fr W1 wr) (fun i _ => rn - (intOf i).toNat)
            case atStart => exact ⟨0, Nat.zero_le _, rfl, Fr.refl _⟩
            case round =>
              obtain ⟨j, hjl, rfl, hf2⟩ := hrel
              have d11 := hf2.keep c11
              have hb2 : b1 < wr.heap.size := lt_of_cell d11
              clear c10 c11 hb1
              by_cases hjr : j < rn
              · obtain ⟨b3, o3, d, m, e, rfl, hb3, c3, hm1, hm2⟩ := (HR.out.keep hf2).cellAt (k := j) (by omega)
                unfold maxLen at hm2
                have hj1 : j < rc := by omega
                by_cases h40 : 40 < m
                · have h40' : (40 : Int) < m := by omega
                  go_wp2_with fail
                  go_ret
                  exact ⟨false, rfl, (fun h => by cases h), hfr.trans hf2⟩
                · have h40' : ¬ (40 : Int) < m := by omega
                  go_wp2_with fail
                  go_roundw
                  case rel => exact ⟨j + 1, by omega, by go_num, hf2⟩
                  case measure => simp [intOf]; omega
              · go_wp2_with fail
                go_roundw
                case rel => exact ⟨k + 1, by omega, by go_num, hfr.trans hf2⟩
                case measure => simp [intOf]; omega
      · have h130' : ¬ (k : Int) < 130 := by omega
        have hd : ¬ l.length ≤ 120 := by omega
        have hdi : ¬ (l.length : Int) ≤ 120 := by omega
        go_wp2_with fail
        go_ret
        exact ⟨_, rfl, (fun h => by simp at h <;> omega), hfr⟩
    · go_wp2_with fail
      go_ret
      exact ⟨_, rfl, (fun h => by simp at h <;> omega), hfr⟩
end Go.Proofs.YtdjjjnoecfbjeaaDoor

/- Automatons that are none. No condition but that it is none. -/
namespace Go.Proofs.YtdjjjnoecfbjeaaDoor
open Go.RowKit
attribute [local go_sem] Oper.semAt_some

/-- The cells of an automaton that nobody has made. -/
def notCells : Array Value := (Value.pointer none :: (List.replicate 16 (Value.pointer none) ++ [.int .i64 0, .map none])).toArray
/-- No automaton. -/
def NotAut (w : World) (v : Value) : Prop := v = .pointer none ∨ ∃ z, v = .pointer (some ⟨z, 0, none⟩) ∧ BoxAt w z notCells 64
theorem NotAut.fr {a w : World} {v : Value} (h : NotAut a v) (f : Fr a w) : NotAut w v := by
  rcases h with h | ⟨z, h, hB⟩
  · exact .inl h
  · exact .inr ⟨z, h, hB.fr f⟩
theorem run_equalIn_mnn (n : Nat) {P : Program} {t k e : TypeId} (h : P.underlying t = some (.map k e)) (W : World) : (Op.equalIn (n + 1) t (.map none) (.map none)).run P W = .ok true W := by
  simp [Op.equalIn, run_underlying h]
theorem run_neq_mnn {P : Program} {t k e : TypeId} (h : P.underlying t = some (.map k e)) (W : World) : (binOp .neq t (.map none) (.map none)).run P W = .ok (.bool false) W := by
  have e1 : (binOp .neq t (.map none) (.map none)).run P W = ((Op.equalIn 10000 t (.map none) (.map none)).run P W).andThen fun b w' => .ok (.bool !b) w' := by
    simp only [binOp]
    simp [Op.equal, Op.maxDepth]
  rw [e1, run_equalIn_mnn 9999 h]
  rfl
set_option maxRecDepth 100000 in
theorem isNot_c (v : Value) (w : World) (h : NotAut w v) : Calls Tryd.prog 32 #[v] w fun e w' => e = .returned (.bool false) ∧ Fr w w' := by
  rcases h with rfl | ⟨z, rfl, hB⟩
  · go_enter Tryd.func32, Tryd.ntmps32
    go_wp2
    all_goals go_ret
    all_goals exact ⟨rfl, Fr.refl _⟩
  · have c18 := hB.at 18 (v := .map none) rfl
    have hlt := hB.lt
    have hnil := run_neq_mnn (P := Tryd.prog) Tryd.underlying62 w
    clear hB
    go_enter Tryd.func32, Tryd.ntmps32
    go_wp2
    all_goals go_ret
    all_goals exact ⟨rfl, Fr.refl _⟩
set_option maxRecDepth 100000 in
theorem stepNot_c (v : Value) (w : World) (h : NotAut w v) (x : Ev) (t r : Value) : Calls Tryd.prog 15 #[v, x.val t r] w fun e w' => e = .returned (.int .i64 1) ∧ Fr w w' := by
  have hI := Lib.hid (fun W (f : Fr w W) => isNot_c v W (h.fr f))
  clear h
  have hF0 : Fr w (w.alloc (.cells (x.cells t r) 32)) := (Fr.refl w).alloc _
  unfold Ev.val
  unfold Ev.cells at hF0
  go_enter Tryd.func15, Tryd.ntmps15
  go_wp2_with fail
  refine (hI.out _ hF0).mono ?_
  rintro e w1 ⟨rfl, hf⟩
  go_wp2_with fail
  go_ret
  exact ⟨rfl, hF0.trans hf⟩
set_option maxRecDepth 100000 in
theorem lastNot_c (v : Value) (w : World) (h : NotAut w v) : Calls Tryd.prog 19 #[v] w fun e w' => e = .returned (.int .i64 (-1)) ∧ Fr w w' := by
  have hI := Lib.hid (fun W (f : Fr w W) => isNot_c v W (h.fr f))
  clear h
  go_enter Tryd.func19, Tryd.ntmps19
  go_wp2_with fail
  refine (hI.out _ (Fr.refl _)).mono ?_
  rintro e w1 ⟨rfl, hf⟩
  go_wp2_with fail
  go_ret
  exact ⟨rfl, hf⟩
set_option maxRecDepth 100000 in
theorem copyNot_c (v : Value) (w : World) (h : NotAut w v) : Calls Tryd.prog 17 #[v] w fun e w' => e = .returned (.pointer none) ∧ Fr w w' := by
  have hI := Lib.hid (fun W (f : Fr w W) => isNot_c v W (h.fr f))
  clear h
  go_enter Tryd.func17, Tryd.ntmps17
  go_wp2_with fail
  refine (hI.out _ (Fr.refl _)).mono ?_
  rintro e w1 ⟨rfl, hf⟩
  go_wp2_with fail
  go_ret
  exact ⟨rfl, hf⟩
set_option maxRecDepth 100000 in
theorem configNot_c (v : Value) (w : World) (h : NotAut w v) : Calls Tryd.prog 26 #[v] w fun e w' => e = .returned (.tuple #[.agg Cfg.zero.cells.toArray, .bool false]) ∧ Fr w w' := by
  have hI := Lib.hid (fun W (f : Fr w W) => isNot_c v W (h.fr f))
  clear h
  go_enter Tryd.func26, Tryd.ntmps26
  go_wp2_with fail
  refine (hI.out _ ((Fr.refl _).alloc _)).mono ?_
  rintro e w1 ⟨rfl, hb⟩
  have hf := ((Fr.refl _).alloc _).trans hb
  have hl1 : w.heap.size < w1.heap.size := by have := hb.size; simp at this; omega
  have hB := BoxAt.of_fr hb
  clear hb hI
  have e0 := hB.at 0 rfl
  have e1 := hB.at 1 rfl
  have e2 := hB.at 2 rfl
  have e3 := hB.at 3 rfl
  have e4 := hB.at 4 rfl
  have e5 := hB.at 5 rfl
  have e6 := hB.at 6 rfl
  have z0 := hB.free 0
  have z1 := hB.free 1
  have z2 := hB.free 2
  have z3 := hB.free 3
  have z4 := hB.free 4
  have z5 := hB.free 5
  have z6 := hB.free 6
  go_wp2
  refine bodyPost_ret (v := .tuple #[.agg Cfg.zero.cells.toArray, .bool false]) (by simp [results, Tryd.results26, go_sem, Cfg.zero, Cfg.cells, e0, e1, e2, e3, e4, e5, e6]) rfl ⟨rfl, ?_⟩
  exact (((((((hf.setCell (by simp) _).setCell (by simp) _).setCell (by simp) _).setCell (by simp) _).setCell (by simp) _).setCell (by simp) _).setCell (by simp) _)
set_option maxRecDepth 100000 in
set_option maxHeartbeats 2000000 in
theorem pendingNot_c (v : Value) (w : World) (h : NotAut w v) (k : Nat) : Calls Tryd.prog 27 #[v, .int .u8 k] w fun e w' => e = .returned (.tuple #[Ev.zero.val nil0 nil0, .bool false]) ∧ Fr w w' := by
  have HI := Lib.hid (fun W (f : Fr w W) => isNot_c v W (h.fr f))
  clear h
  have hZ := BoxAt.new w (Ev.zero.cells nil0 nil0) 32
  have hF0 := (Fr.refl w).alloc (.cells (Ev.zero.cells nil0 nil0) 32)
  go_enter Tryd.func27, Tryd.ntmps27
  go_wp2_with fail
  refine (HI.out _ hF0).mono ?_
  rintro e w1 ⟨rfl, hb⟩
  have hF1 := hF0.trans hb
  have hZ1 := hZ.fr hb
  clear hb hZ
  go_wp2_with ((with_reducible refine wpList_here (.store 32 (.tmp 4) (.tmp 22)) rfl ?_); refine wpList_store_old 32 (.tmp 4) (.tmp 22) rfl w.heap.size _ (Ev.zero.cells nil0 nil0) rfl rfl hZ1 Tryd.infoEv rfl zero_one rfl rfl ?_; intro w2 hw2)
  exact bodyPost_ret (v := .tuple #[.agg (Ev.zero.cells nil0 nil0), .bool false]) (results_evb rfl _ _ w.heap.size _ _ rfl rfl hw2.box rfl) rfl ⟨rfl, hw2.fr hF1 (Nat.le_refl _)⟩
set_option maxRecDepth 100000 in
set_option maxHeartbeats 2000000 in
theorem openNot_c (v : Value) (w : World) (h : NotAut w v) : Calls Tryd.prog 18 #[v] w fun e w' => e = .returned (.int .i64 0) ∧ Fr w w' := by
  have hpd := fun k W (f : Fr w W) => pendingNot_c v W (h.fr f) k
  have HP := Lib.hid hpd
  clear hpd h
  go_enter Tryd.func18, Tryd.ntmps18
  go_wp2_with fail
  go_loopw [3, 7] (fun n i wr => ∃ k : Nat, k ≤ 16 ∧ i = .int .u8 k ∧ n = .int .i64 0 ∧ Fr w wr) (fun _ i _ => 16 - (intOf i).toNat)
  case atStart => exact ⟨0, Nat.zero_le _, rfl, rfl, Fr.refl _⟩
  case round =>
    obtain ⟨k, hk, rfl, rfl, hfr⟩ := hrel
    by_cases h16 : k < 16
    · go_wp2_with fail
      refine (HP.out k _ hfr).mono ?_
      rintro e w1 ⟨rfl, hf1⟩
      go_wp2_with ((with_reducible refine wpList_here (.store 32 (.tmp 5) (.tmp 14)) rfl ?_); refine wpList_store_new 32 (.tmp 5) (.tmp 14) rfl _ (Ev.zero.cells nil0 nil0) _ rfl rfl rfl Tryd.infoEv rfl zero_one rfl rfl ?_)
      go_roundw
      case rel => exact ⟨k + 1, by omega, by go_num, rfl, (hfr.trans hf1).alloc _⟩
      case measure => simp [intOf]; omega
    · obtain rfl : k = 16 := by omega
      go_wp2_with fail
      go_ret
      exact ⟨rfl, hfr⟩
end Go.Proofs.YtdjjjnoecfbjeaaDoor

/- A list of events that a call has made, and what is appended to it. No condition but what each says. -/
namespace Go.Proofs.YtdjjjnoecfbjeaaDoor
open Go.RowKit

def evFlat (trs : List (Ev × Value × Value)) : List Value := trs.flatMap fun e => (e.1.cells e.2.1 e.2.2).toList
theorem evFlat_len (trs : List (Ev × Value × Value)) : (evFlat trs).length = trs.length * 19 := by
  induction trs with
  | nil => rfl
  | cons e l ih =>
    have h19 : (e.1.cells e.2.1 e.2.2).toList.length = 19 := rfl
    simp only [evFlat, List.flatMap_cons, List.length_append, List.length_cons] at ih ⊢
    omega
/-- A list of events of the call's own: what they lead to stood ahead. -/
def OwE (w0 w : World) (v : Value) (L : List Ev) : Prop := ∃ trs : List (Ev × Value × Value), trs.map (·.1) = L ∧ w.ownsRow w0.heap.size 32 19 v L.length (evFlat trs) ∧ ∀ e ∈ trs, RdM w0 e.2.1 e.1.txn ∧ RdR w0 e.2.2 e.1.reads
theorem OwE.nil (w0 w : World) : OwE w0 w (.slice none 0 0) [] := ⟨[], rfl, ⟨rfl, .inl ⟨rfl, rfl⟩⟩, fun e he => by cases he⟩
theorem OwE.lt {w0 w : World} {v : Value} {L : List Ev} (h : OwE w0 w v L) : ∀ k, v.ownBlock = some k → w0.heap.size ≤ k ∧ k < w.heap.size := by
  obtain ⟨trs, _, h2, _⟩ := h
  exact h2.lt
theorem ownsRow_keep {w w' : World} {base : Nat} {e : TypeId} {size n : Nat} {v : Value} {xs : List Value} (h : w.ownsRow base e size v n xs) (hb : ∀ k, v.ownBlock = some k → w'.heap[k]? = w.heap[k]?) : w'.ownsRow base e size v n xs := by
  obtain ⟨h1, h2⟩ := h
  refine ⟨h1, ?_⟩
  rcases h2 with h2 | ⟨g, cap, cur, rfl, g1, g2, g3⟩
  · exact .inl h2
  · exact .inr ⟨g, cap, cur, rfl, g1, (hb g rfl).trans g2, g3⟩
theorem OwE.keep {w0 w w' : World} {v : Value} {L : List Ev} (h : OwE w0 w v L) (hb : ∀ k, v.ownBlock = some k → w'.heap[k]? = w.heap[k]?) : OwE w0 w' v L := by
  obtain ⟨trs, h1, h2, h3⟩ := h
  exact ⟨trs, h1, ownsRow_keep h2 hb, h3⟩
theorem OwE.fr {w0 w w' : World} {v : Value} {L : List Ev} (h : OwE w0 w v L) (f : Fr w w') : OwE w0 w' v L := h.keep fun k hk => f.block (h.lt k hk).2
theorem OwE.rd {w0 w : World} {v : Value} {L : List Ev} (h : OwE w0 w v L) (f : Fr w0 w) : RdE w v L := by
  obtain ⟨trs, rfl, ⟨h1, h2⟩, h3⟩ := h
  rcases h2 with ⟨rfl, h2⟩ | ⟨g, cap, cur, rfl, g1, g2, g3, g4, g5, g6⟩
  · have : trs = [] := by simpa using h2
    subst this
    exact ⟨none, 0, rfl, Nat.le_refl _, by decide, .inl rfl⟩
  · refine ⟨_, cap, rfl, g3, g4, .inr ⟨g, 0, rfl, ?_, fun i hi => ?_⟩⟩
    · rcases Nat.lt_or_ge g w.heap.size with h | h
      · exact h
      · rw [Array.getElem?_eq_none h] at g2; cases g2
    · have hi2 : i < trs.length := by simpa using hi
      have he : (trs.map (·.1))[i] = trs[i].1 := by simp
      rw [he]
      obtain ⟨m1, m2⟩ := h3 _ (List.getElem_mem hi2)
      refine ⟨trs[i].2.1, trs[i].2.2, fun j u hj => ?_, m1.keep f, m2.keep f⟩
      have h4 := flat19 (g := fun e : Ev × Value × Value => (e.1.cells e.2.1 e.2.2).toList) (fun _ => rfl) trs i j hi2 u hj
      have h5 : (cur.toList.take ((trs.map (·.1)).length * 19))[i * 19 + j]? = some u := by rw [g6]; exact h4
      have h6 := cell_of_row w g (i * 19 + j) cur 32 (0, 0) g2
      rw [Nat.zero_add, h6]
      have hlt : i * 19 + j < (trs.map (·.1)).length * 19 := by
        have := (List.getElem?_eq_some_iff.1 h5).1
        simp only [List.length_take] at this
        omega
      rw [List.getElem?_take_of_lt hlt] at h5
      simpa using h5
theorem Tryd.infoEvB : (Tryd.prog.info? 32).map (fun i => (i.zero, i.size, i.bytes)) = some (some (Ev.zero.val nil0 nil0), 19, 104) := by kernel_rfl
theorem evFlat_one (trs : List (Ev × Value × Value)) (h : ∀ e ∈ trs, (∃ a n c, e.2.1 = .slice a n c) ∧ ∃ a n c, e.2.2 = .slice a n c) : ∀ u ∈ evFlat trs, u.oneCell' = true := by
  intro u hu
  obtain ⟨e, he, hu⟩ := List.mem_flatMap.1 hu
  obtain ⟨⟨a, n, c, h1⟩, a', n', c', h2⟩ := h e he
  rw [h1, h2] at hu
  have := Ev.oneCell e.1 a a' n c n' c'
  rw [Array.all_eq_true_iff_forall_mem] at this
  exact this u (by simpa using hu)
/-- One event is appended. -/
theorem wpList_appendEv {w0 w : World} {ops : Array Oper} {rest : List Oper} {o : Oper} {a : Act} {Q : Exit → Act → World → Prop} (hgd : o.guard = none) (s x : Operand)
    (ho : o.op = .call { callee := .builtin .append, args := #[s, x], argTypes := #[42, 42] }) (v : Value) (L : List Ev) (hs : a.eval s = v) (hown : OwE w0 w v L) (f : Fr w0 w)
    (b c : Nat) (y : Ev) (t r : Value) (hx : a.eval x = .slice (some ⟨b, 0, none⟩) 1 c) (hy : w.rangeAt b 0 (y.cells t r).toList) (ht : RdM w0 t y.txn) (hr : RdR w0 r y.reads) (hn : L.length ≤ 100000)
    (h : ∀ v' w', OwE w0 w' v' (L ++ [y]) → w.grownBy w' v.ownBlock → (∀ k, v'.ownBlock = some k → v.ownBlock = some k ∨ k = w.heap.size) → Fr w0 w' → wpList Tryd.prog ops Q rest (a.put o.dst v') w') : wpList Tryd.prog ops Q (o :: rest) a w := by
  obtain ⟨i0, hi0, hz0, hz1, hz2⟩ := info_parts Tryd.infoEvB
  obtain ⟨trs, hL, hrow, hrd⟩ := hown
  refine wpList_append_lies _ hgd s x 42 ho w0.heap.size 32 i0 _ 19 104 Tryd.underlying42 hi0 hz0 hz1 hz2 rfl (by omega) v L.length (evFlat trs) hs hrow ⟨b, 0, none⟩ 1 c (y.cells t r).toList hx rfl (fun j u hj => ?_) (fun u hu => ?_) (by omega) (by unfold maxLen; omega) (by omega) f.size w.heap.size rfl ?_
  · rw [WideShapes.add_plain]; exact hy j u hj
  · exact evFlat_one [(y, t, r)] (fun e he => by obtain rfl := List.mem_singleton.1 he; exact ⟨ht.slice, hr.slice⟩) u (by simpa [evFlat] using hu)
  · intro g cap w' hown' hgrow hat hlt
    refine h _ w' ⟨trs ++ [(y, t, r)], by simp [hL], ?_, fun e he => ?_⟩ hgrow (fun k hk => ?_) ?_
    · have : evFlat (trs ++ [(y, t, r)]) = evFlat trs ++ (y.cells t r).toList := by simp [evFlat]
      rw [this]
      simpa using hown'
    · rcases List.mem_append.1 he with he | he
      · exact hrd e he
      · obtain rfl := List.mem_singleton.1 he; exact ⟨ht, hr⟩
    · simp [Value.ownBlock] at hk
      subst hk
      exact hat
    · exact f.grown hgrow f.size fun k hk => (hrow.lt k hk).1
/-- An automaton that does not use the list's block stays. -/
theorem AutIn.append {w w' : World} {p bm : Nat} {M : List Ev} {v v' : Value} (h : AutIn (fun k => v.ownBlock ≠ some k) w p bm M) (hg : w.grownBy w' v.ownBlock) (hat : ∀ k, v'.ownBlock = some k → v.ownBlock = some k ∨ k = w.heap.size) : AutIn (fun k => v'.ownBlock ≠ some k) w' p bm M := by
  have h1 : AutIn (fun k => v.ownBlock ≠ some k ∧ k < w.heap.size) w p bm M := by
    obtain ⟨cv, pv, n, D, g1, g2, zp, zb, zc, zv⟩ := h
    refine ⟨cv, pv, n, D, g1, g2, ⟨zp, g1.box.lt⟩, ⟨zb, g1.map.own.lt⟩, ?_, fun c u hu x hx => ?_⟩
    · have hc := g1.cfg
      cases M with
      | nil => exact .inl hc
      | cons y l =>
        obtain ⟨b, hb, hB⟩ := hc
        rcases zc with zc | ⟨b', hb', hz⟩
        · exact .inl zc
        · rw [hb'] at hb; cases hb
          exact .inr ⟨_, hb', hz, hB.lt⟩
    · obtain ⟨b, t, r, k1, k2, k3, k4, k5⟩ := zv c u hu x hx
      refine ⟨b, t, r, k1, ⟨k2, k3.lt⟩, k3, ?_, k5⟩
      obtain ⟨a, cap, rfl, q1, q2, q3⟩ := k4
      refine ⟨a, cap, rfl, q1, q2, ?_⟩
      rcases q3 with q3 | ⟨b1, off, rfl, hz, hlt, hc⟩
      · exact .inl q3
      · exact .inr ⟨b1, off, rfl, ⟨hz, hlt⟩, hlt, hc⟩
  have h2 := h1.keep hg.size fun k hz hk => hg.block k hk (fun e => hz.1 e.symm)
  exact h2.mono fun k hz e => by
    rcases hat k e with h | h
    · exact hz.1 h
    · have := hz.2; omega
end Go.Proofs.YtdjjjnoecfbjeaaDoor

/- Slice literals in a drawn region: of micros, of events, of numbers. No condition but what each says. -/
namespace Go.Proofs.YtdjjjnoecfbjeaaDoor
open Go.RowKit

theorem evalOf {a : Act} {t : Tmp} {v : Value} (h : a.tmps[t]? = some v) : a.eval (.tmp t) = v := by simp [Act.eval, h]
/-- A slice literal, every place written. -/
theorem run_bs {P : Program} {o : Oper} {a : Act} {w : World} (t e : TypeId) (len : Nat) (parts : Array (Nat × Operand)) (ho : o.op = .buildSlice t len parts) (vs : List Value) (hev : (parts.map fun (i, x) => (i, a.eval x)).toList = (vs.zipIdx 0).map fun x => (x.2, x.1))
    (s : Nat) (hs : 0 < s) (hvs : ∀ v ∈ vs, v.cells.size = s) (hu : P.underlying t = some (.slice e)) (hi : (P.info? e).map (fun i => (i.zero.isSome, i.size)) = some (true, s)) (hlen : len = vs.length) (hpos : 0 < len) (hsm : len * s ≤ 2 ^ 24) :
    (execOp a.eval o).run P w = .ok (.value (.slice (some ⟨w.heap.size, 0, none⟩) len len)) (w.alloc (.cells (vs.flatMap fun v => v.cells.toList).toArray e)) := by
  cases hie : P.info? e with
  | none => simp [hie] at hi
  | some ie =>
    simp only [hie, Option.map_some, Option.some.injEq, Prod.mk.injEq] at hi
    obtain ⟨hz, hsz⟩ := hi
    obtain ⟨z, hzz⟩ := Option.isSome_iff_exists.1 hz
    have h0 : ¬ len * ie.size = 0 := by rw [hsz]; have := Nat.mul_pos hpos hs; omega
    have hr := run_buildSlice w t e len (parts.map fun (i, x) => (i, a.eval x)) (vs.flatMap fun v => v.cells.toList).toArray ie z hu hie hzz (by rw [hsz]; omega) h0 (by rw [hev]; exact Great.fill_whole (s := ie.size) (by rw [hsz]; exact hs) vs _ (by rw [hsz]; exact hvs) (by simp [hlen]))
    unfold execOp
    simp only [ho, Sem.run_bind, hr, Result.andThen_ok, Sem.run_pure]
theorem mic_flat (l : List Mic) : ((l.map Mic.val).flatMap fun v => v.cells.toList) = micCells l := by
  induction l with
  | nil => rfl
  | cons m l ih => rw [List.map_cons, List.flatMap_cons, ih]; rfl
theorem rdM_new {w : World} {n : Nat} (l : List Mic) (hn : n = w.heap.size) (hl : l.length ≤ 1000) : RdM (w.alloc (.cells (micCells l).toArray 34)) (.slice (some ⟨n, 0, none⟩) l.length l.length) l := by
  subst hn
  refine ⟨_, _, rfl, Nat.le_refl _, by unfold maxLen; omega, .inr ⟨w.heap.size, 0, rfl, trivial, by simp, fun j u hj => ?_⟩⟩
  rw [Nat.zero_add, (BoxAt.new w _ _).cell]
  simpa using hj
theorem rdE_new {w : World} {n : Nat} (evs : List (Ev × Value × Value)) (hn : n = w.heap.size) (hl : evs.length ≤ 1000) (hr : ∀ e ∈ evs, RdM w e.2.1 e.1.txn ∧ RdR w e.2.2 e.1.reads) : RdE (w.alloc (.cells (evFlat evs).toArray 32)) (.slice (some ⟨n, 0, none⟩) evs.length evs.length) (evs.map (·.1)) := by
  subst hn
  refine ⟨_, evs.length, by simp, by simp, by unfold maxLen; omega, .inr ⟨w.heap.size, 0, rfl, by simp, fun i hi => ?_⟩⟩
  have hi2 : i < evs.length := by simpa using hi
  have h1 : (evs.map (·.1))[i] = evs[i].1 := by simp
  rw [h1]
  have := hr _ (List.getElem_mem hi2)
  refine ⟨evs[i].2.1, evs[i].2.2, fun j u hj => ?_, this.1.keep ((Fr.refl w).alloc _), this.2.keep ((Fr.refl w).alloc _)⟩
  have := flat19 (g := fun e : Ev × Value × Value => (e.1.cells e.2.1 e.2.2).toList) (fun _ => rfl) evs i j hi2 u hj
  rw [(BoxAt.new w _ _).cell, Nat.zero_add]
  simpa [evFlat] using this
theorem Tryd.infoMicS : (Tryd.prog.info? 34).map (fun i => (i.zero.isSome, i.size)) = some (true, 3) := by kernel_rfl
theorem Tryd.infoEvS : (Tryd.prog.info? 32).map (fun i => (i.zero.isSome, i.size)) = some (true, 19) := by kernel_rfl
theorem Tryd.infoErrS : (Tryd.prog.info? 39).map (fun i => (i.zero.isSome, i.size)) = some (true, 1) := by kernel_rfl
theorem run_bsMic {o : Oper} {a : Act} {w : World} (len : Nat) (parts : Array (Nat × Operand)) (ho : o.op = .buildSlice 27 len parts) (l : List Mic) (hev : (parts.map fun (i, x) => (i, a.eval x)).toList = ((l.map Mic.val).zipIdx 0).map fun x => (x.2, x.1)) (hlen : len = l.length) (hpos : 0 < len) (hsm : len ≤ 1000) :
    (execOp a.eval o).run Tryd.prog w = .ok (.value (.slice (some ⟨w.heap.size, 0, none⟩) len len)) (w.alloc (.cells (micCells l).toArray 34)) := by
  have := run_bs (w := w) 27 34 len parts ho (l.map Mic.val) hev 3 (by omega) (fun v hv => by obtain ⟨m, _, rfl⟩ := List.mem_map.1 hv; rfl) Tryd.underlying27 Tryd.infoMicS (by simp [hlen]) hpos (by omega)
  rw [mic_flat] at this
  exact this
theorem run_bsEv {o : Oper} {a : Act} {w : World} (len : Nat) (parts : Array (Nat × Operand)) (ho : o.op = .buildSlice 42 len parts) (evs : List (Ev × Value × Value)) (hev : (parts.map fun (i, x) => (i, a.eval x)).toList = ((evs.map fun e => e.1.val e.2.1 e.2.2).zipIdx 0).map fun x => (x.2, x.1)) (hlen : len = evs.length) (hpos : 0 < len) (hsm : len ≤ 1000) :
    (execOp a.eval o).run Tryd.prog w = .ok (.value (.slice (some ⟨w.heap.size, 0, none⟩) len len)) (w.alloc (.cells (evFlat evs).toArray 32)) := by
  have := run_bs (w := w) 42 32 len parts ho (evs.map fun e => e.1.val e.2.1 e.2.2) hev 19 (by omega) (fun v hv => by obtain ⟨m, _, rfl⟩ := List.mem_map.1 hv; rfl) Tryd.underlying42 Tryd.infoEvS (by simp [hlen]) hpos (by omega)
  rw [evs_cells] at this
  exact this
theorem run_bsInt {o : Oper} {a : Act} {w : World} (len : Nat) (parts : Array (Nat × Operand)) (ho : o.op = .buildSlice 57 len parts) (l : List Nat) (hev : (parts.map fun (i, x) => (i, a.eval x)).toList = ((l.map fun n : Nat => Value.int .i64 (n : Int)).zipIdx 0).map fun x => (x.2, x.1)) (hlen : len = l.length) (hpos : 0 < len) (hsm : len ≤ 1000) :
    (execOp a.eval o).run Tryd.prog w = .ok (.value (.slice (some ⟨w.heap.size, 0, none⟩) len len)) (w.alloc (.cells (l.map fun n : Nat => Value.int .i64 (n : Int)).toArray 39)) := by
  have h := run_bs (w := w) 57 39 len parts ho (l.map fun n : Nat => Value.int .i64 (n : Int)) hev 1 (by omega) (fun v hv => by obtain ⟨m, _, rfl⟩ := List.mem_map.1 hv; rfl) Tryd.underlying57 Tryd.infoErrS (by simp [hlen]) hpos (by omega)
  have e : ((l.map fun n : Nat => Value.int .i64 (n : Int)).flatMap fun v => v.cells.toList) = l.map fun n : Nat => Value.int .i64 (n : Int) := by
    clear hev hlen ho h
    induction l with
    | nil => rfl
    | cons m l ih => rw [List.map_cons, List.flatMap_cons, ih]; rfl
  rw [e] at h
  exact h
end Go.Proofs.YtdjjjnoecfbjeaaDoor

/- The chapter's examples: plain, and what steps answer there. No condition but what each says. -/
namespace Go.Proofs.YtdjjjnoecfbjeaaDoor
open Go.RowKit

def mPut : Mic := ⟨false, 0, 7⟩
def mGet : Mic := ⟨true, 0, 0⟩
def kL1 : List Ev := [invEv 0 5 1 0, invEv 0 6 1 0, invEv 1 5 1 0, invEv 1 6 4 0, invEv 1 6 2 1, retEv 0 6 1 0, retEv 0 5 0 0, retEv 0 5 1 0, plainEv 4 1 6]
def kW1 : List Nat := [0, 9, 8, 10, 0, 7, 10, 0, 0]
def commEv : Ev := { Ev.zero with kind := 6, id := 1 }
def fullEv : Ev := { Ev.zero with kind := 6, id := 1, reads := [[]] }
def kL2 : List Ev := [cfgEv 4, beginEv 0 1 [mPut, mGet], beginEv 0 1 [mPut, mPut], beginEv 0 1 [mGet, mPut], beginEv 1 2 [mPut], commEv, fullEv, beginEv 1 2 [mGet, mGet], plainEv 7 1 2, plainEv 7 1 2, invEv 0 9 1 0]
def kW2 : List Nat := [0, 10, 8, 0, 8, 10, 0, 0, 0, 7, 10]
def kL3 : List Ev := [cfgEv 3, invEv 0 1 10 0, invEv 1 1 10 0]
theorem kA2 : answers kL2 kW2 := answers_of (by kernel_rfl)
theorem kT3 : takeAll [] kL3 = (2, 8) := by kernel_rfl
/-- The events that are taken of some, behind others. -/
def runFrom (M l : List Ev) : List Ev := l.foldl stepTo M
theorem runFrom_take {M l : List Ev} {k : Nat} (h : k < l.length) : runFrom M (l.take (k + 1)) = stepTo (runFrom M (l.take k)) l[k] := by
  unfold runFrom
  rw [List.take_succ_eq_append_getElem h, List.foldl_append]
  rfl
theorem runFrom_len (M l : List Ev) : (runFrom M l).length ≤ M.length + l.length := foldl_len l M
def answersFrom (M l : List Ev) (want : List Nat) : Prop := want.length = l.length ∧ ∀ i (h : i < l.length) (h2 : i < want.length), want[i] = stepWhy (runFrom M (l.take i)) l[i]
theorem answersFrom_of {M l : List Ev} {want : List Nat} (h : (List.range l.length).map (fun i => (l[i]?).map (stepWhy (runFrom M (l.take i)))) = want.map some) : answersFrom M l want := by
  have hl : want.length = l.length := by have := congrArg List.length h; simpa using this.symm
  refine ⟨hl, fun i hi hi2 => ?_⟩
  have := congrArg (fun x => x[i]?) h
  simp [hi, hi2] at this
  exact this.symm
theorem kA1 : answersFrom [cfgEv 0] kL1 kW1 := answersFrom_of (by kernel_rfl)
def kM1 : List Ev := [cfgEv 0, invEv 0 5 1 0, invEv 1 6 2 1, retEv 0 5 1 0, plainEv 4 1 6]
theorem kR1 : runFrom [cfgEv 0] kL1 = kM1 := by kernel_rfl
theorem kO1 : openTo kM1 16 = 0 := by kernel_rfl
theorem kI1 : lastId kM1 = 6 := by kernel_rfl
theorem kS1 : stepWhy kM1 (invEv 1 7 1 0) = 0 := by kernel_rfl
def kM2 : List Ev := kM1 ++ [invEv 1 7 1 0]
theorem kO2 : openTo kM2 16 = 1 := by kernel_rfl
theorem k01 : stepWhy [] (invEv 0 5 1 0) = 11 := by kernel_rfl
theorem k02 : stepWhy [] (cfgEv 0) = 0 := by kernel_rfl
theorem k03 : stepWhy [cfgEv 0] (beginEv 0 1 [mGet]) = 10 := by kernel_rfl
theorem evNil {w : World} {x : Ev} (h1 : x.txn = []) (h2 : x.reads = []) : EvAt w (x.val nil0 nil0) x := ⟨nil0, nil0, rfl, by rw [h1]; exact RdM.nil _, by rw [h2]; exact RdR.nil _⟩
theorem stepK_c {p bm : Nat} {L M : List Ev} {n : Nat} (w : World) (h : Aut w p bm L) (hE : Env w) {x : Ev} {v : Value} (hx : EvAt w v x) (ok : x.Ok) (hL : L.length ≤ 100000000) (hn : stepWhy L x = n) (hM : stepTo L x = M) :
    Calls Tryd.prog 15 #[.pointer (some ⟨p, 0, none⟩), v] w fun e w' => e = .returned (.int .i64 (n : Int)) ∧ Aut w' p bm M ∧ Ch2 p bm w w' := by
  subst hn hM
  exact step_c w h hE hx ok hL
theorem kOk1 : ∀ e ∈ kL1, e.Ok := by
  intro x hx
  simp only [kL1, List.mem_cons, List.not_mem_nil, or_false] at hx
  rcases hx with rfl | rfl | rfl | rfl | rfl | rfl | rfl | rfl | rfl
  all_goals first | exact invOk (by omega) (by omega) (by omega) (by omega) | exact retOk (by omega) (by omega) (by omega) (by omega) | exact plainOk (by omega) (by omega) (by omega)
theorem commOk : commEv.Ok := by
  refine ⟨?_, ?_, ?_, ?_, ?_, ?_, ?_, ?_, ?_, ?_, ?_, ?_, ?_⟩ <;> simp [commEv, Ev.zero, OpD.zero, Cfg.zero]
theorem fullOk : fullEv.Ok := by
  refine ⟨?_, ?_, ?_, ?_, ?_, ?_, ?_, ?_, ?_, ?_, ?_, ?_, ?_⟩ <;> simp [fullEv, Ev.zero, OpD.zero, Cfg.zero]
theorem kOk2 : ∀ e ∈ kL2, e.Ok := by
  have h1 : ∀ l : List Mic, l = [mPut, mGet] ∨ l = [mPut, mPut] ∨ l = [mGet, mPut] ∨ l = [mPut] ∨ l = [mGet, mGet] → ∀ m ∈ l, m.key < 256 ∧ m.v < 65536 := by
    intro l hl m hm
    have : m = mPut ∨ m = mGet := by rcases hl with rfl | rfl | rfl | rfl | rfl <;> simp at hm <;> rcases hm with rfl | rfl <;> simp
    rcases this with rfl | rfl <;> exact ⟨by decide, by decide⟩
  intro x hx
  simp only [kL2, List.mem_cons, List.not_mem_nil, or_false] at hx
  rcases hx with rfl | rfl | rfl | rfl | rfl | rfl | rfl | rfl | rfl | rfl | rfl
  all_goals first | exact cfgOk (by omega) | exact invOk (by omega) (by omega) (by omega) (by omega) | exact plainOk (by omega) (by omega) (by omega) | exact commOk | exact fullOk | exact beginOk (by omega) (by omega) (h1 _ (by simp))
theorem kOk3 : ∀ e ∈ kL3, e.Ok := by
  intro x hx
  simp only [kL3, List.mem_cons, List.not_mem_nil, or_false] at hx
  rcases hx with rfl | rfl | rfl
  all_goals first | exact cfgOk (by omega) | exact invOk (by omega) (by omega) (by omega) (by omega)
def isMics (l : List Mic) (w : World) (v : Value) : Prop := ∃ b, v = .slice (some ⟨b, 0, none⟩) l.length l.length ∧ RdM w v l
def isBegin (c i : Nat) (l : List Mic) (w : World) (v : Value) : Prop := ∃ t, v = (beginEv c i l).val t nil0 ∧ RdM w t l
/-- What the slots of the chapter's long line hold. -/
def kPr (rv : Value) : Nat → World → Value → Prop
  | 0 => fun _ v => v = (cfgEv 4).val nil0 nil0
  | 1 => fun _ v => v = mPut.val
  | 2 => fun _ v => v = mGet.val
  | 3 => isMics [mPut, mGet]
  | 4 => isBegin 0 1 [mPut, mGet]
  | 5 => fun _ v => v = mPut.val
  | 6 => fun _ v => v = mPut.val
  | 7 => isMics [mPut, mPut]
  | 8 => isBegin 0 1 [mPut, mPut]
  | 9 => fun _ v => v = mGet.val
  | 10 => fun _ v => v = mPut.val
  | 11 => isMics [mGet, mPut]
  | 12 => isBegin 0 1 [mGet, mPut]
  | 13 => fun _ v => v = mPut.val
  | 14 => isMics [mPut]
  | 15 => isBegin 1 2 [mPut]
  | 16 => fun _ v => v = commEv.val nil0 nil0
  | 17 => fun w v => v = fullEv.val nil0 rv ∧ RdR w rv [[]]
  | 18 => fun _ v => v = mGet.val
  | 19 => fun _ v => v = mGet.val
  | 20 => isMics [mGet, mGet]
  | 21 => isBegin 1 2 [mGet, mGet]
  | 22 => fun _ v => v = (plainEv 7 1 2).val nil0 nil0
  | 23 => fun _ v => v = (plainEv 7 1 2).val nil0 nil0
  | 24 => fun _ v => v = (invEv 0 9 1 0).val nil0 nil0
  | 25 => fun w v => ∃ b, v = .slice (some ⟨b, 0, none⟩) 11 11 ∧ RdE w v kL2
  | 26 => fun w v => ∃ b, v = .slice (some ⟨b, 0, none⟩) 11 11 ∧ RdI w v kW2
  | 27 => fun _ v => v = .bool true
  | _ => fun _ v => v = .bool false
theorem kPr_fr (rv : Value) (j : Nat) (w w' : World) (v : Value) (f : Fr w w') (h : kPr rv j w v) : kPr rv j w' v := by
  unfold kPr at h ⊢
  split at h
  all_goals first
    | exact h
    | (obtain ⟨b, h1, h2⟩ := h; exact ⟨b, h1, RdM.keep h2 f⟩)
    | (obtain ⟨b, h1, h2⟩ := h; exact ⟨b, h1, RdE.keep h2 f⟩)
    | (obtain ⟨b, h1, h2⟩ := h; exact ⟨b, h1, SlAt.fr h2 f⟩)
    | (obtain ⟨h1, h2⟩ := h; exact ⟨h1, h2.keep f⟩)
theorem Tryd.infoCfgK : (Tryd.prog.info? 30).map (·.size) = some 7 := by kernel_rfl
theorem cfgZ_one : Cfg.zero.cells.toArray.all (·.oneCell') = true := by kernel_rfl
theorem Tryd.infoMicZ : (Tryd.prog.info? 34).map (·.size) = some 3 := by kernel_rfl
end Go.Proofs.YtdjjjnoecfbjeaaDoor
