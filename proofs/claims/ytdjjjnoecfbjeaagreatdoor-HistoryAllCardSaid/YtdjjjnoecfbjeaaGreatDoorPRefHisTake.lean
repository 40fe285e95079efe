/- umpireref07: Step, when an event is taken. No condition but that all can be read, and the numbers' bounds. -/
import Derived.Test.YtdjjjnoecfbjeaaGreatDoorPRefHisStep
import Derived.Test.YtdjjjnoecfbjeaaGreatDoorPHisAwake
import Derived.Test.YtdjjjnoecfbjeaaGreatDoorPArms
import Derived.Test.YtdjjjnoecfbjeaaGreatDoorPHisStepB
import Derived.Test.YtdjjjnoecfbjeaaGreatDoorPEvSame
set_option linter.all false
set_option linter.unusedVariables false
set_option linter.unusedSimpArgs false
set_option linter.unnecessarySimpa false
/- umpireref07: Step, when an event is taken. No condition but that all can be read, and the numbers' bounds. -/
namespace Go.Proofs.YtdjjjnoecfbjeaaGreatDoor
open Go.RowKit
attribute [local go_sem] Oper.semAt_some

/-- What a step of the history leaves alone, and where its list lies then. -/
structure Took (w w' : World) (p : Nat) (v v' : Value) : Prop where
  os : w'.os = w.os
  tape : w'.tape = w.tape
  output : w'.output = w.output
  size : w.heap.size ≤ w'.heap.size
  block : ∀ k, k < w.heap.size → k ≠ p → v.ownBlock ≠ some k → w'.heap[k]? = w.heap[k]?
  at_ : ∀ k, v'.ownBlock = some k → v.ownBlock = some k ∨ w.heap.size ≤ k
set_option maxRecDepth 100000 in
set_option maxHeartbeats 4000000 in
/-- Taken: the list has it. -/
theorem step7Yes_c (w0 : World) (L : List Ev) (v : Value) (p : Nat) (w : World) (hB : BoxAt w p #[v] 27) (hO : OwE w0 w v L) (hFr : Fr w0 w) (hp : w0.heap.size ≤ p) (hpv : v.ownBlock ≠ some p) (hmay : ∀ x ∈ L, x.may = true ∧ x.Ok) (hfew : L.length ≤ 1000) (x : Ev) (t r : Value) (ht : RdM w0 t x.txn) (hr : RdR w0 r x.reads) (ok : x.Ok) (hs : stepWhy L x = 0) :
    Calls Tryz.prog 7 #[.pointer (some ⟨p, 0, none⟩), x.val t r] w fun e w' => e = .returned (.int .i64 0) ∧ ∃ v', BoxAt w' p #[v'] 27 ∧ OwE w0 w' v' (L ++ [x]) ∧ Took w w' p v v' := by
  obtain ⟨ta, tn, tc, rfl⟩ := ht.slice
  obtain ⟨ra, rn, rc, rfl⟩ := hr.slice
  obtain ⟨va, vc, rfl, _⟩ := id (hO.rd hFr)
  have h : HisAt w p (.slice va L.length vc) L := ⟨hB, hO.rd hFr, hmay, hfew⟩
  have hM := fun W (f : Fr w W) => may7_c L (.slice va L.length vc) p W (h.fr f) x _ _ ((ht.keep hFr).keep f) ((hr.keep hFr).keep f) ok
  rw [hs] at hM
  have hb0 := BoxAt.new w (x.cells (.slice ta tn tc) (.slice ra rn rc)) 39
  have hF0 := (Fr.refl w).alloc (.cells (x.cells (.slice ta tn tc) (.slice ra rn rc)) 39)
  have HM := Lib.hid hM
  have hpl := hB.lt
  clear hM h hs
  unfold Ev.val
  go_enter Tryz.func7, Tryz.ntmps7
  go_wp2_with ((with_reducible refine wpList_here (.load 39 (.tmp 3)) rfl ?_); refine wpList_load_box 39 (.tmp 3) rfl _ rfl _ hb0 _ Tryz.underlying39 rfl Tryz.infoEv rfl ?_)
  refine (HM.out _ hF0).mono ?_
  rintro e w1 ⟨rfl, hf⟩
  have hb1 := hb0.fr hf
  have hF1 := hF0.trans hf
  have hB1 := hB.fr hF1
  have hO1 := hO.fr hF1
  have hwx : w.heap.size < w1.heap.size := hb1.lt
  clear hf hb0 hF0
  go_wp2_with fail
  refine wp_region_held (S := fun W' => BoxAt W' w.heap.size (x.cells (.slice ta tn tc) (.slice ra rn rc)) 39) (by kernel_rfl) ?_
  refine takeD 0 11 (v := .pointer (some ⟨p, 0, none⟩)) rfl rfl (by kernel_rfl) (by kernel_rfl) (by kernel_rfl) (fun _ _ _ h => h) (yRun rfl fun _ _ => rfl) hb1 ?_
  simp only [List.setIfInBounds_toArray, List.set_cons_succ, List.set_cons_zero]
  refine takeD 1 12 (v := .pointer (some ⟨p, 0, none⟩)) rfl rfl (by kernel_rfl) (by kernel_rfl) (by kernel_rfl) (fun _ _ _ h => h) (yRun rfl fun _ _ => rfl) hb1 ?_
  simp only [List.setIfInBounds_toArray, List.set_cons_succ, List.set_cons_zero]
  refine takeD 2 13 (v := .pointer (some ⟨p, 0, none⟩)) rfl rfl (by kernel_rfl) (by kernel_rfl) (by kernel_rfl) (fun _ _ _ h => h) (yRun rfl fun _ _ => rfl) hb1 ?_
  simp only [List.setIfInBounds_toArray, List.set_cons_succ, List.set_cons_zero]
  refine takeD 3 14 (v := .pointer (some ⟨p, 0, none⟩)) rfl rfl (by kernel_rfl) (by kernel_rfl) (by kernel_rfl) (fun _ _ _ h => h) (yRun rfl fun _ _ => rfl) hb1 ?_
  simp only [List.setIfInBounds_toArray, List.set_cons_succ, List.set_cons_zero]
  refine takeD 5 16 (v := .agg (x.cells (.slice ta tn tc) (.slice ra rn rc))) rfl rfl (by kernel_rfl) (by kernel_rfl) (by kernel_rfl) (fun _ _ _ h => h) (yRun rfl fun W hS => run_load_box 39 (.tmp 3) rfl w.heap.size rfl (x.cells (.slice ta tn tc) (.slice ra rn rc)) hS _ Tryz.underlying39 rfl Tryz.infoEv) hb1 ?_
  simp only [List.setIfInBounds_toArray, List.set_cons_succ, List.set_cons_zero]
  refine wpAnyH_all (rs := [4, 6]) (by kernel_rfl) (by simp) (fun i hi => ?_)
  simp only [List.mem_cons, List.not_mem_nil, or_false] at hi
  have hO2 : OwE w0 (World.alloc { w1 with drawn := w1.drawn + 1 } (.cells (evFlat [(x, .slice ta tn tc, .slice ra rn rc)]).toArray 39)) (.slice va L.length vc) L := hO1.fr (((Fr.refl w1).drew).alloc _)
  have hFr2 := (hFr.trans hF1).trans (((Fr.refl w1).drew).alloc (.cells (evFlat [(x, .slice ta tn tc, .slice ra rn rc)]).toArray 39))
  have hB2 := hB1.fr (((Fr.refl w1).drew).alloc (.cells (evFlat [(x, .slice ta tn tc, .slice ra rn rc)]).toArray 39))
  have hx2 := hb1.fr (((Fr.refl w1).drew).alloc (.cells (evFlat [(x, .slice ta tn tc, .slice ra rn rc)]).toArray 39))
  have hp2 := hB2.lt
  have hFw2 := hF1.trans (((Fr.refl w1).drew).alloc (.cells (evFlat [(x, .slice ta tn tc, .slice ra rn rc)]).toArray 39))
  have hvx : (Value.slice va L.length vc).ownBlock ≠ some w.heap.size := fun e => by have := (hO.lt _ e).2; omega
  have hnew : BoxAt (World.alloc { w1 with drawn := w1.drawn + 1 } (.cells (evFlat [(x, .slice ta tn tc, .slice ra rn rc)]).toArray 39)) w1.heap.size (evFlat [(x, .slice ta tn tc, .slice ra rn rc)]).toArray 39 := BoxAt.new _ _ _
  have hrow : (World.alloc { w1 with drawn := w1.drawn + 1 } (.cells (evFlat [(x, .slice ta tn tc, .slice ra rn rc)]).toArray 39)).rangeAt w1.heap.size 0 (x.cells (.slice ta tn tc) (.slice ra rn rc)).toList := fun j u hj => by
    rw [Nat.zero_add, hnew.cell]
    simpa [evFlat] using hj
  rcases hi with rfl | rfl
  · have hc : ({ w1 with drawn := w1.drawn + 1 } : World).cell? ⟨p, 0, none⟩ = some (.slice va L.length vc) := hB1.at 0 rfl
    have hcd : w1.drew.cell? ⟨p, 0, none⟩ = some (.slice va L.length vc) := hB1.at 0 rfl
    refine wpOp_runD 15 rfl rfl rfl (.slice va L.length vc) _ (run_ld 22 (.tmp 14) rfl ⟨p, 0, none⟩ rfl _ (by simp [go_sem, Instr.loadAt, hc, hcd])) ?_
    simp only [List.setIfInBounds_toArray, List.set_cons_succ, List.set_cons_zero]
    refine ⟨hb1, ?_⟩
    refine wpAnyH_all (rs := [6]) (by kernel_rfl) (by simp) (fun i hi => ?_)
    obtain rfl := List.mem_singleton.1 hi
    refine wpOp_runD 17 rfl rfl rfl _ _ (run_bsEv 1 _ rfl [(x, .slice ta tn tc, .slice ra rn rc)] (by simp [Act.eval, Ev.val]; rfl) rfl (by omega) (by omega)) ?_
    simp only [List.setIfInBounds_toArray, List.set_cons_succ, List.set_cons_zero]
    refine ⟨hx2, ?_⟩
    refine wpAnyH_all (rs := [7]) (by kernel_rfl) (by simp) (fun i hi => ?_)
    obtain rfl := List.mem_singleton.1 hi
    refine wpOp_list rfl (wpList_appendEv rfl (.tmp 15) (.tmp 17) rfl (.slice va L.length vc) L rfl hO2 hFr2 w1.heap.size 1 x (.slice ta tn tc) (.slice ra rn rc) rfl hrow ht hr (by omega) ?_) letsOut_then
    intro v' w3 hO3 hg3 hat3 hf3
    obtain ⟨va', vc', rfl, _⟩ := id (hO3.rd hf3)
    have hp3 : BoxAt w3 p #[.slice va L.length vc] 27 := (hg3.block p hp2 (fun e => hpv e.symm)).trans hB2
    have hx3 : BoxAt w3 w.heap.size (x.cells (.slice ta tn tc) (.slice ra rn rc)) 39 := (hg3.block _ hx2.lt (fun e => hvx e.symm)).trans hx2
    refine (show BoxAt w3 w.heap.size (x.cells (.slice ta tn tc) (.slice ra rn rc)) 39 ∧ _ from ⟨hx3, ?_⟩)
    simp only [Act.put]
    simp only [List.setIfInBounds_toArray, List.set_cons_succ, List.set_cons_zero]
    refine wpAnyH_all (rs := [8]) (by kernel_rfl) (by simp) (fun i hi => ?_)
    obtain rfl := List.mem_singleton.1 hi
    refine wpOp_runD 19 rfl rfl rfl (.pointer (some ⟨p, 0, none⟩)) _ rfl ?_
    simp only [List.setIfInBounds_toArray, List.set_cons_succ, List.set_cons_zero]
    refine ⟨hx3, ?_⟩
    refine wpAnyH_all (rs := [9]) (by kernel_rfl) (by simp) (fun i hi => ?_)
    obtain rfl := List.mem_singleton.1 hi
    refine wpOp_runD 20 rfl rfl rfl (.pointer (some ⟨p, 0, none⟩)) _ rfl ?_
    simp only [List.setIfInBounds_toArray, List.set_cons_succ, List.set_cons_zero]
    refine ⟨hx3, ?_⟩
    refine wpAnyH_all (rs := [10]) (by kernel_rfl) (by simp) (fun i hi => ?_)
    obtain rfl := List.mem_singleton.1 hi
    have c3 : w3.cell? ⟨p, 0, none⟩ = some (.slice va L.length vc) := hp3.at 0 rfl
    have f3 := hp3.free 0
    have l3 := hp3.lt
    refine wpOp_list rfl ?_ letsOut_then
    go_wp2_with fail
    refine ⟨hx3.set (show p ≠ w.heap.size by omega) _, wpAnyH_done (by kernel_rfl) ?_ _⟩
    go_wp2_with fail
    go_ret
    have hlen : (L ++ [x]).length = L.length + 1 := by simp
    rw [hlen] at hO3 hat3
    have hne : ∀ k, (Value.slice va' (L.length + 1) vc').ownBlock = some k → k ≠ p := fun k hk e => by
      rcases hat3 k hk with h1 | h1
      · exact hpv (e ▸ h1)
      · have h2 : w.heap.size ≤ k := by rw [h1]; exact hFw2.size
        omega
    refine ⟨rfl, _, hp3.setAt 0 _, hO3.keep fun k hk => Below.heap_setCell _ _ _ k (hne k hk), ?_⟩
    refine ⟨hg3.os.trans hFw2.os, hg3.tape.trans hFw2.tape, hg3.output.trans hFw2.output, Nat.le_trans (Nat.le_trans hFw2.size hg3.size) (by simp), fun k hk hkp hkv => ?_, fun k hk => ?_⟩
    · rw [Below.heap_setCell _ _ _ k hkp, hg3.block k (Nat.lt_of_lt_of_le hk hFw2.size) (fun e => hkv e.symm)]
      exact hFw2.block hk
    · rcases hat3 k hk with h1 | h1
      · exact .inl h1
      · exact .inr (by rw [h1]; exact hFw2.size)
  · have hc := hB2.at 0 rfl
    have hcd : (World.alloc w1 (.cells (evFlat [(x, .slice ta tn tc, .slice ra rn rc)]).toArray 39)).cell? ⟨p, 0, none⟩ = some (.slice va L.length vc) := hB2.at 0 rfl
    refine wpOp_runD 17 rfl rfl rfl _ _ (run_bsEv 1 _ rfl [(x, .slice ta tn tc, .slice ra rn rc)] (by simp [Act.eval, Ev.val]; rfl) rfl (by omega) (by omega)) ?_
    simp only [List.setIfInBounds_toArray, List.set_cons_succ, List.set_cons_zero]
    refine ⟨hx2, ?_⟩
    refine wpAnyH_all (rs := [4]) (by kernel_rfl) (by simp) (fun i hi => ?_)
    obtain rfl := List.mem_singleton.1 hi
    refine wpOp_runD 15 rfl rfl rfl (.slice va L.length vc) _ (run_ld 22 (.tmp 14) rfl ⟨p, 0, none⟩ rfl _ (by simp [go_sem, Instr.loadAt, hc, hcd])) ?_
    simp only [List.setIfInBounds_toArray, List.set_cons_succ, List.set_cons_zero]
    refine ⟨hx2, ?_⟩
    refine wpAnyH_all (rs := [7]) (by kernel_rfl) (by simp) (fun i hi => ?_)
    obtain rfl := List.mem_singleton.1 hi
    refine wpOp_list rfl (wpList_appendEv rfl (.tmp 15) (.tmp 17) rfl (.slice va L.length vc) L rfl hO2 hFr2 w1.heap.size 1 x (.slice ta tn tc) (.slice ra rn rc) rfl hrow ht hr (by omega) ?_) letsOut_then
    intro v' w3 hO3 hg3 hat3 hf3
    obtain ⟨va', vc', rfl, _⟩ := id (hO3.rd hf3)
    have hp3 : BoxAt w3 p #[.slice va L.length vc] 27 := (hg3.block p hp2 (fun e => hpv e.symm)).trans hB2
    have hx3 : BoxAt w3 w.heap.size (x.cells (.slice ta tn tc) (.slice ra rn rc)) 39 := (hg3.block _ hx2.lt (fun e => hvx e.symm)).trans hx2
    refine (show BoxAt w3 w.heap.size (x.cells (.slice ta tn tc) (.slice ra rn rc)) 39 ∧ _ from ⟨hx3, ?_⟩)
    simp only [Act.put]
    simp only [List.setIfInBounds_toArray, List.set_cons_succ, List.set_cons_zero]
    refine wpAnyH_all (rs := [8]) (by kernel_rfl) (by simp) (fun i hi => ?_)
    obtain rfl := List.mem_singleton.1 hi
    refine wpOp_runD 19 rfl rfl rfl (.pointer (some ⟨p, 0, none⟩)) _ rfl ?_
    simp only [List.setIfInBounds_toArray, List.set_cons_succ, List.set_cons_zero]
    refine ⟨hx3, ?_⟩
    refine wpAnyH_all (rs := [9]) (by kernel_rfl) (by simp) (fun i hi => ?_)
    obtain rfl := List.mem_singleton.1 hi
    refine wpOp_runD 20 rfl rfl rfl (.pointer (some ⟨p, 0, none⟩)) _ rfl ?_
    simp only [List.setIfInBounds_toArray, List.set_cons_succ, List.set_cons_zero]
    refine ⟨hx3, ?_⟩
    refine wpAnyH_all (rs := [10]) (by kernel_rfl) (by simp) (fun i hi => ?_)
    obtain rfl := List.mem_singleton.1 hi
    have c3 : w3.cell? ⟨p, 0, none⟩ = some (.slice va L.length vc) := hp3.at 0 rfl
    have f3 := hp3.free 0
    have l3 := hp3.lt
    refine wpOp_list rfl ?_ letsOut_then
    go_wp2_with fail
    refine ⟨hx3.set (show p ≠ w.heap.size by omega) _, wpAnyH_done (by kernel_rfl) ?_ _⟩
    go_wp2_with fail
    go_ret
    have hlen : (L ++ [x]).length = L.length + 1 := by simp
    rw [hlen] at hO3 hat3
    have hne : ∀ k, (Value.slice va' (L.length + 1) vc').ownBlock = some k → k ≠ p := fun k hk e => by
      rcases hat3 k hk with h1 | h1
      · exact hpv (e ▸ h1)
      · have h2 : w.heap.size ≤ k := by rw [h1]; exact hFw2.size
        omega
    refine ⟨rfl, _, hp3.setAt 0 _, hO3.keep fun k hk => Below.heap_setCell _ _ _ k (hne k hk), ?_⟩
    refine ⟨hg3.os.trans hFw2.os, hg3.tape.trans hFw2.tape, hg3.output.trans hFw2.output, Nat.le_trans (Nat.le_trans hFw2.size hg3.size) (by simp), fun k hk hkp hkv => ?_, fun k hk => ?_⟩
    · rw [Below.heap_setCell _ _ _ k hkp, hg3.block k (Nat.lt_of_lt_of_le hk hFw2.size) (fun e => hkv e.symm)]
      exact hFw2.block hk
    · rcases hat3 k hk with h1 | h1
      · exact .inl h1
      · exact .inr (by rw [h1]; exact hFw2.size)
end Go.Proofs.YtdjjjnoecfbjeaaGreatDoor

/- HistoryAll. No condition but that the events can be read, and the numbers' bounds. -/
namespace Go.Proofs.YtdjjjnoecfbjeaaGreatDoor
open Go.RowKit
attribute [local go_sem] Oper.semAt_some

theorem Took.fr {a w w' : World} {p : Nat} {v v' : Value} (h : Took w w' p v v') (f : Fr a w) (hp : a.heap.size ≤ p) (hv : ∀ g, v.ownBlock = some g → a.heap.size ≤ g) : Fr a w' :=
  ⟨h.os.trans f.os, h.tape.trans f.tape, h.output.trans f.output, Nat.le_trans f.size h.size, fun k hk => (h.block k (Nat.lt_of_lt_of_le hk f.size) (by omega) (fun e => by have := hv k e; omega)).trans (f.block hk)⟩
/-- All of the first so many were taken. -/
def TakenTo (l : List Ev) (k : Nat) : Prop := ∀ i (_ : i < k) (h2 : i < l.length), stepWhy (l.take i) l[i] = 0
theorem TakenTo.zero (l : List Ev) : TakenTo l 0 := fun i h => by omega
theorem TakenTo.succ {l : List Ev} {k : Nat} (h : TakenTo l k) (hk : k < l.length) (h0 : stepWhy (l.take k) l[k] = 0) : TakenTo l (k + 1) := fun i hi h2 => by
  by_cases he : i = k
  · subst he; exact h0
  · exact h i (by omega) h2
theorem TakenTo.stop {l : List Ev} {k : Nat} (h : TakenTo l k) (hk : k < l.length) (h0 : stepWhy (l.take k) l[k] ≠ 0) : takeAll [] l = (k, stepWhy (l.take k) l[k]) := by
  rw [takeAll_take k (by omega) h, List.drop_eq_getElem_cons hk, takeAll_cons, if_neg h0]
  simp
theorem TakenTo.all {l : List Ev} (h : TakenTo l l.length) : takeAll [] l = (l.length, 0) := by
  rw [takeAll_take l.length (Nat.le_refl _) h]
  simp [takeAll]
/-- What the law has reckoned so far. -/
def AllSt (w : World) (p : Nat) (l : List Ev) (n e i : Value) (wr : World) : Prop :=
  ∃ k : Nat, k ≤ l.length ∧ i = .int .i64 k ∧ Fr w wr ∧ ((e = .int .i64 0 ∧ n = .int .i64 k ∧ TakenTo l k ∧ ∃ hv, BoxAt wr p #[hv] 27 ∧ OwE w wr hv (l.take k) ∧ hv.ownBlock ≠ some p ∧ ∀ x ∈ l.take k, x.may = true ∧ x.Ok) ∨ ∃ j s : Nat, s ≠ 0 ∧ j ≤ 120 ∧ e = .int .i64 s ∧ n = .int .i64 j ∧ takeAll [] l = (j, s))
set_option maxRecDepth 100000 in
set_option maxHeartbeats 4000000 in
theorem hisAll_c (l : List Ev) (v : Value) (w : World) (hE : Env w) (hl : RdE w v l) (hok : ∀ x ∈ l, x.Ok) : Calls Tryz.prog 3 #[v] w fun e w' => e = .returned (.bool true) ∧ Fr w w' := by
  obtain ⟨a, cap, rfl, hcap, hmax, _⟩ := id hl
  unfold maxLen at hmax
  have HE := Lib.hid hE
  have HL := Lib.hid hl
  have HOK := Lib.hid hok
  have HF := few7_c l _ w hl
  clear hE hl hok
  go_enter Tryz.func3, Tryz.ntmps3
  go_wp2_with fail
  refine HF.mono ?_
  rintro e w1 ⟨b, rfl, hb, hf1⟩
  cases b
  · go_wp2_with fail
    refine (awake7_c _ (HE.out.keep hf1)).mono ?_
    rintro e w2 ⟨rfl, hf2⟩
    go_wp2_with fail
    go_ret
    exact ⟨rfl, hf1.trans hf2⟩
  · have h120 := hb rfl
    clear hb HF
    go_wp2_with fail
    refine gen_w fun W hW => ?_
    have hB : BoxAt W w1.heap.size #[.slice none 0 0] 27 := by rw [hW]; exact BoxAt.new w1 _ _
    have hFW : Fr w W := by rw [hW]; exact hf1.trans ((Fr.refl _).alloc _)
    have hpw : w.heap.size ≤ w1.heap.size := hf1.size
    clear hW
    generalize w1.heap.size = p at hB hpw ⊢
    go_loopw [4, 5, 6] (fun n e i wr => AllSt w p l n e i wr) (fun _ _ i _ => l.length - (intOf i).toNat)
    case atStart => exact ⟨0, Nat.zero_le _, rfl, hFW, .inl ⟨rfl, rfl, TakenTo.zero _, _, hB, OwE.nil _ _, by simp [Value.ownBlock], fun x hx => by simp at hx⟩⟩
    case round =>
      clear hB hFW
      obtain ⟨k, hk, rfl, hfr, hst⟩ := hrel
      rcases hst with ⟨rfl, rfl, htk, hv, hB, hO, hpv, hmay⟩ | ⟨j, s, hs, hj, rfl, rfl, hta⟩
      · by_cases hlt : k < l.length
        · obtain ⟨b1, o1, t, r, rfl, hb1, hx0, ht0, hr0⟩ := RdE.at HL.out hlt
          have hx := rangeAt_keep hx0 (hfr.block hb1)
          have hb1r : b1 < wr.heap.size := Nat.lt_of_lt_of_le hb1 hfr.size
          have hk1 : k < cap := by omega
          have hok1 := HOK.out _ (List.getElem_mem hlt)
          have hlen : (l.take k).length ≤ 1000 := by rw [List.length_take]; omega
          have htk1 := fun h0 => htk.succ hlt h0
          have htk2 := fun h0 => htk.stop hlt h0
          have hT : l.take (k + 1) = l.take k ++ [l[k]] := List.take_succ_eq_append_getElem hlt
          have hmx : stepWhy (l.take k) l[k] = 0 → l[k].may = true := fun h0 => stepWhy_may h0
          obtain ⟨ta, tn, tc, rfl⟩ := ht0.slice
          obtain ⟨ra, rn, rc, rfl⟩ := hr0.slice
          generalize l[k] = x at hx0 hx ht0 hr0 hok1 htk1 htk2 hT hmx
          by_cases h0 : stepWhy (l.take k) x = 0
          · have hst := step7Yes_c w (l.take k) hv p wr hB hO hfr hpw hpv hmay hlen x _ _ ht0 hr0 hok1 h0
            have HO := Lib.hid hO
            have HST := Lib.hid hst
            have HT1 := Lib.hid (htk1 h0)
            have HT := Lib.hid hT
            have HMX := Lib.hid (hmx h0)
            have HMAY := Lib.hid hmay
            have HB := Lib.hid hB
            clear hst htk1 htk2 hT hmx h0 hmay htk hO hx0 ht0 hr0 hB
            go_wp2_with ((with_reducible refine wpList_here (.load 39 (.tmp 28)) rfl ?_); refine wpList_load_midW 39 (.tmp 28) rfl b1 (o1 + k * 19) rfl (x.cells (.slice ta tn tc) (.slice ra rn rc)).toList _ hx Tryz.underlying39 rfl Tryz.infoEv rfl ?_)
            refine HST.out.mono ?_
            rintro e w2 ⟨rfl, v', hB2, hO2, hT2⟩
            have hF2 : Fr w w2 := hT2.fr hfr hpw fun g hg => (HO.out.lt g hg).1
            have HB2 := Lib.hid (show BoxAt w2 p #[v'] 27 ∧ OwE w w2 v' (l.take (k + 1)) ∧ v'.ownBlock ≠ some p from ⟨hB2, by rw [HT.out]; exact hO2, fun e => by
              rcases hT2.at_ p e with h1 | h1
              · exact hpv h1
              · have := HB.out.lt; omega⟩)
            clear hB2 hO2 hT2
            go_wp2_with fail
            go_roundw
            case rel => exact ⟨k + 1, by omega, by go_num, hF2, .inl ⟨rfl, by go_num, HT1.out, v', HB2.out.1, HB2.out.2.1, HB2.out.2.2, fun y hy => by
              rw [HT.out] at hy
              rcases List.mem_append.1 hy with hy | hy
              · exact HMAY.out y hy
              · obtain rfl := List.mem_singleton.1 hy; exact ⟨HMX.out, hok1⟩⟩⟩
            case measure => simp [intOf]; omega
          · have hst := step7No_c (l.take k) hv p wr ⟨hB, hO.rd hfr, hmay, hlen⟩ x _ _ (ht0.keep hfr) (hr0.keep hfr) hok1 h0
            have hta := htk2 h0
            generalize stepWhy (l.take k) x = S at hst hta h0
            have es : ((S : Int) == 0) = false := beq_eq_false_iff_ne.2 (by omega)
            have HST := Lib.hid hst
            have HTA := Lib.hid hta
            have HS := Lib.hid h0
            clear hst htk1 htk2 hT hmx hmay htk hO hx0 ht0 hr0 hB hta h0
            go_wp2_with ((with_reducible refine wpList_here (.load 39 (.tmp 28)) rfl ?_); refine wpList_load_midW 39 (.tmp 28) rfl b1 (o1 + k * 19) rfl (x.cells (.slice ta tn tc) (.slice ra rn rc)).toList _ hx Tryz.underlying39 rfl Tryz.infoEv rfl ?_)
            refine HST.out.mono ?_
            rintro e w2 ⟨rfl, hf2⟩
            go_wp2_with fail
            go_roundw
            case rel => exact ⟨k + 1, by omega, by go_num, hfr.trans hf2, .inr ⟨k, S, HS.out, by omega, rfl, rfl, HTA.out⟩⟩
            case measure => simp [intOf]; omega
        · obtain rfl : k = l.length := by omega
          have HTA := Lib.hid htk.all
          clear htk hO hB hmay hpv
          go_wp2_with fail
          refine (all_c l _ _ (HE.out.keep hfr) (HL.out.keep hfr) HOK.out (by omega)).mono ?_
          rw [HTA.out]
          rintro e w2 ⟨rfl, hf2⟩
          have hF2 := hfr.trans hf2
          go_wp2_with fail
          refine (awake7_c _ (HE.out.keep hF2)).mono ?_
          rintro e w3 ⟨rfl, hf3⟩
          go_wp2_with fail
          go_ret
          exact ⟨rfl, hF2.trans hf3⟩
      · have es : ((s : Int) == 0) = false := beq_eq_false_iff_ne.2 (by omega)
        have HTA := Lib.hid hta
        clear hta hs
        by_cases hlt : k < l.length
        · go_wp2_with fail
          refine (all_c l _ _ (HE.out.keep hfr) (HL.out.keep hfr) HOK.out (by omega)).mono ?_
          rw [HTA.out]
          rintro e w2 ⟨rfl, hf2⟩
          have hF2 := hfr.trans hf2
          go_wp2_with fail
          refine (awake7_c _ (HE.out.keep hF2)).mono ?_
          rintro e w3 ⟨rfl, hf3⟩
          go_wp2_with fail
          go_ret
          exact ⟨rfl, hF2.trans hf3⟩
        · go_wp2_with fail
          refine (all_c l _ _ (HE.out.keep hfr) (HL.out.keep hfr) HOK.out (by omega)).mono ?_
          rw [HTA.out]
          rintro e w2 ⟨rfl, hf2⟩
          have hF2 := hfr.trans hf2
          go_wp2_with fail
          refine (awake7_c _ (HE.out.keep hF2)).mono ?_
          rintro e w3 ⟨rfl, hf3⟩
          go_wp2_with fail
          go_ret
          exact ⟨rfl, hF2.trans hf3⟩
end Go.Proofs.YtdjjjnoecfbjeaaGreatDoor

/- umpirelaw07.told: an automaton tells what the document's history does. No condition but that both have taken the same events. -/
namespace Go.Proofs.YtdjjjnoecfbjeaaGreatDoor
open Go.RowKit
attribute [local go_sem] Oper.semAt_some

theorem pend_far {L : List Ev} (h : ∀ x ∈ L, x.may = true ∧ x.Ok) {k : Nat} (hk : 16 ≤ k) : pend L k = none := by
  cases hp : pend L k with
  | none => rfl
  | some q =>
    have h1 := Ev.may_client (pend_may h hp).1
    have h2 := (pend_client hp).1
    omega
theorem Tryz.infoCfgT : (Tryz.prog.info? 37).map (·.size) = some 7 := by kernel_rfl
theorem cfg_one (g : Cfg) : g.cells.toArray.all (·.oneCell') = true := by simp [Cfg.cells, Value.oneCell']
/-- What both tell of a client. -/
theorem tells7 {p bm : Nat} {L : List Ev} (w : World) (h : Aut w p bm L) (k : Nat) (hk : k < 18) :
    Calls Tryz.prog 25 #[.pointer (some ⟨p, 0, none⟩), .int .u8 k] w fun e w' => (∃ y : Ev, ∃ ta tn tc ra rn rc, e = .returned (.tuple #[y.val (.slice ta tn tc) (.slice ra rn rc), .bool (pend L k).isSome]) ∧ (∀ q, pend L k = some q → y = q) ∧ RdM w' (.slice ta tn tc) y.txn ∧ RdR w' (.slice ra rn rc) y.reads) ∧ Fr w w' := by
  cases hp : pend L k with
  | none => exact (pendingNo_c w h k (fun _ => hp) (by omega)).mono fun e w' ⟨he, hf⟩ => ⟨⟨Ev.zero, none, 0, 0, none, 0, 0, he, fun q hq => by simp at hq, RdM.nil _, RdR.nil _⟩, hf⟩
  | some q =>
    have h16 : k < 16 := Classical.byContradiction fun hn => by rw [pend_far h.all (by omega)] at hp; cases hp
    exact (pendingYes_c w h k h16 hp).mono fun e w' ⟨⟨ta, tn, tc, ra, rn, rc, he, hm, hr⟩, hf⟩ => ⟨⟨q, ta, tn, tc, ra, rn, rc, he, fun q' hq => by cases hq; rfl, hm, hr⟩, hf⟩
set_option maxRecDepth 100000 in
set_option maxHeartbeats 8000000 in
theorem toldCons_c {p bm q : Nat} {hv : Value} {c : Ev} {M : List Ev} (w : World) (hA : Aut w p bm (c :: M)) (hH : HisAt w q hv (c :: M)) :
    Calls Tryz.prog 11 #[.pointer (some ⟨p, 0, none⟩), .pointer (some ⟨q, 0, none⟩)] w fun e w' => e = .returned (.bool true) ∧ Fr w w' := by
  obtain ⟨a, cap, rfl, hcap, hmax, _⟩ := id hH.rd
  unfold maxLen at hmax
  obtain ⟨b1, o1, t, r, rfl, hb1, hx, _, _⟩ := RdE.at hH.rd (k := 0) (by simp)
  have hcf : w.rangeAt b1 (o1 + 12) c.cfg.cells := by
    intro j v hj
    have e : o1 + 12 + j = o1 + 0 * 19 + (12 + j) := by omega
    rw [e]
    refine hx (12 + j) v ?_
    rcases (show j = 0 ∨ j = 1 ∨ j = 2 ∨ j = 3 ∨ j = 4 ∨ j = 5 ∨ j = 6 by have := (List.getElem?_eq_some_iff.1 hj).1; simp [Cfg.cells] at this; omega) with rfl | rfl | rfl | rfl | rfl | rfl | rfl <;> exact hj
  clear hx
  have HAO := Lib.hid (fun W (f : Fr w W) => open_c W (hA.fr f))
  have HHO := Lib.hid (fun W (f : Fr w W) => open7_c _ _ q W (hH.fr f))
  have HAL := Lib.hid (fun W (f : Fr w W) => last_c W (hA.fr f))
  have HHL := Lib.hid (fun W (f : Fr w W) => last7_c _ _ q W (hH.fr f))
  have HPA := Lib.hid (fun k (hk : k < 18) W (f : Fr w W) => tells7 W (hA.fr f) k hk)
  have HPH := Lib.hid (fun k W (f : Fr w W) => pend7_c _ _ q k W (hH.fr f))
  obtain ⟨cv, pv, n0, D, hAt, _⟩ := id hA
  have hcfg := fun W (f : Fr w W) => autConfig_c W (hAt.fr f)
  have HC := Lib.hid hcfg
  have c0 := hH.at0
  have hql := hH.lt
  have hpl := hA.lt.1
  have hcn : ∀ W, (binOp .neq 37 (.agg c.cfg.cells.toArray) (.agg c.cfg.cells.toArray)).run Tryz.prog W = .ok (.bool false) W := fun W => by have := neq_of_eql (cfg_eql c.cfg c.cfg W); simpa [Cfg.cells] using this
  obtain ⟨N, hN⟩ : ∃ N, N = openTo (c :: M) 16 := ⟨_, rfl⟩
  obtain ⟨I, hI⟩ : ∃ I, I = lastId (c :: M) := ⟨_, rfl⟩
  rw [← hN] at HAO HHO
  rw [← hI] at HAL HHL
  obtain ⟨n, hn⟩ : ∃ n, n = (c :: M).length := ⟨_, rfl⟩
  have hn0 : 0 < n := by rw [hn]; simp
  rw [← hn] at c0 hcap
  obtain ⟨L, hL⟩ : ∃ L, L = c :: M := ⟨_, rfl⟩
  rw [← hL] at HPA HPH
  clear hn hL
  clear hA hH hN hI hAt hcfg
  unfold PendP at HPH
  go_enter Tryz.func11, Tryz.ntmps11
  go_wp2_with fail
  refine (HC.out _ (Fr.refl _)).mono ?_
  rintro e w1 ⟨rfl, hf1⟩
  go_upto_region 2 with ((with_reducible refine wpList_here (.store 37 (.tmp 5) (.tmp 15)) rfl ?_); refine wpList_store_new 37 (.tmp 5) (.tmp 15) rfl _ c.cfg.cells.toArray _ rfl rfl rfl Tryz.infoCfgT rfl (cfg_one _) rfl rfl ?_)
  refine gen_w fun W hW => ?_
  have hC : BoxAt W w1.heap.size c.cfg.cells.toArray 37 := by rw [hW]; exact BoxAt.new w1 _ _
  have hF : Fr w W := by rw [hW]; exact hf1.trans ((Fr.refl _).alloc _)
  generalize w1.heap.size = b0 at hC ⊢
  clear hW
  have HF := Lib.hid hF
  have d0 := FrW.cell (hF.keep c0)
  have hlq : ∀ z : FrW W, q < z.val.heap.size := fun z => Nat.lt_of_lt_of_le hql (hF.trans z.fr).size
  have hlb : ∀ z : FrW W, b1 < z.val.heap.size := fun z => Nat.lt_of_lt_of_le hb1 (hF.trans z.fr).size
  have hr1 := FrW.range (rangeAt_keep hcf (hF.block hb1)) (Nat.lt_of_lt_of_le hb1 hF.size)
  have hr0 := FrW.range (w0 := W) (b := b0) (o := 0) (cs := c.cfg.cells) (fun j v hj => by rw [Nat.zero_add]; exact hC.at j (by simpa using hj)) hC.lt
  have en1 : decide (0 < (n : Int)) = true := by simp; omega
  have en2 : decide (0 < n) = true := by simp; omega
  clear hcf
  clear hF c0 hC
  go_wp2_with fail
  refine wp_region_fr (by kernel_rfl) (by kernel_rfl) ?_
  repeat (first | ((with_reducible refine wpQuiet_here (.load 37 (.tmp 5)) rfl ?_); refine wpQuiet_load_midD 28 rfl 37 (.tmp 5) rfl b0 0 rfl c.cfg.cells _ hr0 Tryz.underlying37 rfl Tryz.infoCfgT rfl ?_; simp only [List.setIfInBounds_toArray, List.set_cons_succ, List.set_cons_zero]) | ((with_reducible refine wpQuiet_here (.load 37 (.tmp 34)) rfl ?_); refine wpQuiet_load_midD 35 rfl 37 (.tmp 34) rfl b1 (o1 + 12) rfl c.cfg.cells _ hr1 Tryz.underlying37 rfl Tryz.infoCfgT rfl ?_; simp only [List.setIfInBounds_toArray, List.set_cons_succ, List.set_cons_zero]) | (go_big_quiet_step ((first | (go_at_call 21; exact frq (HAO.out _ (Fr.trans HF.out (FrW.fr _)))) | (go_at_call 22; exact frq (HHO.out _ (Fr.trans HF.out (FrW.fr _)))) | (go_at_call 23; exact frq (HAL.out _ (Fr.trans HF.out (FrW.fr _)))) | (go_at_call 24; exact frq (HHL.out _ (Fr.trans HF.out (FrW.fr _))))))))
  refine wpQuiet_nil ?_
  rintro w5 ⟨⟨_, hf5⟩, rfl⟩
  have hF5 := HF.out.trans hf5
  clear d0 hlq hf5 HF hlb hr1 hr0 hcn en1 en2
  go_wp2_with fail
  go_loopw [7] (fun i wr => ∃ k : Nat, k ≤ 18 ∧ i = .int .i64 k ∧ Fr w wr) (fun i _ => 18 - (intOf i).toNat)
  case atStart => exact ⟨0, by omega, rfl, hF5⟩
  case round =>
    clear hF5
    obtain ⟨k, hk, rfl, hfr⟩ := hrel
    by_cases hlt : k < 18
    · have hki : (k : Int) < 18 := by omega
      go_wp2_with fail
      refine (HPA.out k hlt _ hfr).mono ?_
      rintro e w2 ⟨⟨y, ta, tn, tc, ra, rn, rc, rfl, hy, hm, hr⟩, hf2⟩
      have hF2 := hfr.trans hf2
      have HM := Lib.hid (⟨hm, hr⟩ : _ ∧ _)
      have HY := Lib.hid hy
      clear hm hr hy hf2
      have hf3 := hF2.trans ((Fr.refl w2).alloc (.cells (y.cells (.slice ta tn tc) (.slice ra rn rc)) 39))
      go_wp2_with ((with_reducible refine wpList_here (.store 39 (.tmp 8) (.tmp 62)) rfl ?_); refine wpList_store_new 39 (.tmp 8) (.tmp 62) rfl _ (y.cells (.slice ta tn tc) (.slice ra rn rc)) _ rfl rfl rfl Tryz.infoEv rfl (Ev.oneCell y ta ra tn tc rn rc) rfl rfl ?_)
      refine (HPH.out k _ hf3).mono ?_
      rintro e w4 ⟨⟨sa, sn, sc, ua, un, uc, rfl, hm, hr⟩, hf4⟩
      have hB4 := (BoxAt.new w2 (y.cells (.slice ta tn tc) (.slice ra rn rc)) 39).fr hf4
      have hF4 := hf3.trans hf4
      have hF24 := ((Fr.refl w2).alloc (.cells (y.cells (.slice ta tn tc) (.slice ra rn rc)) 39)).trans hf4
      have HZ := Lib.hid (⟨hm, hr⟩ : _ ∧ _)
      clear hm hr hf4 hf3
      cases hp : pend L k with
      | none =>
        generalize lastEv L k = z at HZ
        clear hp HY
        simp only [Option.isSome_none]
        go_wp2_with ((with_reducible refine wpList_here (.store 39 (.tmp 10) (.tmp 69)) rfl ?_); refine wpList_store_new 39 (.tmp 10) (.tmp 69) rfl _ (z.cells (.slice sa sn sc) (.slice ua un uc)) _ rfl rfl rfl Tryz.infoEv rfl (Ev.oneCell z sa ua sn sc un uc) rfl rfl ?_)
        go_roundw
        case rel => exact ⟨k + 1, by omega, by go_num, hF4.alloc _⟩
        case measure => simp [intOf]; omega
      | some x =>
        obtain rfl := HY.out x hp
        rw [lastEv_pend hp] at HZ ⊢
        clear hp HY
        simp only [Option.isSome_some]
        have hF5 := hF4.alloc (.cells (y.cells (.slice sa sn sc) (.slice ua un uc)) 39)
        have hS := refSame_c (y.val (.slice ta tn tc) (.slice ra rn rc)) (y.val (.slice sa sn sc) (.slice ua un uc)) y y (w4.alloc (.cells (y.cells (.slice sa sn sc) (.slice ua un uc)) 39)) ⟨_, _, rfl, HM.out.1.keep (hF24.alloc _), HM.out.2.keep (hF24.alloc _)⟩ ⟨_, _, rfl, HZ.out.1.keep ((Fr.refl _).alloc _), HZ.out.2.keep ((Fr.refl _).alloc _)⟩
        rw [decide_eq_true rfl] at hS
        have HS := Lib.hid hS
        have hB5 := hB4.alloc (.cells (y.cells (.slice sa sn sc) (.slice ua un uc)) 39)
        have hB6 := BoxAt.new w4 (y.cells (.slice sa sn sc) (.slice ua un uc)) 39
        clear hS hB4
        go_wp2_with (first | ((with_reducible refine wpList_here (.store 39 (.tmp 10) (.tmp 69)) rfl ?_); refine wpList_store_new 39 (.tmp 10) (.tmp 69) rfl _ (y.cells (.slice sa sn sc) (.slice ua un uc)) _ rfl rfl rfl Tryz.infoEv rfl (Ev.oneCell y sa ua sn sc un uc) rfl rfl ?_) | ((with_reducible refine wpList_here (.load 39 (.tmp 8)) rfl ?_); refine wpList_load_box 39 (.tmp 8) rfl w2.heap.size rfl _ hB5 _ Tryz.underlying39 rfl Tryz.infoEv rfl ?_) | ((with_reducible refine wpList_here (.load 39 (.tmp 10)) rfl ?_); refine wpList_load_box 39 (.tmp 10) rfl w4.heap.size rfl _ hB6 _ Tryz.underlying39 rfl Tryz.infoEv rfl ?_))
        refine HS.out.mono ?_
        rintro e w6 ⟨rfl, hf6⟩
        have hF6 := hF5.trans hf6
        clear hB5 hB6 hf6
        go_wp2_with fail
        go_roundw
        case rel => exact ⟨k + 1, by omega, by go_num, hF6⟩
        case measure => simp [intOf]; omega
    · obtain rfl : k = 18 := by omega
      go_wp2_with fail
      go_ret
      exact ⟨rfl, hfr⟩
set_option maxRecDepth 100000 in
set_option maxHeartbeats 8000000 in
theorem toldNil_c {p bm q : Nat} {hv : Value} (w : World) (hA : Aut w p bm []) (hH : HisAt w q hv []) :
    Calls Tryz.prog 11 #[.pointer (some ⟨p, 0, none⟩), .pointer (some ⟨q, 0, none⟩)] w fun e w' => e = .returned (.bool true) ∧ Fr w w' := by
  obtain ⟨a, cap, rfl, hcap, hmax, _⟩ := id hH.rd
  unfold maxLen at hmax
  have HAO := Lib.hid (fun W (f : Fr w W) => open_c W (hA.fr f))
  have HHO := Lib.hid (fun W (f : Fr w W) => open7_c _ _ q W (hH.fr f))
  have HAL := Lib.hid (fun W (f : Fr w W) => last_c W (hA.fr f))
  have HHL := Lib.hid (fun W (f : Fr w W) => last7_c _ _ q W (hH.fr f))
  have HPA := Lib.hid (fun k (hk : k < 18) W (f : Fr w W) => tells7 W (hA.fr f) k hk)
  have HPH := Lib.hid (fun k W (f : Fr w W) => pend7_c _ _ q k W (hH.fr f))
  obtain ⟨cv, pv, n0, D, hAt, _⟩ := id hA
  have hcfg := fun W (f : Fr w W) => autConfigNone_c W (hAt.fr f)
  have HC := Lib.hid hcfg
  have c0 := hH.at0
  have hql := hH.lt
  have hpl := hA.lt.1
  obtain ⟨N, hN⟩ : ∃ N, N = openTo [] 16 := ⟨_, rfl⟩
  obtain ⟨I, hI⟩ : ∃ I, I = lastId [] := ⟨_, rfl⟩
  rw [← hN] at HAO HHO
  rw [← hI] at HAL HHL
  have hn0 : ((0 : Nat) : Int) = 0 := rfl
  obtain ⟨L, hL⟩ : ∃ L : List Ev, L = [] := ⟨_, rfl⟩
  rw [← hL] at HPA HPH
  clear hL hn0
  clear hA hH hN hI hAt hcfg
  unfold PendP at HPH
  go_enter Tryz.func11, Tryz.ntmps11
  go_wp2_with fail
  refine (HC.out _ (Fr.refl _)).mono ?_
  rintro e w1 ⟨rfl, hf1⟩
  go_upto_region 2 with ((with_reducible refine wpList_here (.store 37 (.tmp 5) (.tmp 15)) rfl ?_); refine wpList_store_new 37 (.tmp 5) (.tmp 15) rfl _ Cfg.zero.cells.toArray _ rfl rfl rfl Tryz.infoCfgT rfl (cfg_one _) rfl rfl ?_)
  refine gen_w fun W hW => ?_
  have hC : BoxAt W w1.heap.size Cfg.zero.cells.toArray 37 := by rw [hW]; exact BoxAt.new w1 _ _
  have hF : Fr w W := by rw [hW]; exact hf1.trans ((Fr.refl _).alloc _)
  generalize w1.heap.size = b0 at hC ⊢
  clear hW
  have HF := Lib.hid hF
  have d0 := FrW.cell (hF.keep c0)
  have hlq : ∀ z : FrW W, q < z.val.heap.size := fun z => Nat.lt_of_lt_of_le hql (hF.trans z.fr).size
  clear hF c0 hC
  go_wp2_with fail
  refine wp_region_fr (by kernel_rfl) (by kernel_rfl) ?_
  repeat (first | (go_big_quiet_step ((first | (go_at_call 21; exact frq (HAO.out _ (Fr.trans HF.out (FrW.fr _)))) | (go_at_call 22; exact frq (HHO.out _ (Fr.trans HF.out (FrW.fr _)))) | (go_at_call 23; exact frq (HAL.out _ (Fr.trans HF.out (FrW.fr _)))) | (go_at_call 24; exact frq (HHL.out _ (Fr.trans HF.out (FrW.fr _))))))))
  refine wpQuiet_nil ?_
  rintro w5 ⟨⟨_, hf5⟩, rfl⟩
  have hF5 := HF.out.trans hf5
  clear d0 hlq hf5 HF
  go_wp2_with fail
  go_loopw [7] (fun i wr => ∃ k : Nat, k ≤ 18 ∧ i = .int .i64 k ∧ Fr w wr) (fun i _ => 18 - (intOf i).toNat)
  case atStart => exact ⟨0, by omega, rfl, hF5⟩
  case round =>
    clear hF5
    obtain ⟨k, hk, rfl, hfr⟩ := hrel
    by_cases hlt : k < 18
    · have hki : (k : Int) < 18 := by omega
      go_wp2_with fail
      refine (HPA.out k hlt _ hfr).mono ?_
      rintro e w2 ⟨⟨y, ta, tn, tc, ra, rn, rc, rfl, hy, hm, hr⟩, hf2⟩
      have hF2 := hfr.trans hf2
      have HM := Lib.hid (⟨hm, hr⟩ : _ ∧ _)
      have HY := Lib.hid hy
      clear hm hr hy hf2
      have hf3 := hF2.trans ((Fr.refl w2).alloc (.cells (y.cells (.slice ta tn tc) (.slice ra rn rc)) 39))
      go_wp2_with ((with_reducible refine wpList_here (.store 39 (.tmp 8) (.tmp 62)) rfl ?_); refine wpList_store_new 39 (.tmp 8) (.tmp 62) rfl _ (y.cells (.slice ta tn tc) (.slice ra rn rc)) _ rfl rfl rfl Tryz.infoEv rfl (Ev.oneCell y ta ra tn tc rn rc) rfl rfl ?_)
      refine (HPH.out k _ hf3).mono ?_
      rintro e w4 ⟨⟨sa, sn, sc, ua, un, uc, rfl, hm, hr⟩, hf4⟩
      have hB4 := (BoxAt.new w2 (y.cells (.slice ta tn tc) (.slice ra rn rc)) 39).fr hf4
      have hF4 := hf3.trans hf4
      have hF24 := ((Fr.refl w2).alloc (.cells (y.cells (.slice ta tn tc) (.slice ra rn rc)) 39)).trans hf4
      have HZ := Lib.hid (⟨hm, hr⟩ : _ ∧ _)
      clear hm hr hf4 hf3
      cases hp : pend L k with
      | none =>
        generalize lastEv L k = z at HZ
        clear hp HY
        simp only [Option.isSome_none]
        go_wp2_with ((with_reducible refine wpList_here (.store 39 (.tmp 10) (.tmp 69)) rfl ?_); refine wpList_store_new 39 (.tmp 10) (.tmp 69) rfl _ (z.cells (.slice sa sn sc) (.slice ua un uc)) _ rfl rfl rfl Tryz.infoEv rfl (Ev.oneCell z sa ua sn sc un uc) rfl rfl ?_)
        go_roundw
        case rel => exact ⟨k + 1, by omega, by go_num, hF4.alloc _⟩
        case measure => simp [intOf]; omega
      | some x =>
        obtain rfl := HY.out x hp
        rw [lastEv_pend hp] at HZ ⊢
        clear hp HY
        simp only [Option.isSome_some]
        have hF5 := hF4.alloc (.cells (y.cells (.slice sa sn sc) (.slice ua un uc)) 39)
        have hS := refSame_c (y.val (.slice ta tn tc) (.slice ra rn rc)) (y.val (.slice sa sn sc) (.slice ua un uc)) y y (w4.alloc (.cells (y.cells (.slice sa sn sc) (.slice ua un uc)) 39)) ⟨_, _, rfl, HM.out.1.keep (hF24.alloc _), HM.out.2.keep (hF24.alloc _)⟩ ⟨_, _, rfl, HZ.out.1.keep ((Fr.refl _).alloc _), HZ.out.2.keep ((Fr.refl _).alloc _)⟩
        rw [decide_eq_true rfl] at hS
        have HS := Lib.hid hS
        have hB5 := hB4.alloc (.cells (y.cells (.slice sa sn sc) (.slice ua un uc)) 39)
        have hB6 := BoxAt.new w4 (y.cells (.slice sa sn sc) (.slice ua un uc)) 39
        clear hS hB4
        go_wp2_with (first | ((with_reducible refine wpList_here (.store 39 (.tmp 10) (.tmp 69)) rfl ?_); refine wpList_store_new 39 (.tmp 10) (.tmp 69) rfl _ (y.cells (.slice sa sn sc) (.slice ua un uc)) _ rfl rfl rfl Tryz.infoEv rfl (Ev.oneCell y sa ua sn sc un uc) rfl rfl ?_) | ((with_reducible refine wpList_here (.load 39 (.tmp 8)) rfl ?_); refine wpList_load_box 39 (.tmp 8) rfl w2.heap.size rfl _ hB5 _ Tryz.underlying39 rfl Tryz.infoEv rfl ?_) | ((with_reducible refine wpList_here (.load 39 (.tmp 10)) rfl ?_); refine wpList_load_box 39 (.tmp 10) rfl w4.heap.size rfl _ hB6 _ Tryz.underlying39 rfl Tryz.infoEv rfl ?_))
        refine HS.out.mono ?_
        rintro e w6 ⟨rfl, hf6⟩
        have hF6 := hF5.trans hf6
        clear hB5 hB6 hf6
        go_wp2_with fail
        go_roundw
        case rel => exact ⟨k + 1, by omega, by go_num, hF6⟩
        case measure => simp [intOf]; omega
    · obtain rfl : k = 18 := by omega
      go_wp2_with fail
      go_ret
      exact ⟨rfl, hfr⟩
theorem told_c {p bm q : Nat} {hv : Value} {L : List Ev} (w : World) (hA : Aut w p bm L) (hH : HisAt w q hv L) :
    Calls Tryz.prog 11 #[.pointer (some ⟨p, 0, none⟩), .pointer (some ⟨q, 0, none⟩)] w fun e w' => e = .returned (.bool true) ∧ Fr w w' := by
  cases L with
  | nil => exact toldNil_c w hA hH
  | cons c M => exact toldCons_c w hA hH
end Go.Proofs.YtdjjjnoecfbjeaaGreatDoor

/- HistorySteps. No condition but that the events can be read, and the numbers' bounds. -/
namespace Go.Proofs.YtdjjjnoecfbjeaaGreatDoor
open Go.RowKit
attribute [local go_sem] Oper.semAt_some

/-- What an automaton uses lies in memory. -/
theorem AutIn.below {Z : Nat → Prop} {w : World} {p bm : Nat} {M : List Ev} (h : AutIn Z w p bm M) : AutIn (fun k => Z k ∧ k < w.heap.size) w p bm M := by
  obtain ⟨cv, pv, n, D, g1, g2, zp, zb, zc, zv⟩ := h
  refine ⟨cv, pv, n, D, g1, g2, ⟨zp, g1.box.lt⟩, ⟨zb, g1.map.own.lt⟩, ?_, fun c u hu x hx => ?_⟩
  · have hc := g1.cfg
    cases M with
    | nil => exact .inl hc
    | cons y l =>
      obtain ⟨b, hb, hB⟩ := hc
      rcases zc with zc | ⟨b', hb', hz⟩
      · exact .inl zc
      · rw [hb'] at hb; cases hb
        exact .inr ⟨_, hb', hz, hB.lt⟩
  · obtain ⟨b, t, r, k1, k2, k3, k4, k5⟩ := zv c u hu x hx
    refine ⟨b, t, r, k1, ⟨k2, k3.lt⟩, k3, ?_, k5⟩
    obtain ⟨a, cap, rfl, q1, q2, q3⟩ := k4
    refine ⟨a, cap, rfl, q1, q2, ?_⟩
    rcases q3 with q3 | ⟨b1, off, rfl, hz, hlt, hc⟩
    · exact .inl q3
    · exact .inr ⟨b1, off, rfl, ⟨hz, hlt⟩, hlt, hc⟩
/-- An automaton that uses neither the history nor its list stays when the history takes an event. -/
theorem AutIn.took {w w' : World} {p bm q : Nat} {M : List Ev} {v v' : Value} (h : AutIn (fun k => v.ownBlock ≠ some k ∧ k ≠ q) w p bm M) (hT : Took w w' q v v') : AutIn (fun k => v'.ownBlock ≠ some k ∧ k ≠ q) w' p bm M :=
  (h.below.keep hT.size fun k hz hk => hT.block k hk hz.1.2 hz.1.1).mono fun k hz => ⟨fun e => by
    rcases hT.at_ k e with h | h
    · exact hz.1.1 h
    · have := hz.2; omega, hz.1.2⟩
theorem AutIn.fr {Z : Nat → Prop} {w w' : World} {p bm : Nat} {M : List Ev} (h : AutIn Z w p bm M) (f : Fr w w') : AutIn Z w' p bm M := h.keep f.size fun _ _ hk => f.block hk
/-- What both know so far. -/
def StepsSt (w : World) (p bm q : Nat) (M : List Ev) (wr : World) : Prop :=
  Fr w wr ∧ ∃ hv, BoxAt wr q #[hv] 27 ∧ OwE w wr hv M ∧ hv.ownBlock ≠ some q ∧ AutIn (fun k => hv.ownBlock ≠ some k ∧ k ≠ q) wr p bm M
set_option maxRecDepth 100000 in
set_option maxHeartbeats 8000000 in
theorem hisSteps_c (l : List Ev) (v : Value) (w : World) (hE : Env w) (hl : RdE w v l) (hok : ∀ x ∈ l, x.Ok) : Calls Tryz.prog 4 #[v] w fun e w' => e = .returned (.bool true) ∧ Fr w w' := by
  obtain ⟨a, cap, rfl, hcap, hmax, _⟩ := id hl
  unfold maxLen at hmax
  have HE := Lib.hid hE
  have HL := Lib.hid hl
  have HOK := Lib.hid hok
  have HF := few7_c l _ w hl
  clear hE hl hok
  go_enter Tryz.func4, Tryz.ntmps4
  go_wp2_with fail
  refine HF.mono ?_
  rintro e w1 ⟨b, rfl, hb, hf1⟩
  cases b
  · go_wp2_with fail
    refine (awake7_c _ (HE.out.keep hf1)).mono ?_
    rintro e w2 ⟨rfl, hf2⟩
    go_wp2_with fail
    go_ret
    exact ⟨rfl, hf1.trans hf2⟩
  · have h120 := hb rfl
    clear hb HF
    go_wp2_with fail
    refine (new_c _).mono ?_
    rintro e w2 ⟨⟨p, bm, rfl, hp, hbm, hA⟩, hf2⟩
    have hF2 := hf1.trans hf2
    have hp0 : w.heap.size ≤ p := by have := hf1.size; omega
    have hbm0 : w.heap.size ≤ bm := by have := hf1.size; omega
    have hA0 : AutIn (· < w2.heap.size) w2 p bm [] := hA.inn
    clear hA hf2 hp hbm
    go_wp2_with fail
    refine gen_w fun W hW => ?_
    have hB : BoxAt W w2.heap.size #[.slice none 0 0] 27 := by rw [hW]; exact BoxAt.new w2 _ _
    have hFW : Fr w2 W := by rw [hW]; exact (Fr.refl _).alloc _
    have hAW : AutIn (fun k => (Value.slice none 0 0).ownBlock ≠ some k ∧ k ≠ w2.heap.size) W p bm [] := (hA0.fr hFW).mono fun k hk => ⟨by simp [Value.ownBlock], by omega⟩
    have hqw : w.heap.size ≤ w2.heap.size := hF2.size
    have hFW := hF2.trans hFW
    clear hW hA0 hF2
    generalize w2.heap.size = q at hB hAW hqw ⊢
    have hst0 : StepsSt w p bm q [] W := ⟨hFW, _, hB, OwE.nil _ _, by simp [Value.ownBlock], hAW⟩
    clear hB hAW hFW
    go_loopw [5] (fun i wr => ∃ k : Nat, k ≤ l.length ∧ i = .int .i64 k ∧ StepsSt w p bm q (runTo (l.take k)) wr) (fun i _ => l.length - (intOf i).toNat)
    case atStart => exact ⟨0, Nat.zero_le _, rfl, hst0⟩
    case round =>
      clear hst0
      obtain ⟨k, hk, rfl, hfr, hv, hB, hO, hqv, hA⟩ := hrel
      by_cases hlt : k < l.length
      · obtain ⟨b1, o1, t, r, rfl, hb1, hx0, ht0, hr0⟩ := RdE.at HL.out hlt
        have hx := rangeAt_keep hx0 (hfr.block hb1)
        have hb1r : b1 < wr.heap.size := Nat.lt_of_lt_of_le hb1 hfr.size
        have hk1 : k < cap := by omega
        have hok1 := HOK.out _ (List.getElem_mem hlt)
        have hrt := runTo_take hlt
        have hlen1 : (runTo (l.take k)).length ≤ 120 := by have := runTo_len (l.take k); simp at this; omega
        generalize l[k] = x at hx0 hx ht0 hr0 hok1 hrt
        generalize runTo (l.take k) = M at hO hA hrt hlen1
        obtain ⟨ta, tn, tc, rfl⟩ := ht0.slice
        obtain ⟨ra, rn, rc, rfl⟩ := hr0.slice
        have hX : EvAt wr (x.val (.slice ta tn tc) (.slice ra rn rc)) x := ⟨_, _, rfl, ht0.keep hfr, hr0.keep hfr⟩
        have hst := stepIn_c wr (fun k hk => ⟨fun e => by have := (hO.lt k e).2; omega, fun e => by have := hB.lt; omega⟩) hA (HE.out.keep hfr) hX hok1 (by omega)
        have hmay := hA.aut.all
        obtain ⟨_, _, _, _, _, _, zp, zb, _⟩ := hA
        have HS := Lib.hid hst
        have HB := Lib.hid hB
        have HO := Lib.hid hO
        have HZ := Lib.hid (⟨zp, zb, hqv, hmay⟩ : _ ∧ _ ∧ _ ∧ _)
        have HTR := Lib.hid (⟨ht0, hr0⟩ : _ ∧ _)
        have HRT := Lib.hid hrt
        clear hst hB hO hX hrt zp zb hqv hmay ht0 hr0
        go_wp2_with ((with_reducible refine wpList_here (.load 39 (.tmp 25)) rfl ?_); refine wpList_load_midW 39 (.tmp 25) rfl b1 (o1 + k * 19) rfl (x.cells (.slice ta tn tc) (.slice ra rn rc)).toList _ hx Tryz.underlying39 rfl Tryz.infoEv rfl ?_)
        refine HS.out.mono ?_
        rintro e w3 ⟨rfl, hA3, hc3⟩
        have hf3 : Fr w w3 := Ch2.fr hfr hc3 hp0 hbm0
        have hx3 := rangeAt_keep hx0 (hf3.block hb1)
        have hb13 : b1 < w3.heap.size := Nat.lt_of_lt_of_le hb1 hf3.size
        have hB3 : BoxAt w3 q #[hv] 27 := (hc3.block q HB.out.lt (fun e => HZ.out.1.2 e.symm) (fun e => HZ.out.2.1.2 e.symm)).trans HB.out
        have hO3 : OwE w w3 hv M := HO.out.keep fun g hg => hc3.block g (HO.out.lt g hg).2 (fun e => HZ.out.1.1 (e ▸ hg)) (fun e => HZ.out.2.1.1 (e ▸ hg))
        by_cases h0 : stepWhy M x = 0
        · have hst := step7Yes_c w M hv q w3 hB3 hO3 hf3 hqw HZ.out.2.2.1 HZ.out.2.2.2 (by omega) x _ _ HTR.out.1 HTR.out.2 hok1 h0
          have hRT : runTo (l.take (k + 1)) = M ++ [x] := by rw [HRT.out, stepTo_yes h0]
          rw [h0]
          rw [stepTo_yes h0] at hA3
          have hmx := stepWhy_may h0
          have HST := Lib.hid hst
          have HRT2 := Lib.hid hRT
          have HA3 := Lib.hid hA3
          have HMX := Lib.hid hmx
          have HB3 := Lib.hid hB3
          have HO3 := Lib.hid hO3
          clear hst hRT hA3 hmx h0 hB3 hO3 hc3 hx hx0 hb1r
          go_wp2_with ((with_reducible refine wpList_here (.load 39 (.tmp 32)) rfl ?_); refine wpList_load_midW 39 (.tmp 32) rfl b1 (o1 + k * 19) rfl (x.cells (.slice ta tn tc) (.slice ra rn rc)).toList _ hx3 Tryz.underlying39 rfl Tryz.infoEv rfl ?_)
          refine HST.out.mono ?_
          rintro e w4 ⟨rfl, v', hB4, hO4, hT4⟩
          have hF4 : Fr w w4 := hT4.fr hf3 hqw fun g hg => (HO3.out.lt g hg).1
          have hA4 := HA3.out.took hT4
          have hqv4 : v'.ownBlock ≠ some q := fun e => by
            rcases hT4.at_ q e with h1 | h1
            · exact HZ.out.2.2.1 h1
            · have := HB3.out.lt; omega
          have hmay4 : ∀ y ∈ M ++ [x], y.may = true ∧ y.Ok := fun y hy => by
            rcases List.mem_append.1 hy with hy | hy
            · exact HZ.out.2.2.2 y hy
            · obtain rfl := List.mem_singleton.1 hy; exact ⟨HMX.out, hok1⟩
          have htl := told_c w4 hA4.aut ⟨hB4, hO4.rd hF4, hmay4, by simp; omega⟩
          have HTL := Lib.hid htl
          have HA4 := Lib.hid hA4
          have HB4 := Lib.hid hB4
          have HO4 := Lib.hid hO4
          clear htl hA4 hB4 hO4 hT4 hmay4 hx3
          go_wp2_with fail
          refine HTL.out.mono ?_
          rintro e w5 ⟨rfl, hf5⟩
          have hst5 : StepsSt w p bm q (runTo (l.take (k + 1))) w5 := by
            rw [HRT2.out]
            exact ⟨hF4.trans hf5, v', HB4.out.fr hf5, HO4.out.fr hf5, hqv4, HA4.out.fr hf5⟩
          have HST5 := Lib.hid hst5
          clear hst5 hf5 hqv4
          go_wp2_with fail
          go_roundw
          case rel => exact ⟨k + 1, by omega, by go_num, HST5.out⟩
          case measure => simp [intOf]; omega
        · have hst := step7No_c M hv q w3 ⟨hB3, hO3.rd hf3, HZ.out.2.2.2, by omega⟩ x _ _ (HTR.out.1.keep hf3) (HTR.out.2.keep hf3) hok1 h0
          have hRT : runTo (l.take (k + 1)) = M := by rw [HRT.out, stepTo_no h0]
          rw [stepTo_no h0] at hA3
          generalize stepWhy M x = S at hst h0 ⊢
          have HST := Lib.hid hst
          have HRT2 := Lib.hid hRT
          have HA3 := Lib.hid hA3
          have HB3 := Lib.hid hB3
          have HO3 := Lib.hid hO3
          clear hst hRT hA3 h0 hB3 hO3 hc3 hx hx0 hb1r
          go_wp2_with ((with_reducible refine wpList_here (.load 39 (.tmp 32)) rfl ?_); refine wpList_load_midW 39 (.tmp 32) rfl b1 (o1 + k * 19) rfl (x.cells (.slice ta tn tc) (.slice ra rn rc)).toList _ hx3 Tryz.underlying39 rfl Tryz.infoEv rfl ?_)
          refine HST.out.mono ?_
          rintro e w4 ⟨rfl, hf4⟩
          have hF4 : Fr w w4 := hf3.trans hf4
          have hA4 := HA3.out.fr hf4
          have hB4 := HB3.out.fr hf4
          have hO4 := HO3.out.fr hf4
          have htl := told_c w4 hA4.aut ⟨hB4, hO4.rd hF4, HZ.out.2.2.2, by omega⟩
          have HTL := Lib.hid htl
          have HA4 := Lib.hid hA4
          have HB4 := Lib.hid hB4
          have HO4 := Lib.hid hO4
          clear htl hA4 hB4 hO4 hf4 hx3
          go_wp2_with fail
          refine HTL.out.mono ?_
          rintro e w5 ⟨rfl, hf5⟩
          have hst5 : StepsSt w p bm q (runTo (l.take (k + 1))) w5 := by
            rw [HRT2.out]
            exact ⟨hF4.trans hf5, hv, HB4.out.fr hf5, HO4.out.fr hf5, HZ.out.2.2.1, HA4.out.fr hf5⟩
          have HST5 := Lib.hid hst5
          clear hst5 hf5
          go_wp2_with fail
          go_roundw
          case rel => exact ⟨k + 1, by omega, by go_num, HST5.out⟩
          case measure => simp [intOf]; omega
      · clear hB hO hqv hA
        go_wp2_with fail
        refine (awake7_c _ (HE.out.keep hfr)).mono ?_
        rintro e w2 ⟨rfl, hf2⟩
        go_wp2_with fail
        go_ret
        exact ⟨rfl, hfr.trans hf2⟩
end Go.Proofs.YtdjjjnoecfbjeaaGreatDoor
