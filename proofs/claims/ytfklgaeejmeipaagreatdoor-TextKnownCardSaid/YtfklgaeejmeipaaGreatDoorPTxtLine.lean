/- text.Line: an event's line. No condition but the tables' content, that the event can be read, and its numbers' bounds. Printed by gen_txtline.py. -/
import Derived.Test.YtfklgaeejmeipaaGreatDoorPTxtCfg
import Derived.Test.YtfklgaeejmeipaaGreatDoorPTxtMic
import Derived.Test.YtfklgaeejmeipaaGreatDoorPTxtLen
import Derived.Test.YtfklgaeejmeipaaGreatDoorPTxtRow
import Derived.Test.YtfklgaeejmeipaaGreatDoorPResTextW
set_option linter.all false
set_option linter.unusedVariables false
set_option linter.unusedSimpArgs false
set_option linter.unnecessarySimpa false
/- text.Line: an event's line. No condition but the tables' content, that the event can be read, and its numbers' bounds. Printed by gen_txtline.py. -/
namespace Go.Proofs.YtfklgaeejmeipaaGreatDoor
open Go.RowKit

def linePr (W0 : World) (VR : Value) (B n1 n2 : Nat) (j : Nat) (w : World) (v : Value) : Prop := match j with
  | 0 => v = VR
  | 1 => v = (.pointer (some ⟨B, 1, none⟩))
  | 2 => v = (.int .u8 (n1 : Nat))
  | 3 => v = (.string ⟨(Lib.decDigits n1).toArray⟩)
  | 4 => v = (.pointer (some ⟨B, 2, none⟩))
  | 5 => v = (.int .u16 (n2 : Nat))
  | 6 => v = (.string ⟨(Lib.decDigits n2).toArray⟩)
  | 7 => RowS W0 w v [Lib.decDigits n1, Lib.decDigits n2]
  | _ => True
theorem linePr_fr (W0 : World) (VR : Value) (B n1 n2 : Nat) (j : Nat) (w w' : World) (v : Value) (f : Fr w w') (h : linePr W0 VR B n1 n2 j w v) : linePr W0 VR B n1 n2 j w' v := by
  exact match j, h with
  | 0, h => h
  | 1, h => h
  | 2, h => h
  | 3, h => h
  | 4, h => h
  | 5, h => h
  | 6, h => h
  | 7, h => h.fr f
  | _ + 8, _ => trivial

set_option maxRecDepth 100000 in
set_option maxHeartbeats 1000000 in
theorem line_no (x : Ev) (t r : Value) (w : World) (hE : EnvT w) (hx : EvAt w (x.val t r) x) (ok : x.Ok) (hm : x.may = false) :
    Calls Tryz.prog 11 #[x.val t r] w fun e w' => e = .returned (.tuple #[.string ⟨#[]⟩, .int .i64 4]) ∧ Fr w w' := by
  have hch := fun W (f : Fr w W) => EvCheck_c x (x.val t r) W (hE.toEnv.keep f) (hx.keep f) ok
  have hc : x.check = 4 := by unfold Ev.check; rw [hm]; rfl
  rw [hc] at hch
  have hB0 := BoxAt.new w (x.cells t r) 32
  unfold Ev.cells at hB0
  unfold Ev.val at hch ⊢
  have HC := Lib.hid hch
  clear hch hc hm hx hE
  go_enter Tryz.func11, Tryz.ntmps11
  go_wp2_with ((with_reducible refine wpList_here (.load 32 (.tmp 1)) rfl ?_); refine wpList_load_box 32 (.tmp 1) rfl _ rfl _ hB0 _ Tryz.underlying32 rfl Tryz.infoEv rfl ?_)
  refine (HC.out _ ((Fr.refl w).alloc _)).mono ?_
  rintro e w1 ⟨rfl, hb⟩
  go_wp2_with fail
  go_ret2
  exact ⟨rfl, ((Fr.refl w).alloc _).trans hb⟩
set_option maxRecDepth 100000 in
set_option maxHeartbeats 4000000 in
theorem line_none (k : Nat) (x : Ev) (t r : Value) (w : World) (hE : EnvT w) (ht : RdM w t x.txn) (hr : RdR w r x.reads) (ok : x.Ok) (hm : x.may = true) (hk : x.kind = k) (hkk : k = 4 ∨ k = 7) :
    Calls Tryz.prog 11 #[x.val t r] w fun e w' => e = .returned (.tuple #[.string ⟨x.line.toArray⟩, .int .i64 0]) ∧ Fr w w' := by
  have hx : EvAt w (x.val t r) x := ⟨t, r, rfl, ht, hr⟩
  have hch := fun W (f : Fr w W) => EvCheck_c x (x.val t r) W (hE.toEnv.keep f) (hx.keep f) ok
  have hc : x.check = 0 := by unfold Ev.check; rw [hm]; rfl
  rw [hc] at hch
  have hkm := (may_kind hm).1
  have hcl16 := (may_kind hm).2.1
  have hll := line_short ok hm
  have hwl := (wordsT_short ok hm).1
  have hid := ok.id
  have hcl : x.client < 256 := by omega
  have HW : Hid (x.words = [kindW k] ++ [Lib.decDigits x.client, Lib.decDigits x.id]) := Lib.hid (by unfold Ev.words Ev.tailW; rw [if_neg (by omega), if_neg (by omega), if_neg (by omega), if_neg (by omega), if_neg (by omega), hk]; try rfl)
  have HM : Hid (True) := Lib.hid (by unfold Ev.kindMay at hkm; trivial)
  unfold Ev.line
  unfold Ev.line at hll
  have HL : Hid (∀ l, l = x.words → (Lib.join l [32]).length < 1000000 ∧ l.length < 1000000) := Lib.hid (fun l h => by subst h; omega)
  have HLW := Lib.hid (rfl : x.words = x.words)
  generalize x.words = LW at HW HL hll hwl ⊢
  clear hll hwl HLW hkm hm hc hx hcl16
  have e1 : ((k : Int) == 1) = false := by simp; omega
  have e2 : ((k : Int) == 2) = false := by simp; omega
  have e3 : ((k : Int) == 3) = false := by simp; omega
  have e5 : ((k : Int) == 5) = false := by simp; omega
  have e6 : ((k : Int) == 6) = false := by simp; omega
  have hk8 : k < 8 := by omega
  have hf0 := (Fr.refl w).alloc (.cells (x.cells t r) 32)
  have hB0 := BoxAt.new w (x.cells t r) 32
  have HE := Lib.hid hE
  unfold Ev.cells at hB0 hf0
  unfold Ev.val at hch ⊢
  rw [hk] at hch hB0 hf0 ⊢
  have HC := Lib.hid (hch _ hf0)
  clear hch hE hkk hk
  have OK := Lib.hid ok
  clear ok
  go_enter Tryz.func11, Tryz.ntmps11
  go_wp2_with ((with_reducible refine wpList_here (.load 32 (.tmp 1)) rfl ?_); refine wpList_load_box 32 (.tmp 1) rfl _ rfl _ hB0 _ Tryz.underlying32 rfl Tryz.infoEv rfl ?_)
  refine HC.out.mono ?_
  rintro e w1 ⟨rfl, hb⟩
  have hB1 := hB0.fr hb
  have hf1 := hf0.trans hb
  have d0 : w1.cell? ⟨w.heap.size, 0, none⟩ = some (.int .u8 k) := hB1.at 0 rfl
  have hlit := RowS.lit (Fr.refl w1) [kindW k] (by simp)
  have d0' := hlit.frm.keep d0
  have HBX := Lib.hid hB1
  have HF1 := Lib.hid hf1
  have gk := hf1.keep (HE.out.kindsT k hk8)
  have hz1 := hB1.lt
  clear hB0 hB1 hb hf0 hf1 HC
  have hB := HBX.out.alloc (.cells (strCells [kindW k]).toArray 9)
  have d1 : (w1.alloc (.cells (strCells [kindW k]).toArray 9)).cell? ⟨w.heap.size, 1, none⟩ = some (.int .u8 x.client) := hB.at 1 rfl
  have d2 : (w1.alloc (.cells (strCells [kindW k]).toArray 9)).cell? ⟨w.heap.size, 2, none⟩ = some (.int .u16 x.id) := hB.at 2 rfl
  have HT8 := Lib.hid (fun (n : Nat) (hn : n < 256) W (f : Fr (w1.alloc (.cells (strCells [kindW k]).toArray 9)) W) => num8_c n W (HE.out.toEnv0.keep ((HF1.out.trans hlit.frm).trans f)) hn)
  have HT16 := Lib.hid (fun (n : Nat) (hn : n < 65536) W (f : Fr (w1.alloc (.cells (strCells [kindW k]).toArray 9)) W) => num16_c n W (HE.out.toEnv0.keep ((HF1.out.trans hlit.frm).trans f)) hn)
  clear hB
  go_wp2_with fail
  refine wp_region_preds_tail (m := 8) (g := 2) (d := fun j => 29 + j) (Pr := linePr (w1.alloc (.cells (strCells [kindW k]).toArray 9)) (.slice (some ⟨w1.heap.size, 0, none⟩) 1 1) w.heap.size x.client x.id) (by kernel_rfl) rfl (by omega) (by kernel_rfl) (by kernel_rfl) (by kernel_rfl) (by kernel_rfl) (fun i j hi hj hne h => by have h : 29 + i = 29 + j := h; omega) (fun j hj => by show 29 + j < _; simp; omega) (fun j hj w w' v f h => linePr_fr _ _ _ _ _ j w w' v f h) ?hop ?hend
  case hop =>
    intro j hj K a w' hf hw ho hK
    rcases (show j = 0 ∨ j = 1 ∨ j = 2 ∨ j = 3 ∨ j = 4 ∨ j = 5 ∨ j = 6 ∨ j = 7 by omega) with rfl | rfl | rfl | rfl | rfl | rfl | rfl | rfl
    · -- 0
      have e5 : a.tmps[5]? = some (.slice (some ⟨w1.heap.size, 0, none⟩) 1 1) := (ho 5 (fun j hj => by show 5 ≠ 29 + j; omega)).trans rfl
      exact wpOp_runT rfl (wanted_plain rfl _) (.slice (some ⟨w1.heap.size, 0, none⟩) 1 1) w' (by unfold execOp; simp [go_sem, e5]) (hK _ w' (Fr.refl _) rfl)
    · -- 1
      have e1 : a.tmps[1]? = some (.pointer (some ⟨w.heap.size, 0, none⟩)) := (ho 1 (fun j hj => by show 1 ≠ 29 + j; omega)).trans rfl
      exact wpOp_runT rfl (wanted_plain rfl _) (.pointer (some ⟨w.heap.size, 1, none⟩)) w' (by unfold execOp; simp [go_sem, e1]) (hK _ w' (Fr.refl _) rfl)
    · -- 2
      obtain ⟨v30, (e30 : a.tmps[30]? = _), (q30 : v30 = (.pointer (some ⟨w.heap.size, 1, none⟩)))⟩ := hw 1 (by omega) (by kernel_rfl); rw [q30] at e30; clear q30
      have c0 := hf.keep d1
      exact wpOp_runT rfl (wanted_plain rfl _) (.int .u8 (x.client : Nat)) w' (by unfold execOp; simp [go_sem, e30, c0]) (hK _ w' (Fr.refl _) rfl)
    · -- 3
      obtain ⟨v31, (e31 : a.tmps[31]? = _), (q31 : v31 = (.int .u8 (x.client : Nat)))⟩ := hw 2 (by omega) (by kernel_rfl); rw [q31] at e31; clear q31
      exact wpOp_enterT rfl (wanted_plain rfl _) 29 #[.int .u8 (x.client : Nat)] (run_call Tryz.func29 (by kernel_rfl) rfl _ _ rfl _ (by simp [Act.eval, e31])) ((HT8.out x.client hcl w' hf).mono fun e w2 ⟨he, hw2⟩ => ⟨_, he, hK _ w2 hw2 rfl⟩)
    · -- 4
      have e1 : a.tmps[1]? = some (.pointer (some ⟨w.heap.size, 0, none⟩)) := (ho 1 (fun j hj => by show 1 ≠ 29 + j; omega)).trans rfl
      exact wpOp_runT rfl (wanted_plain rfl _) (.pointer (some ⟨w.heap.size, 2, none⟩)) w' (by unfold execOp; simp [go_sem, e1]) (hK _ w' (Fr.refl _) rfl)
    · -- 5
      obtain ⟨v33, (e33 : a.tmps[33]? = _), (q33 : v33 = (.pointer (some ⟨w.heap.size, 2, none⟩)))⟩ := hw 4 (by omega) (by kernel_rfl); rw [q33] at e33; clear q33
      have c0 := hf.keep d2
      exact wpOp_runT rfl (wanted_plain rfl _) (.int .u16 (x.id : Nat)) w' (by unfold execOp; simp [go_sem, e33, c0]) (hK _ w' (Fr.refl _) rfl)
    · -- 6
      obtain ⟨v34, (e34 : a.tmps[34]? = _), (q34 : v34 = (.int .u16 (x.id : Nat)))⟩ := hw 5 (by omega) (by kernel_rfl); rw [q34] at e34; clear q34
      exact wpOp_enterT rfl (wanted_plain rfl _) 30 #[.int .u16 (x.id : Nat)] (run_call Tryz.func30 (by kernel_rfl) rfl _ _ rfl _ (by simp [Act.eval, e34])) ((HT16.out x.id hid w' hf).mono fun e w2 ⟨he, hw2⟩ => ⟨_, he, hK _ w2 hw2 rfl⟩)
    · -- 7
      obtain ⟨v32, (e32 : a.tmps[32]? = _), (q32 : v32 = (.string ⟨(Lib.decDigits x.client).toArray⟩))⟩ := hw 3 (by omega) (by kernel_rfl); rw [q32] at e32; clear q32
      obtain ⟨v35, (e35 : a.tmps[35]? = _), (q35 : v35 = (.string ⟨(Lib.decDigits x.id).toArray⟩))⟩ := hw 6 (by omega) (by kernel_rfl); rw [q35] at e35; clear q35
      exact wpOp_runT rfl (wanted_plain rfl _) (.slice (some ⟨w'.heap.size, 0, none⟩) 2 2) (w'.alloc (.cells (strCells [Lib.decDigits x.client, Lib.decDigits x.id]).toArray 9)) (run_bs 59 9 2 _ rfl [.string ⟨(Lib.decDigits x.client).toArray⟩, .string ⟨(Lib.decDigits x.id).toArray⟩] (by simp [evalOf e32, evalOf e35]; try rfl) 1 (by omega) (fun v hv => by simp at hv; rcases hv with rfl | rfl <;> rfl) Tryz.underlying59 (by kernel_rfl) rfl (by omega) (by omega)) (hK _ _ ((Fr.refl _).alloc _) (RowS.lit hf [Lib.decDigits x.client, Lib.decDigits x.id] (by simp)))
  case hend =>
    intro f w2 hf2 hP
    have p29 : f 0 = (.slice (some ⟨w1.heap.size, 0, none⟩) 1 1) := hP 0 (by omega)
    have hlr : RowS (w1.alloc (.cells (strCells [kindW k]).toArray 9)) w2 (f 7) [Lib.decDigits x.client, Lib.decDigits x.id] := hP 7 (by omega)
    have hro := hlit.fr hf2
    have hl2 := hlr.rd
    clear hP hf2 hlr d0 d0' d1 d2 hlit gk HT8 HT16
    simp only [laidS, List.setIfInBounds_toArray, List.set_cons_succ, List.set_cons_zero, p29]
    generalize f 7 = v36 at hl2
    refine wpList_appendS rfl (.tmp 29) (.tmp 36) rfl _ [kindW k] [Lib.decDigits x.client, Lib.decDigits x.id] rfl hro _ rfl hl2 (by simp) ?_
    intro v3 w3 hro
    clear hl2
    have hB3 := HBX.out.fr hro.frm
    have d0 : w3.cell? ⟨w.heap.size, 0, none⟩ = some (.int .u8 k) := hB3.at 0 rfl
    have hz3 := hB3.lt
    obtain ⟨ra, rc, rfl, _⟩ := hro.form
    clear hB3
    obtain ⟨h9, h8⟩ := HL.out LW rfl
    have hrl := hro.rd
    have HF := Lib.hid (HF1.out.trans hro.frm)
    have HJ := Lib.hid (JoinC_c 32 _ LW _ (by rw [HW.out]; exact hrl) h9 h8)
    clear h9 h8 hro hrl
    go_wp2_with fail
    refine HJ.out.mono ?_
    rintro e w5 ⟨rfl, hb5⟩
    go_wp2_with fail
    go_ret2
    exact ⟨rfl, HF.out.trans hb5⟩
set_option maxRecDepth 100000 in
set_option maxHeartbeats 4000000 in
theorem line_op (k : Nat) (x : Ev) (t r : Value) (w : World) (hE : EnvT w) (ht : RdM w t x.txn) (hr : RdR w r x.reads) (ok : x.Ok) (hm : x.may = true) (hk : x.kind = k) (hkk : k = 2) :
    Calls Tryz.prog 11 #[x.val t r] w fun e w' => e = .returned (.tuple #[.string ⟨x.line.toArray⟩, .int .i64 0]) ∧ Fr w w' := by
  have hx : EvAt w (x.val t r) x := ⟨t, r, rfl, ht, hr⟩
  have hch := fun W (f : Fr w W) => EvCheck_c x (x.val t r) W (hE.toEnv.keep f) (hx.keep f) ok
  have hc : x.check = 0 := by unfold Ev.check; rw [hm]; rfl
  rw [hc] at hch
  have hkm := (may_kind hm).1
  have hcl16 := (may_kind hm).2.1
  have hll := line_short ok hm
  have hwl := (wordsT_short ok hm).1
  have hid := ok.id
  have hcl : x.client < 256 := by omega
  have HW : Hid (x.words = [kindW k] ++ [Lib.decDigits x.client, Lib.decDigits x.id] ++ wordsOf x.op) := Lib.hid (by unfold Ev.words Ev.tailW; rw [if_neg (by omega), if_pos (by omega), hk]; try rfl)
  have HM : Hid (x.op.may = true) := Lib.hid (by unfold Ev.kindMay at hkm; rwa [if_neg (by omega), if_pos (by omega)] at hkm)
  unfold Ev.line
  unfold Ev.line at hll
  have HL : Hid (∀ l, l = x.words → (Lib.join l [32]).length < 1000000 ∧ l.length < 1000000) := Lib.hid (fun l h => by subst h; omega)
  have HLW := Lib.hid (rfl : x.words = x.words)
  generalize x.words = LW at HW HL hll hwl ⊢
  clear hll hwl HLW hkm hm hc hx hcl16
  have e1 : ((k : Int) == 1) = false := by simp; omega
  have e2 : ((k : Int) == 2) = true := by simp; omega
  have e3 : ((k : Int) == 3) = false := by simp; omega
  have e5 : ((k : Int) == 5) = false := by simp; omega
  have e6 : ((k : Int) == 6) = false := by simp; omega
  have hk8 : k < 8 := by omega
  have hf0 := (Fr.refl w).alloc (.cells (x.cells t r) 32)
  have hB0 := BoxAt.new w (x.cells t r) 32
  have HE := Lib.hid hE
  unfold Ev.cells at hB0 hf0
  unfold Ev.val at hch ⊢
  rw [hk] at hch hB0 hf0 ⊢
  have HC := Lib.hid (hch _ hf0)
  clear hch hE hkk hk
  have OK := Lib.hid ok
  clear ok
  go_enter Tryz.func11, Tryz.ntmps11
  go_wp2_with ((with_reducible refine wpList_here (.load 32 (.tmp 1)) rfl ?_); refine wpList_load_box 32 (.tmp 1) rfl _ rfl _ hB0 _ Tryz.underlying32 rfl Tryz.infoEv rfl ?_)
  refine HC.out.mono ?_
  rintro e w1 ⟨rfl, hb⟩
  have hB1 := hB0.fr hb
  have hf1 := hf0.trans hb
  have d0 : w1.cell? ⟨w.heap.size, 0, none⟩ = some (.int .u8 k) := hB1.at 0 rfl
  have hlit := RowS.lit (Fr.refl w1) [kindW k] (by simp)
  have d0' := hlit.frm.keep d0
  have HBX := Lib.hid hB1
  have HF1 := Lib.hid hf1
  have gk := hf1.keep (HE.out.kindsT k hk8)
  have hz1 := hB1.lt
  clear hB0 hB1 hb hf0 hf1 HC
  have hB := HBX.out.alloc (.cells (strCells [kindW k]).toArray 9)
  have d1 : (w1.alloc (.cells (strCells [kindW k]).toArray 9)).cell? ⟨w.heap.size, 1, none⟩ = some (.int .u8 x.client) := hB.at 1 rfl
  have d2 : (w1.alloc (.cells (strCells [kindW k]).toArray 9)).cell? ⟨w.heap.size, 2, none⟩ = some (.int .u16 x.id) := hB.at 2 rfl
  have HT8 := Lib.hid (fun (n : Nat) (hn : n < 256) W (f : Fr (w1.alloc (.cells (strCells [kindW k]).toArray 9)) W) => num8_c n W (HE.out.toEnv0.keep ((HF1.out.trans hlit.frm).trans f)) hn)
  have HT16 := Lib.hid (fun (n : Nat) (hn : n < 65536) W (f : Fr (w1.alloc (.cells (strCells [kindW k]).toArray 9)) W) => num16_c n W (HE.out.toEnv0.keep ((HF1.out.trans hlit.frm).trans f)) hn)
  clear hB
  go_wp2_with fail
  refine wp_region_preds_tail (m := 8) (g := 2) (d := fun j => 29 + j) (Pr := linePr (w1.alloc (.cells (strCells [kindW k]).toArray 9)) (.slice (some ⟨w1.heap.size, 0, none⟩) 1 1) w.heap.size x.client x.id) (by kernel_rfl) rfl (by omega) (by kernel_rfl) (by kernel_rfl) (by kernel_rfl) (by kernel_rfl) (fun i j hi hj hne h => by have h : 29 + i = 29 + j := h; omega) (fun j hj => by show 29 + j < _; simp; omega) (fun j hj w w' v f h => linePr_fr _ _ _ _ _ j w w' v f h) ?hop ?hend
  case hop =>
    intro j hj K a w' hf hw ho hK
    rcases (show j = 0 ∨ j = 1 ∨ j = 2 ∨ j = 3 ∨ j = 4 ∨ j = 5 ∨ j = 6 ∨ j = 7 by omega) with rfl | rfl | rfl | rfl | rfl | rfl | rfl | rfl
    · -- 0
      have e5 : a.tmps[5]? = some (.slice (some ⟨w1.heap.size, 0, none⟩) 1 1) := (ho 5 (fun j hj => by show 5 ≠ 29 + j; omega)).trans rfl
      exact wpOp_runT rfl (wanted_plain rfl _) (.slice (some ⟨w1.heap.size, 0, none⟩) 1 1) w' (by unfold execOp; simp [go_sem, e5]) (hK _ w' (Fr.refl _) rfl)
    · -- 1
      have e1 : a.tmps[1]? = some (.pointer (some ⟨w.heap.size, 0, none⟩)) := (ho 1 (fun j hj => by show 1 ≠ 29 + j; omega)).trans rfl
      exact wpOp_runT rfl (wanted_plain rfl _) (.pointer (some ⟨w.heap.size, 1, none⟩)) w' (by unfold execOp; simp [go_sem, e1]) (hK _ w' (Fr.refl _) rfl)
    · -- 2
      obtain ⟨v30, (e30 : a.tmps[30]? = _), (q30 : v30 = (.pointer (some ⟨w.heap.size, 1, none⟩)))⟩ := hw 1 (by omega) (by kernel_rfl); rw [q30] at e30; clear q30
      have c0 := hf.keep d1
      exact wpOp_runT rfl (wanted_plain rfl _) (.int .u8 (x.client : Nat)) w' (by unfold execOp; simp [go_sem, e30, c0]) (hK _ w' (Fr.refl _) rfl)
    · -- 3
      obtain ⟨v31, (e31 : a.tmps[31]? = _), (q31 : v31 = (.int .u8 (x.client : Nat)))⟩ := hw 2 (by omega) (by kernel_rfl); rw [q31] at e31; clear q31
      exact wpOp_enterT rfl (wanted_plain rfl _) 29 #[.int .u8 (x.client : Nat)] (run_call Tryz.func29 (by kernel_rfl) rfl _ _ rfl _ (by simp [Act.eval, e31])) ((HT8.out x.client hcl w' hf).mono fun e w2 ⟨he, hw2⟩ => ⟨_, he, hK _ w2 hw2 rfl⟩)
    · -- 4
      have e1 : a.tmps[1]? = some (.pointer (some ⟨w.heap.size, 0, none⟩)) := (ho 1 (fun j hj => by show 1 ≠ 29 + j; omega)).trans rfl
      exact wpOp_runT rfl (wanted_plain rfl _) (.pointer (some ⟨w.heap.size, 2, none⟩)) w' (by unfold execOp; simp [go_sem, e1]) (hK _ w' (Fr.refl _) rfl)
    · -- 5
      obtain ⟨v33, (e33 : a.tmps[33]? = _), (q33 : v33 = (.pointer (some ⟨w.heap.size, 2, none⟩)))⟩ := hw 4 (by omega) (by kernel_rfl); rw [q33] at e33; clear q33
      have c0 := hf.keep d2
      exact wpOp_runT rfl (wanted_plain rfl _) (.int .u16 (x.id : Nat)) w' (by unfold execOp; simp [go_sem, e33, c0]) (hK _ w' (Fr.refl _) rfl)
    · -- 6
      obtain ⟨v34, (e34 : a.tmps[34]? = _), (q34 : v34 = (.int .u16 (x.id : Nat)))⟩ := hw 5 (by omega) (by kernel_rfl); rw [q34] at e34; clear q34
      exact wpOp_enterT rfl (wanted_plain rfl _) 30 #[.int .u16 (x.id : Nat)] (run_call Tryz.func30 (by kernel_rfl) rfl _ _ rfl _ (by simp [Act.eval, e34])) ((HT16.out x.id hid w' hf).mono fun e w2 ⟨he, hw2⟩ => ⟨_, he, hK _ w2 hw2 rfl⟩)
    · -- 7
      obtain ⟨v32, (e32 : a.tmps[32]? = _), (q32 : v32 = (.string ⟨(Lib.decDigits x.client).toArray⟩))⟩ := hw 3 (by omega) (by kernel_rfl); rw [q32] at e32; clear q32
      obtain ⟨v35, (e35 : a.tmps[35]? = _), (q35 : v35 = (.string ⟨(Lib.decDigits x.id).toArray⟩))⟩ := hw 6 (by omega) (by kernel_rfl); rw [q35] at e35; clear q35
      exact wpOp_runT rfl (wanted_plain rfl _) (.slice (some ⟨w'.heap.size, 0, none⟩) 2 2) (w'.alloc (.cells (strCells [Lib.decDigits x.client, Lib.decDigits x.id]).toArray 9)) (run_bs 59 9 2 _ rfl [.string ⟨(Lib.decDigits x.client).toArray⟩, .string ⟨(Lib.decDigits x.id).toArray⟩] (by simp [evalOf e32, evalOf e35]; try rfl) 1 (by omega) (fun v hv => by simp at hv; rcases hv with rfl | rfl <;> rfl) Tryz.underlying59 (by kernel_rfl) rfl (by omega) (by omega)) (hK _ _ ((Fr.refl _).alloc _) (RowS.lit hf [Lib.decDigits x.client, Lib.decDigits x.id] (by simp)))
  case hend =>
    intro f w2 hf2 hP
    have p29 : f 0 = (.slice (some ⟨w1.heap.size, 0, none⟩) 1 1) := hP 0 (by omega)
    have hlr : RowS (w1.alloc (.cells (strCells [kindW k]).toArray 9)) w2 (f 7) [Lib.decDigits x.client, Lib.decDigits x.id] := hP 7 (by omega)
    have hro := hlit.fr hf2
    have hl2 := hlr.rd
    clear hP hf2 hlr d0 d0' d1 d2 hlit gk HT8 HT16
    simp only [laidS, List.setIfInBounds_toArray, List.set_cons_succ, List.set_cons_zero, p29]
    generalize f 7 = v36 at hl2
    refine wpList_appendS rfl (.tmp 29) (.tmp 36) rfl _ [kindW k] [Lib.decDigits x.client, Lib.decDigits x.id] rfl hro _ rfl hl2 (by simp) ?_
    intro v3 w3 hro
    clear hl2
    have hB3 := HBX.out.fr hro.frm
    have d0 : w3.cell? ⟨w.heap.size, 0, none⟩ = some (.int .u8 k) := hB3.at 0 rfl
    have hz3 := hB3.lt
    obtain ⟨ra, rc, rfl, _⟩ := hro.form
    have d3 : w3.cell? ⟨w.heap.size, 3, none⟩ = some (.int .u8 x.op.F) := hB3.at 3 rfl
    have d4 : w3.cell? ⟨w.heap.size, 4, none⟩ = some (.int .u8 x.op.O) := hB3.at 4 rfl
    have d5 : w3.cell? ⟨w.heap.size, 5, none⟩ = some (.int .u8 x.op.K) := hB3.at 5 rfl
    have d6 : w3.cell? ⟨w.heap.size, 6, none⟩ = some (.int .u16 x.op.A) := hB3.at 6 rfl
    have d7 : w3.cell? ⟨w.heap.size, 7, none⟩ = some (.int .u16 x.op.B) := hB3.at 7 rfl
    clear hB3
    have hwd := Words_c x.op w3 (HE.out.toEnv.keep (HF1.out.trans hro.frm)) ⟨OK.out.F, OK.out.O, OK.out.K, OK.out.A, OK.out.B⟩
    unfold OpD.words OpD.val at hwd
    rw [if_pos HM.out] at hwd
    have HWD := Lib.hid hwd
    clear hwd
    go_wp2_with fail
    refine HWD.out.mono ?_
    rintro e w4 ⟨v4, rfl, hrd4, hb4⟩
    have hwl := (wordsOf_short (x := x.op) ⟨OK.out.F, OK.out.O, OK.out.K, OK.out.A, OK.out.B⟩).1
    go_wp2_with (at_builtin; refine wpList_appendS rfl (.tmp 42) (.tmp 45) rfl _ _ (wordsOf x.op) rfl (hro.fr hb4) _ rfl hrd4 (by simp; omega) ?_)
    clear hro hrd4
    intro v5 w5 hro
    obtain ⟨ra5, rc5, rfl, _⟩ := hro.form
    obtain ⟨h9, h8⟩ := HL.out LW rfl
    have hrl := hro.rd
    have HF := Lib.hid (HF1.out.trans hro.frm)
    have HJ := Lib.hid (JoinC_c 32 _ LW _ (by rw [HW.out]; exact hrl) h9 h8)
    clear h9 h8 hro hrl
    go_wp2_with fail
    refine HJ.out.mono ?_
    rintro e w5 ⟨rfl, hb5⟩
    go_wp2_with fail
    go_ret2
    exact ⟨rfl, HF.out.trans hb5⟩
set_option maxRecDepth 100000 in
set_option maxHeartbeats 4000000 in
theorem line_res (k : Nat) (x : Ev) (t r : Value) (w : World) (hE : EnvT w) (ht : RdM w t x.txn) (hr : RdR w r x.reads) (ok : x.Ok) (hm : x.may = true) (hk : x.kind = k) (hkk : k = 3) :
    Calls Tryz.prog 11 #[x.val t r] w fun e w' => e = .returned (.tuple #[.string ⟨x.line.toArray⟩, .int .i64 0]) ∧ Fr w w' := by
  have hx : EvAt w (x.val t r) x := ⟨t, r, rfl, ht, hr⟩
  have hch := fun W (f : Fr w W) => EvCheck_c x (x.val t r) W (hE.toEnv.keep f) (hx.keep f) ok
  have hc : x.check = 0 := by unfold Ev.check; rw [hm]; rfl
  rw [hc] at hch
  have hkm := (may_kind hm).1
  have hcl16 := (may_kind hm).2.1
  have hll := line_short ok hm
  have hwl := (wordsT_short ok hm).1
  have hid := ok.id
  have hcl : x.client < 256 := by omega
  have HW : Hid (x.words = [kindW k] ++ [Lib.decDigits x.client, Lib.decDigits x.id] ++ [resText x.rk x.rv]) := Lib.hid (by unfold Ev.words Ev.tailW; rw [if_neg (by omega), if_neg (by omega), if_pos (by omega), hk]; try rfl)
  have HM : Hid (goodB x.rk x.rv = true) := Lib.hid (by unfold Ev.kindMay at hkm; rwa [if_neg (by omega), if_neg (by omega), if_pos (by omega)] at hkm)
  unfold Ev.line
  unfold Ev.line at hll
  have HL : Hid (∀ l, l = x.words → (Lib.join l [32]).length < 1000000 ∧ l.length < 1000000) := Lib.hid (fun l h => by subst h; omega)
  have HLW := Lib.hid (rfl : x.words = x.words)
  generalize x.words = LW at HW HL hll hwl ⊢
  clear hll hwl HLW hkm hm hc hx hcl16
  have e1 : ((k : Int) == 1) = false := by simp; omega
  have e2 : ((k : Int) == 2) = false := by simp; omega
  have e3 : ((k : Int) == 3) = true := by simp; omega
  have e5 : ((k : Int) == 5) = false := by simp; omega
  have e6 : ((k : Int) == 6) = false := by simp; omega
  have hk8 : k < 8 := by omega
  have hf0 := (Fr.refl w).alloc (.cells (x.cells t r) 32)
  have hB0 := BoxAt.new w (x.cells t r) 32
  have HE := Lib.hid hE
  unfold Ev.cells at hB0 hf0
  unfold Ev.val at hch ⊢
  rw [hk] at hch hB0 hf0 ⊢
  have HC := Lib.hid (hch _ hf0)
  clear hch hE hkk hk
  have OK := Lib.hid ok
  clear ok
  go_enter Tryz.func11, Tryz.ntmps11
  go_wp2_with ((with_reducible refine wpList_here (.load 32 (.tmp 1)) rfl ?_); refine wpList_load_box 32 (.tmp 1) rfl _ rfl _ hB0 _ Tryz.underlying32 rfl Tryz.infoEv rfl ?_)
  refine HC.out.mono ?_
  rintro e w1 ⟨rfl, hb⟩
  have hB1 := hB0.fr hb
  have hf1 := hf0.trans hb
  have d0 : w1.cell? ⟨w.heap.size, 0, none⟩ = some (.int .u8 k) := hB1.at 0 rfl
  have hlit := RowS.lit (Fr.refl w1) [kindW k] (by simp)
  have d0' := hlit.frm.keep d0
  have HBX := Lib.hid hB1
  have HF1 := Lib.hid hf1
  have gk := hf1.keep (HE.out.kindsT k hk8)
  have hz1 := hB1.lt
  clear hB0 hB1 hb hf0 hf1 HC
  have hB := HBX.out.alloc (.cells (strCells [kindW k]).toArray 9)
  have d1 : (w1.alloc (.cells (strCells [kindW k]).toArray 9)).cell? ⟨w.heap.size, 1, none⟩ = some (.int .u8 x.client) := hB.at 1 rfl
  have d2 : (w1.alloc (.cells (strCells [kindW k]).toArray 9)).cell? ⟨w.heap.size, 2, none⟩ = some (.int .u16 x.id) := hB.at 2 rfl
  have HT8 := Lib.hid (fun (n : Nat) (hn : n < 256) W (f : Fr (w1.alloc (.cells (strCells [kindW k]).toArray 9)) W) => num8_c n W (HE.out.toEnv0.keep ((HF1.out.trans hlit.frm).trans f)) hn)
  have HT16 := Lib.hid (fun (n : Nat) (hn : n < 65536) W (f : Fr (w1.alloc (.cells (strCells [kindW k]).toArray 9)) W) => num16_c n W (HE.out.toEnv0.keep ((HF1.out.trans hlit.frm).trans f)) hn)
  clear hB
  go_wp2_with fail
  refine wp_region_preds_tail (m := 8) (g := 2) (d := fun j => 29 + j) (Pr := linePr (w1.alloc (.cells (strCells [kindW k]).toArray 9)) (.slice (some ⟨w1.heap.size, 0, none⟩) 1 1) w.heap.size x.client x.id) (by kernel_rfl) rfl (by omega) (by kernel_rfl) (by kernel_rfl) (by kernel_rfl) (by kernel_rfl) (fun i j hi hj hne h => by have h : 29 + i = 29 + j := h; omega) (fun j hj => by show 29 + j < _; simp; omega) (fun j hj w w' v f h => linePr_fr _ _ _ _ _ j w w' v f h) ?hop ?hend
  case hop =>
    intro j hj K a w' hf hw ho hK
    rcases (show j = 0 ∨ j = 1 ∨ j = 2 ∨ j = 3 ∨ j = 4 ∨ j = 5 ∨ j = 6 ∨ j = 7 by omega) with rfl | rfl | rfl | rfl | rfl | rfl | rfl | rfl
    · -- 0
      have e5 : a.tmps[5]? = some (.slice (some ⟨w1.heap.size, 0, none⟩) 1 1) := (ho 5 (fun j hj => by show 5 ≠ 29 + j; omega)).trans rfl
      exact wpOp_runT rfl (wanted_plain rfl _) (.slice (some ⟨w1.heap.size, 0, none⟩) 1 1) w' (by unfold execOp; simp [go_sem, e5]) (hK _ w' (Fr.refl _) rfl)
    · -- 1
      have e1 : a.tmps[1]? = some (.pointer (some ⟨w.heap.size, 0, none⟩)) := (ho 1 (fun j hj => by show 1 ≠ 29 + j; omega)).trans rfl
      exact wpOp_runT rfl (wanted_plain rfl _) (.pointer (some ⟨w.heap.size, 1, none⟩)) w' (by unfold execOp; simp [go_sem, e1]) (hK _ w' (Fr.refl _) rfl)
    · -- 2
      obtain ⟨v30, (e30 : a.tmps[30]? = _), (q30 : v30 = (.pointer (some ⟨w.heap.size, 1, none⟩)))⟩ := hw 1 (by omega) (by kernel_rfl); rw [q30] at e30; clear q30
      have c0 := hf.keep d1
      exact wpOp_runT rfl (wanted_plain rfl _) (.int .u8 (x.client : Nat)) w' (by unfold execOp; simp [go_sem, e30, c0]) (hK _ w' (Fr.refl _) rfl)
    · -- 3
      obtain ⟨v31, (e31 : a.tmps[31]? = _), (q31 : v31 = (.int .u8 (x.client : Nat)))⟩ := hw 2 (by omega) (by kernel_rfl); rw [q31] at e31; clear q31
      exact wpOp_enterT rfl (wanted_plain rfl _) 29 #[.int .u8 (x.client : Nat)] (run_call Tryz.func29 (by kernel_rfl) rfl _ _ rfl _ (by simp [Act.eval, e31])) ((HT8.out x.client hcl w' hf).mono fun e w2 ⟨he, hw2⟩ => ⟨_, he, hK _ w2 hw2 rfl⟩)
    · -- 4
      have e1 : a.tmps[1]? = some (.pointer (some ⟨w.heap.size, 0, none⟩)) := (ho 1 (fun j hj => by show 1 ≠ 29 + j; omega)).trans rfl
      exact wpOp_runT rfl (wanted_plain rfl _) (.pointer (some ⟨w.heap.size, 2, none⟩)) w' (by unfold execOp; simp [go_sem, e1]) (hK _ w' (Fr.refl _) rfl)
    · -- 5
      obtain ⟨v33, (e33 : a.tmps[33]? = _), (q33 : v33 = (.pointer (some ⟨w.heap.size, 2, none⟩)))⟩ := hw 4 (by omega) (by kernel_rfl); rw [q33] at e33; clear q33
      have c0 := hf.keep d2
      exact wpOp_runT rfl (wanted_plain rfl _) (.int .u16 (x.id : Nat)) w' (by unfold execOp; simp [go_sem, e33, c0]) (hK _ w' (Fr.refl _) rfl)
    · -- 6
      obtain ⟨v34, (e34 : a.tmps[34]? = _), (q34 : v34 = (.int .u16 (x.id : Nat)))⟩ := hw 5 (by omega) (by kernel_rfl); rw [q34] at e34; clear q34
      exact wpOp_enterT rfl (wanted_plain rfl _) 30 #[.int .u16 (x.id : Nat)] (run_call Tryz.func30 (by kernel_rfl) rfl _ _ rfl _ (by simp [Act.eval, e34])) ((HT16.out x.id hid w' hf).mono fun e w2 ⟨he, hw2⟩ => ⟨_, he, hK _ w2 hw2 rfl⟩)
    · -- 7
      obtain ⟨v32, (e32 : a.tmps[32]? = _), (q32 : v32 = (.string ⟨(Lib.decDigits x.client).toArray⟩))⟩ := hw 3 (by omega) (by kernel_rfl); rw [q32] at e32; clear q32
      obtain ⟨v35, (e35 : a.tmps[35]? = _), (q35 : v35 = (.string ⟨(Lib.decDigits x.id).toArray⟩))⟩ := hw 6 (by omega) (by kernel_rfl); rw [q35] at e35; clear q35
      exact wpOp_runT rfl (wanted_plain rfl _) (.slice (some ⟨w'.heap.size, 0, none⟩) 2 2) (w'.alloc (.cells (strCells [Lib.decDigits x.client, Lib.decDigits x.id]).toArray 9)) (run_bs 59 9 2 _ rfl [.string ⟨(Lib.decDigits x.client).toArray⟩, .string ⟨(Lib.decDigits x.id).toArray⟩] (by simp [evalOf e32, evalOf e35]; try rfl) 1 (by omega) (fun v hv => by simp at hv; rcases hv with rfl | rfl <;> rfl) Tryz.underlying59 (by kernel_rfl) rfl (by omega) (by omega)) (hK _ _ ((Fr.refl _).alloc _) (RowS.lit hf [Lib.decDigits x.client, Lib.decDigits x.id] (by simp)))
  case hend =>
    intro f w2 hf2 hP
    have p29 : f 0 = (.slice (some ⟨w1.heap.size, 0, none⟩) 1 1) := hP 0 (by omega)
    have hlr : RowS (w1.alloc (.cells (strCells [kindW k]).toArray 9)) w2 (f 7) [Lib.decDigits x.client, Lib.decDigits x.id] := hP 7 (by omega)
    have hro := hlit.fr hf2
    have hl2 := hlr.rd
    clear hP hf2 hlr d0 d0' d1 d2 hlit gk HT8 HT16
    simp only [laidS, List.setIfInBounds_toArray, List.set_cons_succ, List.set_cons_zero, p29]
    generalize f 7 = v36 at hl2
    refine wpList_appendS rfl (.tmp 29) (.tmp 36) rfl _ [kindW k] [Lib.decDigits x.client, Lib.decDigits x.id] rfl hro _ rfl hl2 (by simp) ?_
    intro v3 w3 hro
    clear hl2
    have hB3 := HBX.out.fr hro.frm
    have d0 : w3.cell? ⟨w.heap.size, 0, none⟩ = some (.int .u8 k) := hB3.at 0 rfl
    have hz3 := hB3.lt
    obtain ⟨ra, rc, rfl, _⟩ := hro.form
    have d8 : w3.cell? ⟨w.heap.size, 8, none⟩ = some (.int .u8 x.rk) := hB3.at 8 rfl
    have d9 : w3.cell? ⟨w.heap.size, 9, none⟩ = some (.int .u16 x.rv) := hB3.at 9 rfl
    clear hB3
    have hwd := resText_c x.rk x.rv w3 (HE.out.r.keep (HF1.out.trans hro.frm)) OK.out.rv
    unfold StrRet textRes at hwd
    rw [if_pos HM.out] at hwd
    have HWD := Lib.hid hwd
    clear hwd
    go_wp2_with fail
    refine HWD.out.mono ?_
    rintro e w4 ⟨rfl, hb4⟩
    have hro4 := hro.fr hb4
    have hl4 := (RowS.lit hro4.frm [resText x.rk x.rv] (by simp)).rd
    go_wp2_with (at_builtin; refine wpList_appendS rfl (.tmp 55) (.tmp 57) rfl _ _ [resText x.rk x.rv] rfl (hro4.fr ((Fr.refl _).alloc _)) _ rfl hl4 (by simp) ?_)
    clear hro hro4 hl4
    intro v5 w5 hro
    obtain ⟨ra5, rc5, rfl, _⟩ := hro.form
    obtain ⟨h9, h8⟩ := HL.out LW rfl
    have hrl := hro.rd
    have HF := Lib.hid (HF1.out.trans hro.frm)
    have HJ := Lib.hid (JoinC_c 32 _ LW _ (by rw [HW.out]; exact hrl) h9 h8)
    clear h9 h8 hro hrl
    go_wp2_with fail
    refine HJ.out.mono ?_
    rintro e w5 ⟨rfl, hb5⟩
    go_wp2_with fail
    go_ret2
    exact ⟨rfl, HF.out.trans hb5⟩
set_option maxRecDepth 100000 in
set_option maxHeartbeats 4000000 in
theorem line_txn (k : Nat) (x : Ev) (t r : Value) (w : World) (hE : EnvT w) (ht : RdM w t x.txn) (hr : RdR w r x.reads) (ok : x.Ok) (hm : x.may = true) (hk : x.kind = k) (hkk : k = 5) :
    Calls Tryz.prog 11 #[x.val t r] w fun e w' => e = .returned (.tuple #[.string ⟨x.line.toArray⟩, .int .i64 0]) ∧ Fr w w' := by
  have hx : EvAt w (x.val t r) x := ⟨t, r, rfl, ht, hr⟩
  have hch := fun W (f : Fr w W) => EvCheck_c x (x.val t r) W (hE.toEnv.keep f) (hx.keep f) ok
  have hc : x.check = 0 := by unfold Ev.check; rw [hm]; rfl
  rw [hc] at hch
  have hkm := (may_kind hm).1
  have hcl16 := (may_kind hm).2.1
  have hll := line_short ok hm
  have hwl := (wordsT_short ok hm).1
  have hid := ok.id
  have hcl : x.client < 256 := by omega
  have HW : Hid (x.words = [kindW k] ++ [Lib.decDigits x.client, Lib.decDigits x.id] ++ micsWords x.txn) := Lib.hid (by unfold Ev.words Ev.tailW; rw [if_neg (by omega), if_neg (by omega), if_neg (by omega), if_pos (by omega), hk]; try rfl)
  have HM : Hid (txnMay x.txn = true) := Lib.hid (by unfold Ev.kindMay at hkm; rwa [if_neg (by omega), if_neg (by omega), if_neg (by omega), if_pos (by omega)] at hkm)
  unfold Ev.line
  unfold Ev.line at hll
  have HL : Hid (∀ l, l = x.words → (Lib.join l [32]).length < 1000000 ∧ l.length < 1000000) := Lib.hid (fun l h => by subst h; omega)
  have HLW := Lib.hid (rfl : x.words = x.words)
  generalize x.words = LW at HW HL hll hwl ⊢
  clear hll hwl HLW hkm hm hc hx hcl16
  have e1 : ((k : Int) == 1) = false := by simp; omega
  have e2 : ((k : Int) == 2) = false := by simp; omega
  have e3 : ((k : Int) == 3) = false := by simp; omega
  have e5 : ((k : Int) == 5) = true := by simp; omega
  have e6 : ((k : Int) == 6) = false := by simp; omega
  have hk8 : k < 8 := by omega
  have hf0 := (Fr.refl w).alloc (.cells (x.cells t r) 32)
  have hB0 := BoxAt.new w (x.cells t r) 32
  have HE := Lib.hid hE
  unfold Ev.cells at hB0 hf0
  unfold Ev.val at hch ⊢
  rw [hk] at hch hB0 hf0 ⊢
  have HC := Lib.hid (hch _ hf0)
  clear hch hE hkk hk
  have OK := Lib.hid ok
  clear ok
  go_enter Tryz.func11, Tryz.ntmps11
  go_wp2_with ((with_reducible refine wpList_here (.load 32 (.tmp 1)) rfl ?_); refine wpList_load_box 32 (.tmp 1) rfl _ rfl _ hB0 _ Tryz.underlying32 rfl Tryz.infoEv rfl ?_)
  refine HC.out.mono ?_
  rintro e w1 ⟨rfl, hb⟩
  have hB1 := hB0.fr hb
  have hf1 := hf0.trans hb
  have d0 : w1.cell? ⟨w.heap.size, 0, none⟩ = some (.int .u8 k) := hB1.at 0 rfl
  have hlit := RowS.lit (Fr.refl w1) [kindW k] (by simp)
  have d0' := hlit.frm.keep d0
  have HBX := Lib.hid hB1
  have HF1 := Lib.hid hf1
  have gk := hf1.keep (HE.out.kindsT k hk8)
  have hz1 := hB1.lt
  clear hB0 hB1 hb hf0 hf1 HC
  have hB := HBX.out.alloc (.cells (strCells [kindW k]).toArray 9)
  have d1 : (w1.alloc (.cells (strCells [kindW k]).toArray 9)).cell? ⟨w.heap.size, 1, none⟩ = some (.int .u8 x.client) := hB.at 1 rfl
  have d2 : (w1.alloc (.cells (strCells [kindW k]).toArray 9)).cell? ⟨w.heap.size, 2, none⟩ = some (.int .u16 x.id) := hB.at 2 rfl
  have HT8 := Lib.hid (fun (n : Nat) (hn : n < 256) W (f : Fr (w1.alloc (.cells (strCells [kindW k]).toArray 9)) W) => num8_c n W (HE.out.toEnv0.keep ((HF1.out.trans hlit.frm).trans f)) hn)
  have HT16 := Lib.hid (fun (n : Nat) (hn : n < 65536) W (f : Fr (w1.alloc (.cells (strCells [kindW k]).toArray 9)) W) => num16_c n W (HE.out.toEnv0.keep ((HF1.out.trans hlit.frm).trans f)) hn)
  clear hB
  go_wp2_with fail
  refine wp_region_preds_tail (m := 8) (g := 2) (d := fun j => 29 + j) (Pr := linePr (w1.alloc (.cells (strCells [kindW k]).toArray 9)) (.slice (some ⟨w1.heap.size, 0, none⟩) 1 1) w.heap.size x.client x.id) (by kernel_rfl) rfl (by omega) (by kernel_rfl) (by kernel_rfl) (by kernel_rfl) (by kernel_rfl) (fun i j hi hj hne h => by have h : 29 + i = 29 + j := h; omega) (fun j hj => by show 29 + j < _; simp; omega) (fun j hj w w' v f h => linePr_fr _ _ _ _ _ j w w' v f h) ?hop ?hend
  case hop =>
    intro j hj K a w' hf hw ho hK
    rcases (show j = 0 ∨ j = 1 ∨ j = 2 ∨ j = 3 ∨ j = 4 ∨ j = 5 ∨ j = 6 ∨ j = 7 by omega) with rfl | rfl | rfl | rfl | rfl | rfl | rfl | rfl
    · -- 0
      have e5 : a.tmps[5]? = some (.slice (some ⟨w1.heap.size, 0, none⟩) 1 1) := (ho 5 (fun j hj => by show 5 ≠ 29 + j; omega)).trans rfl
      exact wpOp_runT rfl (wanted_plain rfl _) (.slice (some ⟨w1.heap.size, 0, none⟩) 1 1) w' (by unfold execOp; simp [go_sem, e5]) (hK _ w' (Fr.refl _) rfl)
    · -- 1
      have e1 : a.tmps[1]? = some (.pointer (some ⟨w.heap.size, 0, none⟩)) := (ho 1 (fun j hj => by show 1 ≠ 29 + j; omega)).trans rfl
      exact wpOp_runT rfl (wanted_plain rfl _) (.pointer (some ⟨w.heap.size, 1, none⟩)) w' (by unfold execOp; simp [go_sem, e1]) (hK _ w' (Fr.refl _) rfl)
    · -- 2
      obtain ⟨v30, (e30 : a.tmps[30]? = _), (q30 : v30 = (.pointer (some ⟨w.heap.size, 1, none⟩)))⟩ := hw 1 (by omega) (by kernel_rfl); rw [q30] at e30; clear q30
      have c0 := hf.keep d1
      exact wpOp_runT rfl (wanted_plain rfl _) (.int .u8 (x.client : Nat)) w' (by unfold execOp; simp [go_sem, e30, c0]) (hK _ w' (Fr.refl _) rfl)
    · -- 3
      obtain ⟨v31, (e31 : a.tmps[31]? = _), (q31 : v31 = (.int .u8 (x.client : Nat)))⟩ := hw 2 (by omega) (by kernel_rfl); rw [q31] at e31; clear q31
      exact wpOp_enterT rfl (wanted_plain rfl _) 29 #[.int .u8 (x.client : Nat)] (run_call Tryz.func29 (by kernel_rfl) rfl _ _ rfl _ (by simp [Act.eval, e31])) ((HT8.out x.client hcl w' hf).mono fun e w2 ⟨he, hw2⟩ => ⟨_, he, hK _ w2 hw2 rfl⟩)
    · -- 4
      have e1 : a.tmps[1]? = some (.pointer (some ⟨w.heap.size, 0, none⟩)) := (ho 1 (fun j hj => by show 1 ≠ 29 + j; omega)).trans rfl
      exact wpOp_runT rfl (wanted_plain rfl _) (.pointer (some ⟨w.heap.size, 2, none⟩)) w' (by unfold execOp; simp [go_sem, e1]) (hK _ w' (Fr.refl _) rfl)
    · -- 5
      obtain ⟨v33, (e33 : a.tmps[33]? = _), (q33 : v33 = (.pointer (some ⟨w.heap.size, 2, none⟩)))⟩ := hw 4 (by omega) (by kernel_rfl); rw [q33] at e33; clear q33
      have c0 := hf.keep d2
      exact wpOp_runT rfl (wanted_plain rfl _) (.int .u16 (x.id : Nat)) w' (by unfold execOp; simp [go_sem, e33, c0]) (hK _ w' (Fr.refl _) rfl)
    · -- 6
      obtain ⟨v34, (e34 : a.tmps[34]? = _), (q34 : v34 = (.int .u16 (x.id : Nat)))⟩ := hw 5 (by omega) (by kernel_rfl); rw [q34] at e34; clear q34
      exact wpOp_enterT rfl (wanted_plain rfl _) 30 #[.int .u16 (x.id : Nat)] (run_call Tryz.func30 (by kernel_rfl) rfl _ _ rfl _ (by simp [Act.eval, e34])) ((HT16.out x.id hid w' hf).mono fun e w2 ⟨he, hw2⟩ => ⟨_, he, hK _ w2 hw2 rfl⟩)
    · -- 7
      obtain ⟨v32, (e32 : a.tmps[32]? = _), (q32 : v32 = (.string ⟨(Lib.decDigits x.client).toArray⟩))⟩ := hw 3 (by omega) (by kernel_rfl); rw [q32] at e32; clear q32
      obtain ⟨v35, (e35 : a.tmps[35]? = _), (q35 : v35 = (.string ⟨(Lib.decDigits x.id).toArray⟩))⟩ := hw 6 (by omega) (by kernel_rfl); rw [q35] at e35; clear q35
      exact wpOp_runT rfl (wanted_plain rfl _) (.slice (some ⟨w'.heap.size, 0, none⟩) 2 2) (w'.alloc (.cells (strCells [Lib.decDigits x.client, Lib.decDigits x.id]).toArray 9)) (run_bs 59 9 2 _ rfl [.string ⟨(Lib.decDigits x.client).toArray⟩, .string ⟨(Lib.decDigits x.id).toArray⟩] (by simp [evalOf e32, evalOf e35]; try rfl) 1 (by omega) (fun v hv => by simp at hv; rcases hv with rfl | rfl <;> rfl) Tryz.underlying59 (by kernel_rfl) rfl (by omega) (by omega)) (hK _ _ ((Fr.refl _).alloc _) (RowS.lit hf [Lib.decDigits x.client, Lib.decDigits x.id] (by simp)))
  case hend =>
    intro f w2 hf2 hP
    have p29 : f 0 = (.slice (some ⟨w1.heap.size, 0, none⟩) 1 1) := hP 0 (by omega)
    have hlr : RowS (w1.alloc (.cells (strCells [kindW k]).toArray 9)) w2 (f 7) [Lib.decDigits x.client, Lib.decDigits x.id] := hP 7 (by omega)
    have hro := hlit.fr hf2
    have hl2 := hlr.rd
    clear hP hf2 hlr d0 d0' d1 d2 hlit gk HT8 HT16
    simp only [laidS, List.setIfInBounds_toArray, List.set_cons_succ, List.set_cons_zero, p29]
    generalize f 7 = v36 at hl2
    refine wpList_appendS rfl (.tmp 29) (.tmp 36) rfl _ [kindW k] [Lib.decDigits x.client, Lib.decDigits x.id] rfl hro _ rfl hl2 (by simp) ?_
    intro v3 w3 hro
    clear hl2
    have hB3 := HBX.out.fr hro.frm
    have d0 : w3.cell? ⟨w.heap.size, 0, none⟩ = some (.int .u8 k) := hB3.at 0 rfl
    have hz3 := hB3.lt
    obtain ⟨ra, rc, rfl, _⟩ := hro.form
    have d10 : w3.cell? ⟨w.heap.size, 10, none⟩ = some t := hB3.at 10 rfl
    clear hB3
    have htl : x.txn.length ≤ 8 := by have := HM.out; unfold txnMay at this; simp only [Bool.and_eq_true, decide_eq_true_eq] at this; omega
    have HWD := Lib.hid (micros_c t x.txn w3 (HE.out.toEnv0.keep (HF1.out.trans hro.frm)) (ht.keep (HF1.out.trans hro.frm)) (by omega) (fun m hm => OK.out.txn m hm))
    go_wp2_with fail
    refine HWD.out.mono ?_
    rintro e w4 ⟨v4, rfl, hrd4, hb4⟩
    have hwl := micsWords_len x.txn
    go_wp2_with (at_builtin; refine wpList_appendS rfl (.tmp 61) (.tmp 64) rfl _ _ (micsWords x.txn) rfl (hro.fr hb4) _ rfl hrd4 (by simp; omega) ?_)
    clear hro hrd4
    intro v5 w5 hro
    obtain ⟨ra5, rc5, rfl, _⟩ := hro.form
    obtain ⟨h9, h8⟩ := HL.out LW rfl
    have hrl := hro.rd
    have HF := Lib.hid (HF1.out.trans hro.frm)
    have HJ := Lib.hid (JoinC_c 32 _ LW _ (by rw [HW.out]; exact hrl) h9 h8)
    clear h9 h8 hro hrl
    go_wp2_with fail
    refine HJ.out.mono ?_
    rintro e w5 ⟨rfl, hb5⟩
    go_wp2_with fail
    go_ret2
    exact ⟨rfl, HF.out.trans hb5⟩
set_option maxRecDepth 100000 in
set_option maxHeartbeats 4000000 in
theorem line_reads (k : Nat) (x : Ev) (t r : Value) (w : World) (hE : EnvT w) (ht : RdM w t x.txn) (hr : RdR w r x.reads) (ok : x.Ok) (hm : x.may = true) (hk : x.kind = k) (hkk : k = 6) :
    Calls Tryz.prog 11 #[x.val t r] w fun e w' => e = .returned (.tuple #[.string ⟨x.line.toArray⟩, .int .i64 0]) ∧ Fr w w' := by
  have hx : EvAt w (x.val t r) x := ⟨t, r, rfl, ht, hr⟩
  have hch := fun W (f : Fr w W) => EvCheck_c x (x.val t r) W (hE.toEnv.keep f) (hx.keep f) ok
  have hc : x.check = 0 := by unfold Ev.check; rw [hm]; rfl
  rw [hc] at hch
  have hkm := (may_kind hm).1
  have hcl16 := (may_kind hm).2.1
  have hll := line_short ok hm
  have hwl := (wordsT_short ok hm).1
  have hid := ok.id
  have hcl : x.client < 256 := by omega
  have HW : Hid (x.words = [kindW k] ++ [Lib.decDigits x.client, Lib.decDigits x.id] ++ x.reads.map listWord) := Lib.hid (by unfold Ev.words Ev.tailW; rw [if_neg (by omega), if_neg (by omega), if_neg (by omega), if_neg (by omega), if_pos (by omega), hk]; try rfl)
  have HM : Hid (readsMay x.reads = true) := Lib.hid (by unfold Ev.kindMay at hkm; rwa [if_neg (by omega), if_neg (by omega), if_neg (by omega), if_neg (by omega), if_pos (by omega)] at hkm)
  unfold Ev.line
  unfold Ev.line at hll
  have HL : Hid (∀ l, l = x.words → (Lib.join l [32]).length < 1000000 ∧ l.length < 1000000) := Lib.hid (fun l h => by subst h; omega)
  have HLW := Lib.hid (rfl : x.words = x.words)
  generalize x.words = LW at HW HL hll hwl ⊢
  clear hll hwl HLW hkm hm hc hx hcl16
  have e1 : ((k : Int) == 1) = false := by simp; omega
  have e2 : ((k : Int) == 2) = false := by simp; omega
  have e3 : ((k : Int) == 3) = false := by simp; omega
  have e5 : ((k : Int) == 5) = false := by simp; omega
  have e6 : ((k : Int) == 6) = true := by simp; omega
  have hk8 : k < 8 := by omega
  have hf0 := (Fr.refl w).alloc (.cells (x.cells t r) 32)
  have hB0 := BoxAt.new w (x.cells t r) 32
  have HE := Lib.hid hE
  unfold Ev.cells at hB0 hf0
  unfold Ev.val at hch ⊢
  rw [hk] at hch hB0 hf0 ⊢
  have HC := Lib.hid (hch _ hf0)
  clear hch hE hkk hk
  have OK := Lib.hid ok
  clear ok
  go_enter Tryz.func11, Tryz.ntmps11
  go_wp2_with ((with_reducible refine wpList_here (.load 32 (.tmp 1)) rfl ?_); refine wpList_load_box 32 (.tmp 1) rfl _ rfl _ hB0 _ Tryz.underlying32 rfl Tryz.infoEv rfl ?_)
  refine HC.out.mono ?_
  rintro e w1 ⟨rfl, hb⟩
  have hB1 := hB0.fr hb
  have hf1 := hf0.trans hb
  have d0 : w1.cell? ⟨w.heap.size, 0, none⟩ = some (.int .u8 k) := hB1.at 0 rfl
  have hlit := RowS.lit (Fr.refl w1) [kindW k] (by simp)
  have d0' := hlit.frm.keep d0
  have HBX := Lib.hid hB1
  have HF1 := Lib.hid hf1
  have gk := hf1.keep (HE.out.kindsT k hk8)
  have hz1 := hB1.lt
  clear hB0 hB1 hb hf0 hf1 HC
  have hB := HBX.out.alloc (.cells (strCells [kindW k]).toArray 9)
  have d1 : (w1.alloc (.cells (strCells [kindW k]).toArray 9)).cell? ⟨w.heap.size, 1, none⟩ = some (.int .u8 x.client) := hB.at 1 rfl
  have d2 : (w1.alloc (.cells (strCells [kindW k]).toArray 9)).cell? ⟨w.heap.size, 2, none⟩ = some (.int .u16 x.id) := hB.at 2 rfl
  have HT8 := Lib.hid (fun (n : Nat) (hn : n < 256) W (f : Fr (w1.alloc (.cells (strCells [kindW k]).toArray 9)) W) => num8_c n W (HE.out.toEnv0.keep ((HF1.out.trans hlit.frm).trans f)) hn)
  have HT16 := Lib.hid (fun (n : Nat) (hn : n < 65536) W (f : Fr (w1.alloc (.cells (strCells [kindW k]).toArray 9)) W) => num16_c n W (HE.out.toEnv0.keep ((HF1.out.trans hlit.frm).trans f)) hn)
  clear hB
  go_wp2_with fail
  refine wp_region_preds_tail (m := 8) (g := 2) (d := fun j => 29 + j) (Pr := linePr (w1.alloc (.cells (strCells [kindW k]).toArray 9)) (.slice (some ⟨w1.heap.size, 0, none⟩) 1 1) w.heap.size x.client x.id) (by kernel_rfl) rfl (by omega) (by kernel_rfl) (by kernel_rfl) (by kernel_rfl) (by kernel_rfl) (fun i j hi hj hne h => by have h : 29 + i = 29 + j := h; omega) (fun j hj => by show 29 + j < _; simp; omega) (fun j hj w w' v f h => linePr_fr _ _ _ _ _ j w w' v f h) ?hop ?hend
  case hop =>
    intro j hj K a w' hf hw ho hK
    rcases (show j = 0 ∨ j = 1 ∨ j = 2 ∨ j = 3 ∨ j = 4 ∨ j = 5 ∨ j = 6 ∨ j = 7 by omega) with rfl | rfl | rfl | rfl | rfl | rfl | rfl | rfl
    · -- 0
      have e5 : a.tmps[5]? = some (.slice (some ⟨w1.heap.size, 0, none⟩) 1 1) := (ho 5 (fun j hj => by show 5 ≠ 29 + j; omega)).trans rfl
      exact wpOp_runT rfl (wanted_plain rfl _) (.slice (some ⟨w1.heap.size, 0, none⟩) 1 1) w' (by unfold execOp; simp [go_sem, e5]) (hK _ w' (Fr.refl _) rfl)
    · -- 1
      have e1 : a.tmps[1]? = some (.pointer (some ⟨w.heap.size, 0, none⟩)) := (ho 1 (fun j hj => by show 1 ≠ 29 + j; omega)).trans rfl
      exact wpOp_runT rfl (wanted_plain rfl _) (.pointer (some ⟨w.heap.size, 1, none⟩)) w' (by unfold execOp; simp [go_sem, e1]) (hK _ w' (Fr.refl _) rfl)
    · -- 2
      obtain ⟨v30, (e30 : a.tmps[30]? = _), (q30 : v30 = (.pointer (some ⟨w.heap.size, 1, none⟩)))⟩ := hw 1 (by omega) (by kernel_rfl); rw [q30] at e30; clear q30
      have c0 := hf.keep d1
      exact wpOp_runT rfl (wanted_plain rfl _) (.int .u8 (x.client : Nat)) w' (by unfold execOp; simp [go_sem, e30, c0]) (hK _ w' (Fr.refl _) rfl)
    · -- 3
      obtain ⟨v31, (e31 : a.tmps[31]? = _), (q31 : v31 = (.int .u8 (x.client : Nat)))⟩ := hw 2 (by omega) (by kernel_rfl); rw [q31] at e31; clear q31
      exact wpOp_enterT rfl (wanted_plain rfl _) 29 #[.int .u8 (x.client : Nat)] (run_call Tryz.func29 (by kernel_rfl) rfl _ _ rfl _ (by simp [Act.eval, e31])) ((HT8.out x.client hcl w' hf).mono fun e w2 ⟨he, hw2⟩ => ⟨_, he, hK _ w2 hw2 rfl⟩)
    · -- 4
      have e1 : a.tmps[1]? = some (.pointer (some ⟨w.heap.size, 0, none⟩)) := (ho 1 (fun j hj => by show 1 ≠ 29 + j; omega)).trans rfl
      exact wpOp_runT rfl (wanted_plain rfl _) (.pointer (some ⟨w.heap.size, 2, none⟩)) w' (by unfold execOp; simp [go_sem, e1]) (hK _ w' (Fr.refl _) rfl)
    · -- 5
      obtain ⟨v33, (e33 : a.tmps[33]? = _), (q33 : v33 = (.pointer (some ⟨w.heap.size, 2, none⟩)))⟩ := hw 4 (by omega) (by kernel_rfl); rw [q33] at e33; clear q33
      have c0 := hf.keep d2
      exact wpOp_runT rfl (wanted_plain rfl _) (.int .u16 (x.id : Nat)) w' (by unfold execOp; simp [go_sem, e33, c0]) (hK _ w' (Fr.refl _) rfl)
    · -- 6
      obtain ⟨v34, (e34 : a.tmps[34]? = _), (q34 : v34 = (.int .u16 (x.id : Nat)))⟩ := hw 5 (by omega) (by kernel_rfl); rw [q34] at e34; clear q34
      exact wpOp_enterT rfl (wanted_plain rfl _) 30 #[.int .u16 (x.id : Nat)] (run_call Tryz.func30 (by kernel_rfl) rfl _ _ rfl _ (by simp [Act.eval, e34])) ((HT16.out x.id hid w' hf).mono fun e w2 ⟨he, hw2⟩ => ⟨_, he, hK _ w2 hw2 rfl⟩)
    · -- 7
      obtain ⟨v32, (e32 : a.tmps[32]? = _), (q32 : v32 = (.string ⟨(Lib.decDigits x.client).toArray⟩))⟩ := hw 3 (by omega) (by kernel_rfl); rw [q32] at e32; clear q32
      obtain ⟨v35, (e35 : a.tmps[35]? = _), (q35 : v35 = (.string ⟨(Lib.decDigits x.id).toArray⟩))⟩ := hw 6 (by omega) (by kernel_rfl); rw [q35] at e35; clear q35
      exact wpOp_runT rfl (wanted_plain rfl _) (.slice (some ⟨w'.heap.size, 0, none⟩) 2 2) (w'.alloc (.cells (strCells [Lib.decDigits x.client, Lib.decDigits x.id]).toArray 9)) (run_bs 59 9 2 _ rfl [.string ⟨(Lib.decDigits x.client).toArray⟩, .string ⟨(Lib.decDigits x.id).toArray⟩] (by simp [evalOf e32, evalOf e35]; try rfl) 1 (by omega) (fun v hv => by simp at hv; rcases hv with rfl | rfl <;> rfl) Tryz.underlying59 (by kernel_rfl) rfl (by omega) (by omega)) (hK _ _ ((Fr.refl _).alloc _) (RowS.lit hf [Lib.decDigits x.client, Lib.decDigits x.id] (by simp)))
  case hend =>
    intro f w2 hf2 hP
    have p29 : f 0 = (.slice (some ⟨w1.heap.size, 0, none⟩) 1 1) := hP 0 (by omega)
    have hlr : RowS (w1.alloc (.cells (strCells [kindW k]).toArray 9)) w2 (f 7) [Lib.decDigits x.client, Lib.decDigits x.id] := hP 7 (by omega)
    have hro := hlit.fr hf2
    have hl2 := hlr.rd
    clear hP hf2 hlr d0 d0' d1 d2 hlit gk HT8 HT16
    simp only [laidS, List.setIfInBounds_toArray, List.set_cons_succ, List.set_cons_zero, p29]
    generalize f 7 = v36 at hl2
    refine wpList_appendS rfl (.tmp 29) (.tmp 36) rfl _ [kindW k] [Lib.decDigits x.client, Lib.decDigits x.id] rfl hro _ rfl hl2 (by simp) ?_
    intro v3 w3 hro
    clear hl2
    have hB3 := HBX.out.fr hro.frm
    have d0 : w3.cell? ⟨w.heap.size, 0, none⟩ = some (.int .u8 k) := hB3.at 0 rfl
    have hz3 := hB3.lt
    obtain ⟨ra, rc, rfl, _⟩ := hro.form
    have d11 : w3.cell? ⟨w.heap.size, 11, none⟩ = some r := hB3.at 11 rfl
    clear hB3
    have hrm := HM.out
    unfold readsMay at hrm
    simp only [Bool.and_eq_true, decide_eq_true_eq, Bool.not_eq_true'] at hrm
    have hrl := hrm.1
    have HLI : Hid (∀ l ∈ x.reads, l.length ≤ 60) := Lib.hid (fun l hl => by
      have hq := List.any_eq_false.1 hrm.2 l hl
      unfold listBad at hq
      simp only [decide_eq_true_eq] at hq
      omega)
    have HRB := Lib.hid OK.out.reads
    clear hrm
    obtain ⟨vs, hvl, ⟨a, cap, rfl, hc1, hc2, hxx⟩, h3⟩ := hr
    have HXX := Lib.hid hxx
    have H3 := Lib.hid h3
    unfold maxLen at hc2
    clear hxx h3
    have HRO := Lib.hid (show RowS w1 w3 (.slice ra _ rc) (([kindW k] ++ [Lib.decDigits x.client, Lib.decDigits x.id]) ++ (x.reads.take 0).map listWord) by simpa using hro)
    clear hro
    go_wp2_with fail
    go_loopw [5, 71] (fun s i wr => ∃ j : Nat, j ≤ x.reads.length ∧ i = .int .i64 j ∧ RowS w1 wr s (([kindW k] ++ [Lib.decDigits x.client, Lib.decDigits x.id]) ++ (x.reads.take j).map listWord)) (fun _ i _ => x.reads.length - (intOf i).toNat)
    case atStart => exact ⟨0, Nat.zero_le _, rfl, HRO.out⟩
    case round =>
      obtain ⟨j, hj, rfl, hro⟩ := hrel
      clear HRO
      by_cases hlt : j < x.reads.length
      · obtain ⟨b1, o1, u1, rfl, hc, hr1⟩ := RdR.at (n := 0) (cap := 0) hvl HXX.out H3.out hlt
        have hfr := HF1.out.trans hro.frm
        have c1 := hfr.keep hc
        have r1 := hr1.keep hfr
        have hl60 := HLI.out x.reads[j] (List.getElem_mem hlt)
        have hbn := HRB.out x.reads[j] (List.getElem_mem hlt)
        have HK := Lib.hid (show (([kindW k] ++ [Lib.decDigits x.client, Lib.decDigits x.id]) ++ (x.reads.take j).map listWord) ++ [listWord x.reads[j]] = ([kindW k] ++ [Lib.decDigits x.client, Lib.decDigits x.id]) ++ (x.reads.take (j + 1)).map listWord by rw [List.take_succ_eq_append_getElem hlt, List.map_append]; simp)
        have hlen : (([kindW k] ++ [Lib.decDigits x.client, Lib.decDigits x.id]) ++ (x.reads.take j).map listWord).length ≤ 20 := by simp; omega
        generalize (([kindW k] ++ [Lib.decDigits x.client, Lib.decDigits x.id]) ++ (x.reads.take j).map listWord) = acc at hro HK hlen
        generalize x.reads[j] = l at c1 r1 hl60 hbn HK
        have hk1 : j < cap := by omega
        have HLC := Lib.hid (list_c u1 l wr (HE.out.toEnv0.keep hfr) r1 (by omega) hbn)
        obtain ⟨sa, sc, rfl, _⟩ := hro.form
        clear hc hr1 r1 hfr hbn
        go_wp2_with fail
        refine HLC.out.mono ?_
        rintro e w4 ⟨rfl, hb4⟩
        have hro4 := hro.fr hb4
        have hl4 := (RowS.lit hro4.frm [listWord l] (by simp)).rd
        go_wp2_with (at_builtin; refine wpList_appendS rfl (.tmp 75) (.tmp 78) rfl _ _ [listWord l] rfl (hro4.fr ((Fr.refl _).alloc _)) _ rfl hl4 (by simp; omega) ?_)
        intro v5 w5 hro5
        rw [HK.out] at hro5
        go_wp2
        go_roundw
        case rel => exact ⟨j + 1, by omega, by go_num, hro5⟩
        case measure => simp [intOf]; omega
      · have hkl : x.reads.take j = x.reads := List.take_of_length_le (by omega)
        rw [hkl] at hro
        clear hkl HXX H3
        obtain ⟨h9, h8⟩ := HL.out LW rfl
        have hrl := hro.rd
        have HF := Lib.hid (HF1.out.trans hro.frm)
        have HJ := Lib.hid (JoinC_c 32 _ LW _ (by rw [HW.out]; exact hrl) h9 h8)
        clear h9 h8 hro hrl
        go_wp2_with fail
        refine HJ.out.mono ?_
        rintro e w5 ⟨rfl, hb5⟩
        go_wp2_with fail
        go_ret2
        exact ⟨rfl, HF.out.trans hb5⟩
set_option maxRecDepth 100000 in
set_option maxHeartbeats 4000000 in
theorem line_cfg (k : Nat) (x : Ev) (t r : Value) (w : World) (hE : EnvT w) (ht : RdM w t x.txn) (hr : RdR w r x.reads) (ok : x.Ok) (hm : x.may = true) (hk : x.kind = k) (hkk : k = 1) :
    Calls Tryz.prog 11 #[x.val t r] w fun e w' => e = .returned (.tuple #[.string ⟨x.line.toArray⟩, .int .i64 0]) ∧ Fr w w' := by
  have hx : EvAt w (x.val t r) x := ⟨t, r, rfl, ht, hr⟩
  have hch := fun W (f : Fr w W) => EvCheck_c x (x.val t r) W (hE.toEnv.keep f) (hx.keep f) ok
  have hc : x.check = 0 := by unfold Ev.check; rw [hm]; rfl
  rw [hc] at hch
  have hkm := (may_kind hm).1
  have hcl16 := (may_kind hm).2.1
  have hll := line_short ok hm
  have hwl := (wordsT_short ok hm).1
  have hid := ok.id
  have hcl : x.client < 256 := by omega
  have HW : Hid (x.words = [kindW k] ++ cfgWords x.cfg) := Lib.hid (by unfold Ev.words Ev.tailW; rw [if_pos (by omega), hk]; try rfl)
  have HM : Hid (cfgMay x.cfg = true) := Lib.hid (by unfold Ev.kindMay at hkm; rwa [if_pos (by omega)] at hkm)
  unfold Ev.line
  unfold Ev.line at hll
  have HL : Hid (∀ l, l = x.words → (Lib.join l [32]).length < 1000000 ∧ l.length < 1000000) := Lib.hid (fun l h => by subst h; omega)
  have HLW := Lib.hid (rfl : x.words = x.words)
  generalize x.words = LW at HW HL hll hwl ⊢
  clear hll hwl HLW hkm hm hc hx hcl16
  have e1 : ((k : Int) == 1) = true := by simp; omega
  have e2 : ((k : Int) == 2) = false := by simp; omega
  have e3 : ((k : Int) == 3) = false := by simp; omega
  have e5 : ((k : Int) == 5) = false := by simp; omega
  have e6 : ((k : Int) == 6) = false := by simp; omega
  have hk8 : k < 8 := by omega
  have hf0 := (Fr.refl w).alloc (.cells (x.cells t r) 32)
  have hB0 := BoxAt.new w (x.cells t r) 32
  have HE := Lib.hid hE
  unfold Ev.cells at hB0 hf0
  unfold Ev.val at hch ⊢
  rw [hk] at hch hB0 hf0 ⊢
  have HC := Lib.hid (hch _ hf0)
  clear hch hE hkk hk
  have OK := Lib.hid ok
  clear ok
  go_enter Tryz.func11, Tryz.ntmps11
  go_wp2_with ((with_reducible refine wpList_here (.load 32 (.tmp 1)) rfl ?_); refine wpList_load_box 32 (.tmp 1) rfl _ rfl _ hB0 _ Tryz.underlying32 rfl Tryz.infoEv rfl ?_)
  refine HC.out.mono ?_
  rintro e w1 ⟨rfl, hb⟩
  have hB1 := hB0.fr hb
  have hf1 := hf0.trans hb
  have d0 : w1.cell? ⟨w.heap.size, 0, none⟩ = some (.int .u8 k) := hB1.at 0 rfl
  have hlit := RowS.lit (Fr.refl w1) [kindW k] (by simp)
  have d0' := hlit.frm.keep d0
  have HBX := Lib.hid hB1
  have HF1 := Lib.hid hf1
  have gk := hf1.keep (HE.out.kindsT k hk8)
  have hz1 := hB1.lt
  clear hB0 hB1 hb hf0 hf1 HC
  have hB := HBX.out.alloc (.cells (strCells [kindW k]).toArray 9)
  have d12 : (w1.alloc (.cells #[.string ⟨(kindW k).toArray⟩] 9)).cell? ⟨w.heap.size, 12, none⟩ = some (.int .u8 x.cfg.model) := hB.at 12 rfl
  have d13 : (w1.alloc (.cells #[.string ⟨(kindW k).toArray⟩] 9)).cell? ⟨w.heap.size, 13, none⟩ = some (.int .i64 x.cfg.opens) := hB.at 13 rfl
  have d14 : (w1.alloc (.cells #[.string ⟨(kindW k).toArray⟩] 9)).cell? ⟨w.heap.size, 14, none⟩ = some (.int .i64 x.cfg.states) := hB.at 14 rfl
  have d15 : (w1.alloc (.cells #[.string ⟨(kindW k).toArray⟩] 9)).cell? ⟨w.heap.size, 15, none⟩ = some (.int .i64 x.cfg.steps) := hB.at 15 rfl
  have d16 : (w1.alloc (.cells #[.string ⟨(kindW k).toArray⟩] 9)).cell? ⟨w.heap.size, 16, none⟩ = some (.bool x.cfg.part) := hB.at 16 rfl
  have d17 : (w1.alloc (.cells #[.string ⟨(kindW k).toArray⟩] 9)).cell? ⟨w.heap.size, 17, none⟩ = some (.bool x.cfg.cut) := hB.at 17 rfl
  have d18 : (w1.alloc (.cells #[.string ⟨(kindW k).toArray⟩] 9)).cell? ⟨w.heap.size, 18, none⟩ = some (.bool x.cfg.memo) := hB.at 18 rfl
  clear hB
  have hcm := cfgMay_facts HM.out
  have hcw := cfgWords_short HM.out
  have HCF := Lib.hid (config_c x.cfg (w1.alloc (.cells #[.string ⟨(kindW k).toArray⟩] 9)) (HE.out.keep (HF1.out.trans hlit.frm)) HM.out)
  have HRO := Lib.hid hlit
  unfold Cfg.val at HCF
  clear hcm hlit
  go_wp2_with fail
  refine HCF.out.mono ?_
  rintro e w4 ⟨v4, rfl, hrd4, hb4⟩
  have hcw := hcw.1
  go_wp2_with (at_builtin; refine wpList_appendS rfl (.tmp 23) (.tmp 26) rfl _ _ (cfgWords x.cfg) rfl (HRO.out.fr hb4) _ rfl hrd4 (by simp; omega) ?_)
  clear hrd4
  intro v5 w5 hro
  obtain ⟨ra5, rc5, rfl, _⟩ := hro.form
  obtain ⟨h9, h8⟩ := HL.out LW rfl
  have hrl := hro.rd
  have HF := Lib.hid (HF1.out.trans hro.frm)
  have HJ := Lib.hid (JoinC_c 32 _ LW _ (by rw [HW.out]; exact hrl) h9 h8)
  clear h9 h8 hro hrl
  go_wp2_with fail
  refine HJ.out.mono ?_
  rintro e w5 ⟨rfl, hb5⟩
  go_wp2_with fail
  go_ret2
  exact ⟨rfl, HF.out.trans hb5⟩
/-- text.Line answers what an event's line is. -/
theorem Line_c (x : Ev) (v : Value) (w : World) (hE : EnvT w) (hx : EvAt w v x) (ok : x.Ok) : Calls Tryz.prog 11 #[v] w (StrRet w x.said) := by
  obtain ⟨⟨t, r, rfl, ht, hr⟩⟩ := hx
  unfold StrRet Ev.said
  cases hm : x.may
  · simp only [Bool.false_eq_true, if_false]
    exact line_no x t r w hE ⟨t, r, rfl, ht, hr⟩ ok hm
  · simp only [if_true]
    have hk := (may_kind hm).1
    have h17 : 1 ≤ x.kind ∧ x.kind ≤ 7 := by
      unfold Ev.kindMay at hk
      by_cases h1 : x.kind = 1
      · omega
      by_cases h2 : x.kind = 2
      · omega
      by_cases h3 : x.kind = 3
      · omega
      by_cases h5 : x.kind = 5
      · omega
      by_cases h6 : x.kind = 6
      · omega
      rw [if_neg h1, if_neg h2, if_neg h3, if_neg h5, if_neg h6] at hk
      simp at hk
      omega
    rcases (show x.kind = 1 ∨ x.kind = 2 ∨ x.kind = 3 ∨ x.kind = 5 ∨ x.kind = 6 ∨ (x.kind = 4 ∨ x.kind = 7) by omega) with h | h | h | h | h | h
    · exact line_cfg _ x t r w hE ht hr ok hm rfl h
    · exact line_op _ x t r w hE ht hr ok hm rfl h
    · exact line_res _ x t r w hE ht hr ok hm rfl h
    · exact line_txn _ x t r w hE ht hr ok hm rfl h
    · exact line_reads _ x t r w hE ht hr ok hm rfl h
    · exact line_none _ x t r w hE ht hr ok hm rfl h
end Go.Proofs.YtfklgaeejmeipaaGreatDoor
