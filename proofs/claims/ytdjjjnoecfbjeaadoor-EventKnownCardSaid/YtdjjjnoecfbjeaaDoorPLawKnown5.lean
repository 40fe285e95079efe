/- umpirelaw05.EventKnown: the law's walk. No condition but the tables' content. -/
import Derived.Test.YtdjjjnoecfbjeaaDoorPRefTakeF
import Derived.Test.YtdjjjnoecfbjeaaDoorPArms
import Derived.Shelf.Abstract
set_option linter.all false
set_option linter.unusedVariables false
set_option linter.unusedSimpArgs false
set_option linter.unnecessarySimpa false
/- umpirelaw05.EventKnown: the law's walk. No condition but the tables' content. -/
namespace Go.Proofs.YtdjjjnoecfbjeaaDoor
open Go.RowKit Go.Shelf

def knW : Ev := { Ev.zero with kind := 2, client := 3, id := 258, op := ⟨2, 1, 0, 5, 0⟩ }
def knB : Ev := { Ev.zero with kind := 5, client := 1, id := 9, txn := [⟨true, 2, 0⟩, ⟨false, 2, 6⟩] }
def knC : Ev := { Ev.zero with kind := 6, client := 1, id := 9, reads := [[4, 5]] }
def knR : Ev := { Ev.zero with kind := 3, client := 3, id := 258, rk := 1, rv := 7 }
def knA : Ev := { Ev.zero with kind := 7 }
def knM : Ev := { Ev.zero with kind := 6, client := 1 }

def knD : Ev := { cfgEv with client := 1 }
def knE : Ev := { cfgEv with cfg := ⟨2, 33, 100, 1000, true, false, true⟩ }
def knF : Ev := { knW with rk := 3 }
def knG : Ev := { knB with txn := [⟨true, 2, 1⟩] }
def knH : Ev := { knC with reads := [[], [], [], [], [], [], [], [], []] }
def knI : Ev := { knC with reads := [[0, 0, 0, 0, 0, 0, 0, 0, 0, 0, 0, 0, 0, 0, 0, 0, 0, 0, 0, 0, 0, 0, 0, 0, 0, 0, 0, 0, 0, 0, 0, 0, 0]] }
def knK : Ev := { cfgEv with cfg := ⟨2, 8, 100, 0, true, false, true⟩ }
def kn0 : Ev := Ev.zero
def kn8 : Ev := { Ev.zero with kind := 8 }
def kn16 : Ev := { Ev.zero with kind := 4, client := 16 }
def knO : Ev := { Ev.zero with kind := 2, op := ⟨1, 0, 1, 0, 0⟩ }
def knT : Ev := { Ev.zero with kind := 5, txn := [⟨false, 0, 0⟩, ⟨false, 0, 0⟩, ⟨false, 0, 0⟩, ⟨false, 0, 0⟩, ⟨false, 0, 0⟩, ⟨false, 0, 0⟩, ⟨false, 0, 0⟩, ⟨false, 0, 0⟩, ⟨false, 0, 0⟩] }
theorem knD_ok : knD.Ok := by constructor <;> simp [knD, cfgEv, knW, knB, knC, Ev.zero, OpD.zero, Cfg.zero]
theorem knE_ok : knE.Ok := by constructor <;> simp [knE, cfgEv, knW, knB, knC, Ev.zero, OpD.zero, Cfg.zero]
theorem knF_ok : knF.Ok := by constructor <;> simp [knF, cfgEv, knW, knB, knC, Ev.zero, OpD.zero, Cfg.zero]
theorem knG_ok : knG.Ok := by constructor <;> simp [knG, cfgEv, knW, knB, knC, Ev.zero, OpD.zero, Cfg.zero]
theorem knH_ok : knH.Ok := by constructor <;> simp [knH, cfgEv, knW, knB, knC, Ev.zero, OpD.zero, Cfg.zero]
theorem knI_ok : knI.Ok := by constructor <;> simp [knI, cfgEv, knW, knB, knC, Ev.zero, OpD.zero, Cfg.zero]
theorem knK_ok : knK.Ok := by constructor <;> simp [knK, cfgEv, knW, knB, knC, Ev.zero, OpD.zero, Cfg.zero]
theorem kn0_ok : kn0.Ok := by constructor <;> simp [kn0, cfgEv, knW, knB, knC, Ev.zero, OpD.zero, Cfg.zero]
theorem kn8_ok : kn8.Ok := by constructor <;> simp [kn8, cfgEv, knW, knB, knC, Ev.zero, OpD.zero, Cfg.zero]
theorem kn16_ok : kn16.Ok := by constructor <;> simp [kn16, cfgEv, knW, knB, knC, Ev.zero, OpD.zero, Cfg.zero]
theorem knO_ok : knO.Ok := by constructor <;> simp [knO, cfgEv, knW, knB, knC, Ev.zero, OpD.zero, Cfg.zero]
theorem knT_ok : knT.Ok := by constructor <;> simp [knT, cfgEv, knW, knB, knC, Ev.zero, OpD.zero, Cfg.zero]
theorem knW_ok : knW.Ok := by constructor <;> simp [knW, Ev.zero, OpD.zero, Cfg.zero]
theorem knB_ok : knB.Ok := by constructor <;> simp [knB, Ev.zero, OpD.zero, Cfg.zero]
theorem knC_ok : knC.Ok := by constructor <;> simp [knC, Ev.zero, OpD.zero, Cfg.zero]
theorem knR_ok : knR.Ok := by constructor <;> simp [knR, Ev.zero, OpD.zero, Cfg.zero]
theorem knA_ok : knA.Ok := by constructor <;> simp [knA, Ev.zero, OpD.zero, Cfg.zero]
theorem knM_ok : knM.Ok := by constructor <;> simp [knM, Ev.zero, OpD.zero, Cfg.zero]
theorem RdM.of_block {w : World} {b : Nat} {l : List Mic} {c : Array Value} {t : TypeId} (h : BoxAt w b c t) (hc : c.toList = micCells l) (hl : l.length ≤ 1000) : RdM w (.slice (some ⟨b, 0, none⟩) l.length l.length) l := by
  refine ⟨_, _, rfl, Nat.le_refl _, by unfold maxLen; omega, .inr ⟨b, 0, rfl, trivial, h.lt, fun j u hj => ?_⟩⟩
  rw [← hc] at hj
  rw [Nat.zero_add]
  exact h.at j (by simpa using hj)
theorem Rd16.of_block {w : World} {b : Nat} {l : List Nat} {c : Array Value} {t : TypeId} (h : BoxAt w b c t) (hc : c.toList = u16Cells l) (hl : l.length ≤ 1000) : Rd16 w (.slice (some ⟨b, 0, none⟩) l.length l.length) l := by
  refine ⟨_, _, rfl, Nat.le_refl _, by unfold maxLen; omega, .inr ⟨b, 0, rfl, trivial, h.lt, fun j u hj => ?_⟩⟩
  rw [← hc] at hj
  rw [Nat.zero_add]
  exact h.at j (by simpa using hj)
theorem RdR.of_block {w : World} {b : Nat} {ls : List (List Nat)} {vs : List Value} {c : Array Value} {t : TypeId} (h : BoxAt w b c t) (hc : c.toList = vs) (hv : vs.length = ls.length) (hr : ∀ (i : Nat) (l : List Nat) (u : Value), ls[i]? = some l → vs[i]? = some u → Rd16 w u l) (hl : ls.length ≤ 1000) : RdR w (.slice (some ⟨b, 0, none⟩) ls.length ls.length) ls := by
  refine ⟨vs, hv, ⟨_, _, rfl, Nat.le_refl _, by unfold maxLen; omega, .inr ⟨b, 0, rfl, trivial, h.lt, fun j u hj => ?_⟩⟩, hr⟩
  rw [← hc] at hj
  rw [Nat.zero_add]
  exact h.at j (by simpa using hj)

theorem eval_of {a : Act} {t : Tmp} {v : Value} (h : a.tmps[t]? = some v) : a.eval (.tmp t) = v := by simp [Act.eval, h]
theorem alloc_ev (o : Oper) (q : Act) (W : World) (ho : o.op = .alloc 32) : (execOp q.eval o).run Tryd.prog W = .ok (.value (.pointer (some ⟨W.heap.size, 0, none⟩))) (W.alloc (.cells (Ev.zero.cells nil0 nil0) 32)) := by
  unfold execOp
  simp only [ho]
  simp [go_sem]
  rfl
theorem enter_cfg (o : Oper) (q : Act) (W : World) (ho : o.op = .call { callee := .value (.func 10), args := #[], argTypes := #[] }) : (execOp q.eval o).run Tryd.prog W = .ok (.enter 10 #[]) W := by
  have eg := enters_of Tryd.func10 (by kernel_rfl) rfl
  unfold execOp
  simp only [ho]
  simp [go_sem, resolve, invoke, Act.eval, eg]
set_option maxRecDepth 100000 in
set_option maxHeartbeats 8000000 in
theorem evKnown_c (w : World) (hE : Env w) : Calls Tryd.prog 3 #[] w fun e w' => e = .returned (.bool true) ∧ Fr w w' := by
  have HAW := Lib.hid (fun W (f : Fr w W) => awake_c W (hE.keep f))
  have P0 := Lib.hid (fun v W (f : Fr w W) (h : EvAt W v knW) => lPuts_yes knW v [2, 3, 1, 2, 2, 1, 0, 5] W (hE.keep f) h knW_ok (by decide) (by decide))
  have P1 := Lib.hid (fun v W (f : Fr w W) (h : EvAt W v knR) => lPuts_yes knR v [3, 3, 1, 2, 1, 0, 7] W (hE.keep f) h knR_ok (by decide) (by decide))
  have P2 := Lib.hid (fun v W (f : Fr w W) (h : EvAt W v knA) => lPuts_yes knA v [7, 0, 0, 0] W (hE.keep f) h knA_ok (by decide) (by decide))
  have P3 := Lib.hid (fun v W (f : Fr w W) (h : EvAt W v knB) => lPuts_yes knB v [5, 1, 0, 9, 2, 130, 2, 0, 6] W (hE.keep f) h knB_ok (by decide) (by decide))
  have P4 := Lib.hid (fun v W (f : Fr w W) (h : EvAt W v knC) => lPuts_yes knC v [6, 1, 0, 9, 1, 2, 0, 4, 0, 5] W (hE.keep f) h knC_ok (by decide) (by decide))
  have P5 := Lib.hid (fun v W (f : Fr w W) (h : EvAt W v knM) => lPuts_yes knM v [6, 1, 0, 0, 0] W (hE.keep f) h knM_ok (by decide) (by decide))
  have F0 := Lib.hid (fun W (f : Fr w W) => lFails_yes [4, 3, 1] 5 W (hE.keep f) (by decide) (by decide +kernel))
  have F1 := Lib.hid (fun W (f : Fr w W) => lFails_yes [4, 3, 1, 2, 0] 4 W (hE.keep f) (by decide) (by decide +kernel))
  have F2 := Lib.hid (fun W (f : Fr w W) => lFails_yes [4, 16, 0, 0] 4 W (hE.keep f) (by decide) (by decide +kernel))
  have F3 := Lib.hid (fun W (f : Fr w W) => lFails_yes [0] 4 W (hE.keep f) (by decide) (by decide +kernel))
  have F4 := Lib.hid (fun W (f : Fr w W) => lFails_yes [5, 1, 0, 9, 0] 4 W (hE.keep f) (by decide) (by decide +kernel))
  have F5 := Lib.hid (fun W (f : Fr w W) => lFails_yes [5, 1, 0, 9, 1, 136] 4 W (hE.keep f) (by decide) (by decide +kernel))
  have F6 := Lib.hid (fun W (f : Fr w W) => lFails_yes [1, 2, 13, 8, 0, 100, 0, 0, 3, 232] 4 W (hE.keep f) (by decide) (by decide +kernel))
  have F7 := Lib.hid (fun W (f : Fr w W) => lFails_yes [1, 5, 0, 8, 0, 100, 0, 0, 3, 232] 4 W (hE.keep f) (by decide) (by decide +kernel))
  have F8 := Lib.hid (fun W (f : Fr w W) => lFails_yes [3, 3, 1, 2, 5] 4 W (hE.keep f) (by decide) (by decide +kernel))
  have F9 := Lib.hid (fun W (f : Fr w W) => lFails_yes [6, 1, 0, 9, 1, 2, 0, 4] 5 W (hE.keep f) (by decide) (by decide +kernel))
  have N_knD := Lib.hid (fun v W (f : Fr w W) (h : EvAt W v knD) => show Calls Tryd.prog 11 #[v] W fun e w' => e = .returned (.bool true) ∧ Fr W w' by have h1 := lNone_c knD v W (hE.keep f) h knD_ok (by decide); rwa [show decide (knD.put.2 ≠ 0) = true by decide] at h1)
  have N_knE := Lib.hid (fun v W (f : Fr w W) (h : EvAt W v knE) => show Calls Tryd.prog 11 #[v] W fun e w' => e = .returned (.bool true) ∧ Fr W w' by have h1 := lNone_c knE v W (hE.keep f) h knE_ok (by decide); rwa [show decide (knE.put.2 ≠ 0) = true by decide] at h1)
  have N_knF := Lib.hid (fun v W (f : Fr w W) (h : EvAt W v knF) => show Calls Tryd.prog 11 #[v] W fun e w' => e = .returned (.bool true) ∧ Fr W w' by have h1 := lNone_c knF v W (hE.keep f) h knF_ok (by decide); rwa [show decide (knF.put.2 ≠ 0) = true by decide] at h1)
  have N_knG := Lib.hid (fun v W (f : Fr w W) (h : EvAt W v knG) => show Calls Tryd.prog 11 #[v] W fun e w' => e = .returned (.bool true) ∧ Fr W w' by have h1 := lNone_c knG v W (hE.keep f) h knG_ok (by decide); rwa [show decide (knG.put.2 ≠ 0) = true by decide] at h1)
  have N_knH := Lib.hid (fun v W (f : Fr w W) (h : EvAt W v knH) => show Calls Tryd.prog 11 #[v] W fun e w' => e = .returned (.bool true) ∧ Fr W w' by have h1 := lNone_c knH v W (hE.keep f) h knH_ok (by decide); rwa [show decide (knH.put.2 ≠ 0) = true by decide] at h1)
  have N_knI := Lib.hid (fun v W (f : Fr w W) (h : EvAt W v knI) => show Calls Tryd.prog 11 #[v] W fun e w' => e = .returned (.bool true) ∧ Fr W w' by have h1 := lNone_c knI v W (hE.keep f) h knI_ok (by decide); rwa [show decide (knI.put.2 ≠ 0) = true by decide] at h1)
  have N_knK := Lib.hid (fun v W (f : Fr w W) (h : EvAt W v knK) => show Calls Tryd.prog 11 #[v] W fun e w' => e = .returned (.bool true) ∧ Fr W w' by have h1 := lNone_c knK v W (hE.keep f) h knK_ok (by decide); rwa [show decide (knK.put.2 ≠ 0) = true by decide] at h1)
  have N_kn0 := Lib.hid (fun v W (f : Fr w W) (h : EvAt W v kn0) => show Calls Tryd.prog 11 #[v] W fun e w' => e = .returned (.bool true) ∧ Fr W w' by have h1 := lNone_c kn0 v W (hE.keep f) h kn0_ok (by decide); rwa [show decide (kn0.put.2 ≠ 0) = true by decide] at h1)
  have N_kn8 := Lib.hid (fun v W (f : Fr w W) (h : EvAt W v kn8) => show Calls Tryd.prog 11 #[v] W fun e w' => e = .returned (.bool true) ∧ Fr W w' by have h1 := lNone_c kn8 v W (hE.keep f) h kn8_ok (by decide); rwa [show decide (kn8.put.2 ≠ 0) = true by decide] at h1)
  have N_kn16 := Lib.hid (fun v W (f : Fr w W) (h : EvAt W v kn16) => show Calls Tryd.prog 11 #[v] W fun e w' => e = .returned (.bool true) ∧ Fr W w' by have h1 := lNone_c kn16 v W (hE.keep f) h kn16_ok (by decide); rwa [show decide (kn16.put.2 ≠ 0) = true by decide] at h1)
  have N_knO := Lib.hid (fun v W (f : Fr w W) (h : EvAt W v knO) => show Calls Tryd.prog 11 #[v] W fun e w' => e = .returned (.bool true) ∧ Fr W w' by have h1 := lNone_c knO v W (hE.keep f) h knO_ok (by decide); rwa [show decide (knO.put.2 ≠ 0) = true by decide] at h1)
  have N_knT := Lib.hid (fun v W (f : Fr w W) (h : EvAt W v knT) => show Calls Tryd.prog 11 #[v] W fun e w' => e = .returned (.bool true) ∧ Fr W w' by have h1 := lNone_c knT v W (hE.keep f) h knT_ok (by decide); rwa [show decide (knT.put.2 ≠ 0) = true by decide] at h1)
  clear hE
  go_enter Tryd.func3, Tryd.ntmps3
  go_wp2_with (first | ((with_reducible refine wpList_here (.store 32 (.tmp 1) (.tmp 12)) rfl ?_); refine wpList_store_new 32 (.tmp 1) (.tmp 12) rfl _ (knW.cells nil0 nil0) (w.heap.size) (by simp) rfl rfl Tryd.infoEv rfl (Ev.oneCell knW none none 0 0 0 0) rfl rfl ?_) | ((with_reducible refine wpList_here (.store 32 (.tmp 2) (.tmp 16)) rfl ?_); refine wpList_store_new 32 (.tmp 2) (.tmp 16) rfl _ (knB.cells (.slice (some ⟨w.heap.size + 1, 0, none⟩) 2 2) nil0) (w.heap.size + 1 + 1) (by simp) rfl rfl Tryd.infoEv rfl (Ev.oneCell knB (some ⟨w.heap.size + 1, 0, none⟩) none 2 2 0 0) rfl rfl ?_) | ((with_reducible refine wpList_here (.store 32 (.tmp 3) (.tmp 19)) rfl ?_); refine wpList_store_new 32 (.tmp 3) (.tmp 19) rfl _ (knC.cells nil0 (.slice (some ⟨w.heap.size + 1 + 1 + 1 + 1, 0, none⟩) 1 1)) (w.heap.size + 1 + 1 + 1 + 1 + 1) (by simp) rfl rfl Tryd.infoEv rfl (Ev.oneCell knC none (some ⟨w.heap.size + 1 + 1 + 1 + 1, 0, none⟩) 0 0 1 1) rfl rfl ?_))
  have h6 : Fr w ((((((w.alloc (.cells (knW.cells nil0 nil0) 32)).alloc (.cells (#[.bool true, .int .u8 2, .int .u16 0, .bool false, .int .u8 2, .int .u16 6]) 34)).alloc (.cells (knB.cells (.slice (some ⟨w.heap.size + 1, 0, none⟩) 2 2) nil0) 32)).alloc (.cells (#[.int .u16 4, .int .u16 5]) 22)).alloc (.cells (#[.slice (some ⟨w.heap.size + 1 + 1 + 1, 0, none⟩) 2 2]) 35)).alloc (.cells (knC.cells nil0 (.slice (some ⟨w.heap.size + 1 + 1 + 1 + 1, 0, none⟩) 1 1)) 32)) := ((((((Fr.refl w).alloc _).alloc _).alloc _).alloc _).alloc _).alloc _
  have hW : BoxAt ((((((w.alloc (.cells (knW.cells nil0 nil0) 32)).alloc (.cells (#[.bool true, .int .u8 2, .int .u16 0, .bool false, .int .u8 2, .int .u16 6]) 34)).alloc (.cells (knB.cells (.slice (some ⟨w.heap.size + 1, 0, none⟩) 2 2) nil0) 32)).alloc (.cells (#[.int .u16 4, .int .u16 5]) 22)).alloc (.cells (#[.slice (some ⟨w.heap.size + 1 + 1 + 1, 0, none⟩) 2 2]) 35)).alloc (.cells (knC.cells nil0 (.slice (some ⟨w.heap.size + 1 + 1 + 1 + 1, 0, none⟩) 1 1)) 32)) w.heap.size (knW.cells nil0 nil0) 32 := (((((BoxAt.new w _ _).alloc _).alloc _).alloc _).alloc _).alloc _
  have hM : BoxAt ((((((w.alloc (.cells (knW.cells nil0 nil0) 32)).alloc (.cells (#[.bool true, .int .u8 2, .int .u16 0, .bool false, .int .u8 2, .int .u16 6]) 34)).alloc (.cells (knB.cells (.slice (some ⟨w.heap.size + 1, 0, none⟩) 2 2) nil0) 32)).alloc (.cells (#[.int .u16 4, .int .u16 5]) 22)).alloc (.cells (#[.slice (some ⟨w.heap.size + 1 + 1 + 1, 0, none⟩) 2 2]) 35)).alloc (.cells (knC.cells nil0 (.slice (some ⟨w.heap.size + 1 + 1 + 1 + 1, 0, none⟩) 1 1)) 32)) (w.heap.size + 1) #[.bool true, .int .u8 2, .int .u16 0, .bool false, .int .u8 2, .int .u16 6] 34 := ((((BoxAt.new' _ _ _ _ (by simp)).alloc _).alloc _).alloc _).alloc _
  have hB : BoxAt ((((((w.alloc (.cells (knW.cells nil0 nil0) 32)).alloc (.cells (#[.bool true, .int .u8 2, .int .u16 0, .bool false, .int .u8 2, .int .u16 6]) 34)).alloc (.cells (knB.cells (.slice (some ⟨w.heap.size + 1, 0, none⟩) 2 2) nil0) 32)).alloc (.cells (#[.int .u16 4, .int .u16 5]) 22)).alloc (.cells (#[.slice (some ⟨w.heap.size + 1 + 1 + 1, 0, none⟩) 2 2]) 35)).alloc (.cells (knC.cells nil0 (.slice (some ⟨w.heap.size + 1 + 1 + 1 + 1, 0, none⟩) 1 1)) 32)) (w.heap.size + 1 + 1) (knB.cells (.slice (some ⟨w.heap.size + 1, 0, none⟩) 2 2) nil0) 32 := (((BoxAt.new' _ _ _ _ (by simp)).alloc _).alloc _).alloc _
  have hN : BoxAt ((((((w.alloc (.cells (knW.cells nil0 nil0) 32)).alloc (.cells (#[.bool true, .int .u8 2, .int .u16 0, .bool false, .int .u8 2, .int .u16 6]) 34)).alloc (.cells (knB.cells (.slice (some ⟨w.heap.size + 1, 0, none⟩) 2 2) nil0) 32)).alloc (.cells (#[.int .u16 4, .int .u16 5]) 22)).alloc (.cells (#[.slice (some ⟨w.heap.size + 1 + 1 + 1, 0, none⟩) 2 2]) 35)).alloc (.cells (knC.cells nil0 (.slice (some ⟨w.heap.size + 1 + 1 + 1 + 1, 0, none⟩) 1 1)) 32)) (w.heap.size + 1 + 1 + 1) #[.int .u16 4, .int .u16 5] 22 := ((BoxAt.new' _ _ _ _ (by simp)).alloc _).alloc _
  have hR : BoxAt ((((((w.alloc (.cells (knW.cells nil0 nil0) 32)).alloc (.cells (#[.bool true, .int .u8 2, .int .u16 0, .bool false, .int .u8 2, .int .u16 6]) 34)).alloc (.cells (knB.cells (.slice (some ⟨w.heap.size + 1, 0, none⟩) 2 2) nil0) 32)).alloc (.cells (#[.int .u16 4, .int .u16 5]) 22)).alloc (.cells (#[.slice (some ⟨w.heap.size + 1 + 1 + 1, 0, none⟩) 2 2]) 35)).alloc (.cells (knC.cells nil0 (.slice (some ⟨w.heap.size + 1 + 1 + 1 + 1, 0, none⟩) 1 1)) 32)) (w.heap.size + 1 + 1 + 1 + 1) #[.slice (some ⟨w.heap.size + 1 + 1 + 1, 0, none⟩) 2 2] 35 := (BoxAt.new' _ _ _ _ (by simp)).alloc _
  have hC : BoxAt ((((((w.alloc (.cells (knW.cells nil0 nil0) 32)).alloc (.cells (#[.bool true, .int .u8 2, .int .u16 0, .bool false, .int .u8 2, .int .u16 6]) 34)).alloc (.cells (knB.cells (.slice (some ⟨w.heap.size + 1, 0, none⟩) 2 2) nil0) 32)).alloc (.cells (#[.int .u16 4, .int .u16 5]) 22)).alloc (.cells (#[.slice (some ⟨w.heap.size + 1 + 1 + 1, 0, none⟩) 2 2]) 35)).alloc (.cells (knC.cells nil0 (.slice (some ⟨w.heap.size + 1 + 1 + 1 + 1, 0, none⟩) 1 1)) 32)) (w.heap.size + 1 + 1 + 1 + 1 + 1) (knC.cells nil0 (.slice (some ⟨w.heap.size + 1 + 1 + 1 + 1, 0, none⟩) 1 1)) 32 := BoxAt.new' _ _ _ _ (by simp)
  generalize ((((((w.alloc (.cells (knW.cells nil0 nil0) 32)).alloc (.cells (#[.bool true, .int .u8 2, .int .u16 0, .bool false, .int .u8 2, .int .u16 6]) 34)).alloc (.cells (knB.cells (.slice (some ⟨w.heap.size + 1, 0, none⟩) 2 2) nil0) 32)).alloc (.cells (#[.int .u16 4, .int .u16 5]) 22)).alloc (.cells (#[.slice (some ⟨w.heap.size + 1 + 1 + 1, 0, none⟩) 2 2]) 35)).alloc (.cells (knC.cells nil0 (.slice (some ⟨w.heap.size + 1 + 1 + 1 + 1, 0, none⟩) 1 1)) 32)) = w6 at h6 hW hM hB hN hR hC ⊢
  have rB := RdM.of_block (l := knB.txn) hM rfl (by decide)
  have rN := Rd16.of_block (l := [4, 5]) hN rfl (by decide)
  have rC := RdR.of_block (ls := knC.reads) (vs := [.slice (some ⟨w.heap.size + 1 + 1 + 1, 0, none⟩) 2 2]) hR rfl rfl (fun i l u hl hu => by
    match i, hl, hu with
    | 0, hl, hu => simp [knC] at hl hu; subst hl; subst hu; exact rN
    | k + 1, hl, hu => simp at hu) (by decide)
  have eB : EvAt w6 (knB.val (.slice (some ⟨w.heap.size + 1, 0, none⟩) 2 2) nil0) knB := ⟨_, _, rfl, rB, RdR.nil _⟩
  have eC : EvAt w6 (knC.val nil0 (.slice (some ⟨w.heap.size + 1 + 1 + 1 + 1, 0, none⟩) 1 1)) knC := ⟨_, _, rfl, RdM.nil _, rC⟩
  have hf := Fr.refl w6
  go_wp2_with fail
  refine (HAW.out _ (h6.trans hf)).mono ?_
  rintro e x1 ⟨rfl, hb⟩
  have hf := hf.trans hb
  clear hb
  go_wp2_with ((with_reducible refine wpList_here (.load 32 (.tmp 1)) rfl ?_); refine wpList_load_box 32 (.tmp 1) rfl _ rfl _ (hW.fr hf) _ Tryd.underlying32 rfl Tryd.infoEv rfl ?_)
  refine (P0.out (knW.val nil0 nil0) _ (h6.trans hf) ⟨_, _, rfl, RdM.nil _, RdR.nil _⟩).mono ?_
  rintro e x2 ⟨rfl, hb⟩
  have hf := hf.trans hb
  clear hb
  go_wp2_with fail
  refine (P1.out (knR.val nil0 nil0) _ (h6.trans hf) ⟨_, _, rfl, RdM.nil _, RdR.nil _⟩).mono ?_
  rintro e x3 ⟨rfl, hb⟩
  have hf := hf.trans hb
  clear hb
  go_wp2_with fail
  refine (P2.out (knA.val nil0 nil0) _ (h6.trans hf) ⟨_, _, rfl, RdM.nil _, RdR.nil _⟩).mono ?_
  rintro e x4 ⟨rfl, hb⟩
  have hf := hf.trans hb
  clear hb
  go_wp2_with ((with_reducible refine wpList_here (.load 32 (.tmp 2)) rfl ?_); refine wpList_load_box 32 (.tmp 2) rfl _ rfl _ (hB.fr hf) _ Tryd.underlying32 rfl Tryd.infoEv rfl ?_)
  refine (P3.out _ _ (h6.trans hf) (eB.keep hf)).mono ?_
  rintro e x5 ⟨rfl, hb⟩
  have hf := hf.trans hb
  clear hb
  go_wp2_with ((with_reducible refine wpList_here (.load 32 (.tmp 3)) rfl ?_); refine wpList_load_box 32 (.tmp 3) rfl _ rfl _ (hC.fr hf) _ Tryd.underlying32 rfl Tryd.infoEv rfl ?_)
  refine (P4.out _ _ (h6.trans hf) (eC.keep hf)).mono ?_
  rintro e x6 ⟨rfl, hb⟩
  have hf := hf.trans hb
  clear hb
  go_wp2_with fail
  refine (P5.out (knM.val nil0 nil0) _ (h6.trans hf) ⟨_, _, rfl, RdM.nil _, RdR.nil _⟩).mono ?_
  rintro e x7 ⟨rfl, hb⟩
  have hf := hf.trans hb
  clear hb
  go_wp2_with fail
  refine (F0.out _ (h6.trans hf)).mono ?_
  rintro e x8 ⟨rfl, hb⟩
  have hf := hf.trans hb
  clear hb
  go_wp2_with fail
  refine (F1.out _ (h6.trans hf)).mono ?_
  rintro e x9 ⟨rfl, hb⟩
  have hf := hf.trans hb
  clear hb
  go_wp2_with fail
  refine (F2.out _ (h6.trans hf)).mono ?_
  rintro e x10 ⟨rfl, hb⟩
  have hf := hf.trans hb
  clear hb
  go_wp2_with fail
  refine (F3.out _ (h6.trans hf)).mono ?_
  rintro e x11 ⟨rfl, hb⟩
  have hf := hf.trans hb
  clear hb
  go_wp2_with fail
  refine (F4.out _ (h6.trans hf)).mono ?_
  rintro e x12 ⟨rfl, hb⟩
  have hf := hf.trans hb
  clear hb
  go_wp2_with fail
  refine (F5.out _ (h6.trans hf)).mono ?_
  rintro e x13 ⟨rfl, hb⟩
  have hf := hf.trans hb
  clear hb
  go_wp2_with fail
  refine (F6.out _ (h6.trans hf)).mono ?_
  rintro e x14 ⟨rfl, hb⟩
  have hf := hf.trans hb
  clear hb
  go_wp2_with fail
  refine (F7.out _ (h6.trans hf)).mono ?_
  rintro e x15 ⟨rfl, hb⟩
  have hf := hf.trans hb
  clear hb
  go_wp2_with fail
  refine (F8.out _ (h6.trans hf)).mono ?_
  rintro e x16 ⟨rfl, hb⟩
  have hf := hf.trans hb
  clear hb
  go_wp2_with fail
  refine (F9.out _ (h6.trans hf)).mono ?_
  rintro e x17 ⟨rfl, hb⟩
  have hf := hf.trans hb
  clear hb
  go_wp2_with fail
  have hWx := hW.fr hf
  have hBx := hB.fr hf
  have hCx := hC.fr hf
  refine wp_region_boxes (n := 5) (e := fun k => [91, 92, 93, 94, 95].getD k 0) (p := fun k => [4, 5, 6, 7, 8].getD k 0) (v := fun k => [cfgEv.cells nil0 nil0, cfgEv.cells nil0 nil0, knW.cells nil0 nil0, knB.cells (.slice (some ⟨w.heap.size + 1, 0, none⟩) 2 2) nil0, knC.cells nil0 (.slice (some ⟨w.heap.size + 1 + 1 + 1 + 1, 0, none⟩) 1 1)].getD k #[]) (Z := Ev.zero.cells nil0 nil0) (T := 32) (by kernel_rfl) rfl
    (fun i j hi hj => (show ∀ i, i < 5 → ∀ j, j < 5 → i ≠ j → ([91, 92, 93, 94, 95] : List Nat).getD i 0 ≠ ([91, 92, 93, 94, 95] : List Nat).getD j 0 by decide) i hi j hj)
    (fun i j hi hj => (show ∀ i, i < 5 → ∀ j, j < 5 → i ≠ j → ([4, 5, 6, 7, 8] : List Nat).getD i 0 ≠ ([4, 5, 6, 7, 8] : List Nat).getD j 0 by decide) i hi j hj)
    (fun i j hi hj => (show ∀ i, i < 5 → ∀ j, j < 5 → ([91, 92, 93, 94, 95] : List Nat).getD i 0 ≠ ([4, 5, 6, 7, 8] : List Nat).getD j 0 by decide) i hi j hj) ?hlt ?hev ?hal ?hst ?hw (fun l hl hr => ready_done (by kernel_rfl) hl hr) ?h
  case hlt =>
    intro i hi
    rcases (show i = 0 ∨ i = 1 ∨ i = 2 ∨ i = 3 ∨ i = 4 by omega) with rfl | rfl | rfl | rfl | rfl <;> exact ⟨by simp, by simp⟩
  case hw =>
    intro i hi l h
    rcases (show i = 0 ∨ i = 1 ∨ i = 2 ∨ i = 3 ∨ i = 4 by omega) with rfl | rfl | rfl | rfl | rfl <;> exact ⟨ready_waits h (by kernel_rfl), ready_waits h (by kernel_rfl)⟩
  case hst =>
    intro i hi K q W b hp he hB hK
    rcases (show i = 0 ∨ i = 1 ∨ i = 2 ∨ i = 3 ∨ i = 4 by omega) with rfl | rfl | rfl | rfl | rfl
    · exact wpOp_lay rfl rfl 32 (.tmp 4) (.tmp 91) rfl b _ (cfgEv.cells nil0 nil0) (eval_of hp) (eval_of he) hB Tryd.infoEv rfl (Ev.oneCell cfgEv none none 0 0 0 0) rfl hK
    · exact wpOp_lay rfl rfl 32 (.tmp 5) (.tmp 92) rfl b _ (cfgEv.cells nil0 nil0) (eval_of hp) (eval_of he) hB Tryd.infoEv rfl (Ev.oneCell cfgEv none none 0 0 0 0) rfl hK
    · exact wpOp_lay rfl rfl 32 (.tmp 6) (.tmp 93) rfl b _ (knW.cells nil0 nil0) (eval_of hp) (eval_of he) hB Tryd.infoEv rfl (Ev.oneCell knW none none 0 0 0 0) rfl hK
    · exact wpOp_lay rfl rfl 32 (.tmp 7) (.tmp 94) rfl b _ (knB.cells (.slice (some ⟨w.heap.size + 1, 0, none⟩) 2 2) nil0) (eval_of hp) (eval_of he) hB Tryd.infoEv rfl (Ev.oneCell knB (some ⟨w.heap.size + 1, 0, none⟩) none 2 2 0 0) rfl hK
    · exact wpOp_lay rfl rfl 32 (.tmp 8) (.tmp 95) rfl b _ (knC.cells nil0 (.slice (some ⟨w.heap.size + 1 + 1 + 1 + 1, 0, none⟩) 1 1)) (eval_of hp) (eval_of he) hB Tryd.infoEv rfl (Ev.oneCell knC none (some ⟨w.heap.size + 1 + 1 + 1 + 1, 0, none⟩) 0 0 1 1) rfl hK
  case hal =>
    intro i hi K q W hK
    rcases (show i = 0 ∨ i = 1 ∨ i = 2 ∨ i = 3 ∨ i = 4 by omega) with rfl | rfl | rfl | rfl | rfl <;> exact wpOp_run rfl rfl _ _ (alloc_ev _ _ _ rfl) hK
  case hev =>
    intro i hi K q W hfW hK ho
    rcases (show i = 0 ∨ i = 1 ∨ i = 2 ∨ i = 3 ∨ i = 4 by omega) with rfl | rfl | rfl | rfl | rfl
    · exact wpOp_enter rfl rfl 10 #[] (enter_cfg _ _ _ rfl) _ ((lConfig_c _).mono fun e w' ⟨he, hf⟩ => ⟨he, hK w' hf⟩)
    · exact wpOp_enter rfl rfl 10 #[] (enter_cfg _ _ _ rfl) _ ((lConfig_c _).mono fun e w' ⟨he, hf⟩ => ⟨he, hK w' hf⟩)
    · exact wpOp_run rfl rfl _ _ (run_load_box 32 (.tmp 1) rfl w.heap.size (eval_of ((ho 1 (by decide)).trans rfl)) _ (hWx.fr hfW) _ Tryd.underlying32 rfl Tryd.infoEv) (hK _ (Fr.refl W))
    · exact wpOp_run rfl rfl _ _ (run_load_box 32 (.tmp 2) rfl (w.heap.size + 1 + 1) (eval_of ((ho 2 (by decide)).trans rfl)) _ (hBx.fr hfW) _ Tryd.underlying32 rfl Tryd.infoEv) (hK _ (Fr.refl W))
    · exact wpOp_run rfl rfl _ _ (run_load_box 32 (.tmp 3) rfl (w.heap.size + 1 + 1 + 1 + 1 + 1) (eval_of ((ho 3 (by decide)).trans rfl)) _ (hCx.fr hfW) _ Tryd.underlying32 rfl Tryd.infoEv) (hK _ (Fr.refl W))
  case h =>
    intro b W hfW hbox hinj
    have b0 : BoxAt W (b 0) (cfgEv.cells nil0 nil0) 32 := (hbox 0 (by omega)).1
    have b1 : BoxAt W (b 1) (cfgEv.cells nil0 nil0) 32 := (hbox 1 (by omega)).1
    have b2 : BoxAt W (b 2) (knW.cells nil0 nil0) 32 := (hbox 2 (by omega)).1
    have b3 : BoxAt W (b 3) (knB.cells (.slice (some ⟨w.heap.size + 1, 0, none⟩) 2 2) nil0) 32 := (hbox 3 (by omega)).1
    have b4 : BoxAt W (b 4) (knC.cells nil0 (.slice (some ⟨w.heap.size + 1 + 1 + 1 + 1, 0, none⟩) 1 1)) 32 := (hbox 4 (by omega)).1
    have g0 := (hbox 0 (by omega)).2
    have g1 := (hbox 1 (by omega)).2
    have g2 := (hbox 2 (by omega)).2
    have g3 := (hbox 3 (by omega)).2
    have g4 := (hbox 4 (by omega)).2
    have n01 := hinj 0 1 (by omega) (by omega) (by omega)
    have n02 := hinj 0 2 (by omega) (by omega) (by omega)
    have n03 := hinj 0 3 (by omega) (by omega) (by omega)
    have n04 := hinj 0 4 (by omega) (by omega) (by omega)
    have n12 := hinj 1 2 (by omega) (by omega) (by omega)
    have n13 := hinj 1 3 (by omega) (by omega) (by omega)
    have n14 := hinj 1 4 (by omega) (by omega) (by omega)
    have n23 := hinj 2 3 (by omega) (by omega) (by omega)
    have n24 := hinj 2 4 (by omega) (by omega) (by omega)
    have n34 := hinj 3 4 (by omega) (by omega) (by omega)
    clear hbox hinj
    simp only [laidT, List.getD_cons_zero, List.getD_cons_succ, List.setIfInBounds_toArray, List.set_cons_succ, List.set_cons_zero]
    generalize b 0 = c0 at b0 g0 n01 n02 n03 n04 ⊢
    generalize b 1 = c1 at b1 g1 n01 n12 n13 n14 ⊢
    generalize b 2 = c2 at b2 g2 n02 n12 n23 n24 ⊢
    generalize b 3 = c3 at b3 g3 n03 n13 n23 n34 ⊢
    generalize b 4 = c4 at b4 g4 n04 n14 n24 n34 ⊢
    have k0 : W.cell? ⟨c0, 1, none⟩ = some (.int .u8 0) := b0.at 1 rfl
    have k1 : W.cell? ⟨c1, 13, none⟩ = some (.int .i64 8) := b1.at 13 rfl
    have k2 : W.cell? ⟨c2, 8, none⟩ = some (.int .u8 0) := b2.at 8 rfl
    have k3 : W.cell? ⟨c3, 10, none⟩ = some (.slice (some ⟨w.heap.size + 1, 0, none⟩) 2 2) := b3.at 10 rfl
    have k4 : W.cell? ⟨c4, 11, none⟩ = some (.slice (some ⟨w.heap.size + 1 + 1 + 1 + 1, 0, none⟩) 1 1) := b4.at 11 rfl
    have f0 := b0.free 1
    have f1 := b1.free 13
    have f2 := b2.free 8
    have f3 := b3.free 10
    have f4 := b4.free 11
    have z0 := b0.lt
    have z1 := b1.lt
    have z2 := b2.lt
    have z3 := b3.lt
    have z4 := b4.lt
    have m01 := Ne.symm n01
    have m02 := Ne.symm n02
    have m03 := Ne.symm n03
    have m04 := Ne.symm n04
    have m12 := Ne.symm n12
    have m13 := Ne.symm n13
    have m14 := Ne.symm n14
    have m23 := Ne.symm n23
    have m24 := Ne.symm n24
    have m34 := Ne.symm n34
    have mk9 := fun W' : World => (show (Instr.makeSlice 28 (.int .i64 9) (.int .i64 9)).run Tryd.prog W' = .ok (.slice (some ⟨W'.heap.size, 0, none⟩) 9 9) (W'.alloc (.cells #[.slice none 0 0, .slice none 0 0, .slice none 0 0, .slice none 0 0, .slice none 0 0, .slice none 0 0, .slice none 0 0, .slice none 0 0, .slice none 0 0] 35)) by kernel_rfl)
    go_wp2_with fail
    have a0 := hf.size
    have hX : Fr w6 (((((((W.setCell ⟨c0, 1, none⟩ (.int .u8 1)).setCell ⟨c1, 13, none⟩ (.int .i64 33)).setCell ⟨c2, 8, none⟩ (.int .u8 3)).setCell ⟨c3, 10, none⟩ (.slice (some ⟨W.heap.size, 0, none⟩) 1 1)).setCell ⟨c4, 11, none⟩ (.slice (some ⟨W.heap.size + 1, 0, none⟩) 9 9)).alloc (.cells #[.bool true, .int .u8 2, .int .u16 1] 34)).alloc (.cells #[.slice none 0 0, .slice none 0 0, .slice none 0 0, .slice none 0 0, .slice none 0 0, .slice none 0 0, .slice none 0 0, .slice none 0 0, .slice none 0 0] 35)) := (((((((hf.trans hfW).setCell (p := ⟨c0, 1, none⟩) (by simp; omega) _).setCell (p := ⟨c1, 13, none⟩) (by simp; omega) _).setCell (p := ⟨c2, 8, none⟩) (by simp; omega) _).setCell (p := ⟨c3, 10, none⟩) (by simp; omega) _).setCell (p := ⟨c4, 11, none⟩) (by simp; omega) _).alloc _).alloc _
    have d0 : BoxAt (((((((W.setCell ⟨c0, 1, none⟩ (.int .u8 1)).setCell ⟨c1, 13, none⟩ (.int .i64 33)).setCell ⟨c2, 8, none⟩ (.int .u8 3)).setCell ⟨c3, 10, none⟩ (.slice (some ⟨W.heap.size, 0, none⟩) 1 1)).setCell ⟨c4, 11, none⟩ (.slice (some ⟨W.heap.size + 1, 0, none⟩) 9 9)).alloc (.cells #[.bool true, .int .u8 2, .int .u16 1] 34)).alloc (.cells #[.slice none 0 0, .slice none 0 0, .slice none 0 0, .slice none 0 0, .slice none 0 0, .slice none 0 0, .slice none 0 0, .slice none 0 0, .slice none 0 0] 35)) c0 (knD.cells nil0 nil0) 32 := ((((((b0.setAt 1 _).set m01 _).set m02 _).set m03 _).set m04 _).alloc _).alloc _
    have d1 : BoxAt (((((((W.setCell ⟨c0, 1, none⟩ (.int .u8 1)).setCell ⟨c1, 13, none⟩ (.int .i64 33)).setCell ⟨c2, 8, none⟩ (.int .u8 3)).setCell ⟨c3, 10, none⟩ (.slice (some ⟨W.heap.size, 0, none⟩) 1 1)).setCell ⟨c4, 11, none⟩ (.slice (some ⟨W.heap.size + 1, 0, none⟩) 9 9)).alloc (.cells #[.bool true, .int .u8 2, .int .u16 1] 34)).alloc (.cells #[.slice none 0 0, .slice none 0 0, .slice none 0 0, .slice none 0 0, .slice none 0 0, .slice none 0 0, .slice none 0 0, .slice none 0 0, .slice none 0 0] 35)) c1 (knE.cells nil0 nil0) 32 := ((((((b1.set n01 _).setAt 13 _).set m12 _).set m13 _).set m14 _).alloc _).alloc _
    have d2 : BoxAt (((((((W.setCell ⟨c0, 1, none⟩ (.int .u8 1)).setCell ⟨c1, 13, none⟩ (.int .i64 33)).setCell ⟨c2, 8, none⟩ (.int .u8 3)).setCell ⟨c3, 10, none⟩ (.slice (some ⟨W.heap.size, 0, none⟩) 1 1)).setCell ⟨c4, 11, none⟩ (.slice (some ⟨W.heap.size + 1, 0, none⟩) 9 9)).alloc (.cells #[.bool true, .int .u8 2, .int .u16 1] 34)).alloc (.cells #[.slice none 0 0, .slice none 0 0, .slice none 0 0, .slice none 0 0, .slice none 0 0, .slice none 0 0, .slice none 0 0, .slice none 0 0, .slice none 0 0] 35)) c2 (knF.cells nil0 nil0) 32 := ((((((b2.set n02 _).set n12 _).setAt 8 _).set m23 _).set m24 _).alloc _).alloc _
    have d3 : BoxAt (((((((W.setCell ⟨c0, 1, none⟩ (.int .u8 1)).setCell ⟨c1, 13, none⟩ (.int .i64 33)).setCell ⟨c2, 8, none⟩ (.int .u8 3)).setCell ⟨c3, 10, none⟩ (.slice (some ⟨W.heap.size, 0, none⟩) 1 1)).setCell ⟨c4, 11, none⟩ (.slice (some ⟨W.heap.size + 1, 0, none⟩) 9 9)).alloc (.cells #[.bool true, .int .u8 2, .int .u16 1] 34)).alloc (.cells #[.slice none 0 0, .slice none 0 0, .slice none 0 0, .slice none 0 0, .slice none 0 0, .slice none 0 0, .slice none 0 0, .slice none 0 0, .slice none 0 0] 35)) c3 (knG.cells (.slice (some ⟨W.heap.size, 0, none⟩) 1 1) nil0) 32 := ((((((b3.set n03 _).set n13 _).set n23 _).setAt 10 _).set m34 _).alloc _).alloc _
    have d4 : BoxAt (((((((W.setCell ⟨c0, 1, none⟩ (.int .u8 1)).setCell ⟨c1, 13, none⟩ (.int .i64 33)).setCell ⟨c2, 8, none⟩ (.int .u8 3)).setCell ⟨c3, 10, none⟩ (.slice (some ⟨W.heap.size, 0, none⟩) 1 1)).setCell ⟨c4, 11, none⟩ (.slice (some ⟨W.heap.size + 1, 0, none⟩) 9 9)).alloc (.cells #[.bool true, .int .u8 2, .int .u16 1] 34)).alloc (.cells #[.slice none 0 0, .slice none 0 0, .slice none 0 0, .slice none 0 0, .slice none 0 0, .slice none 0 0, .slice none 0 0, .slice none 0 0, .slice none 0 0] 35)) c4 (knH.cells nil0 (.slice (some ⟨W.heap.size + 1, 0, none⟩) 9 9)) 32 := ((((((b4.set n04 _).set n14 _).set n24 _).set n34 _).setAt 11 _).alloc _).alloc _
    have dM : BoxAt (((((((W.setCell ⟨c0, 1, none⟩ (.int .u8 1)).setCell ⟨c1, 13, none⟩ (.int .i64 33)).setCell ⟨c2, 8, none⟩ (.int .u8 3)).setCell ⟨c3, 10, none⟩ (.slice (some ⟨W.heap.size, 0, none⟩) 1 1)).setCell ⟨c4, 11, none⟩ (.slice (some ⟨W.heap.size + 1, 0, none⟩) 9 9)).alloc (.cells #[.bool true, .int .u8 2, .int .u16 1] 34)).alloc (.cells #[.slice none 0 0, .slice none 0 0, .slice none 0 0, .slice none 0 0, .slice none 0 0, .slice none 0 0, .slice none 0 0, .slice none 0 0, .slice none 0 0] 35)) W.heap.size #[.bool true, .int .u8 2, .int .u16 1] 34 := (BoxAt.new' _ _ _ _ (by simp)).alloc _
    have dN : BoxAt (((((((W.setCell ⟨c0, 1, none⟩ (.int .u8 1)).setCell ⟨c1, 13, none⟩ (.int .i64 33)).setCell ⟨c2, 8, none⟩ (.int .u8 3)).setCell ⟨c3, 10, none⟩ (.slice (some ⟨W.heap.size, 0, none⟩) 1 1)).setCell ⟨c4, 11, none⟩ (.slice (some ⟨W.heap.size + 1, 0, none⟩) 9 9)).alloc (.cells #[.bool true, .int .u8 2, .int .u16 1] 34)).alloc (.cells #[.slice none 0 0, .slice none 0 0, .slice none 0 0, .slice none 0 0, .slice none 0 0, .slice none 0 0, .slice none 0 0, .slice none 0 0, .slice none 0 0] 35)) (W.heap.size + 1) #[.slice none 0 0, .slice none 0 0, .slice none 0 0, .slice none 0 0, .slice none 0 0, .slice none 0 0, .slice none 0 0, .slice none 0 0, .slice none 0 0] 35 := BoxAt.new' _ _ _ _ (by simp)
    have zX : (((((((W.setCell ⟨c0, 1, none⟩ (.int .u8 1)).setCell ⟨c1, 13, none⟩ (.int .i64 33)).setCell ⟨c2, 8, none⟩ (.int .u8 3)).setCell ⟨c3, 10, none⟩ (.slice (some ⟨W.heap.size, 0, none⟩) 1 1)).setCell ⟨c4, 11, none⟩ (.slice (some ⟨W.heap.size + 1, 0, none⟩) 9 9)).alloc (.cells #[.bool true, .int .u8 2, .int .u16 1] 34)).alloc (.cells #[.slice none 0 0, .slice none 0 0, .slice none 0 0, .slice none 0 0, .slice none 0 0, .slice none 0 0, .slice none 0 0, .slice none 0 0, .slice none 0 0] 35)).heap.size = W.heap.size + 2 := by simp
    generalize (((((((W.setCell ⟨c0, 1, none⟩ (.int .u8 1)).setCell ⟨c1, 13, none⟩ (.int .i64 33)).setCell ⟨c2, 8, none⟩ (.int .u8 3)).setCell ⟨c3, 10, none⟩ (.slice (some ⟨W.heap.size, 0, none⟩) 1 1)).setCell ⟨c4, 11, none⟩ (.slice (some ⟨W.heap.size + 1, 0, none⟩) 9 9)).alloc (.cells #[.bool true, .int .u8 2, .int .u16 1] 34)).alloc (.cells #[.slice none 0 0, .slice none 0 0, .slice none 0 0, .slice none 0 0, .slice none 0 0, .slice none 0 0, .slice none 0 0, .slice none 0 0, .slice none 0 0] 35)) = X at hX d0 d1 d2 d3 d4 dM dN zX ⊢
    clear b0 b1 b2 b3 b4 k0 k1 k2 k3 k4 f0 f1 f2 f3 f4 mk9
    have eD : EvAt X (knD.val nil0 nil0) knD := ⟨_, _, rfl, RdM.nil _, RdR.nil _⟩
    have eE : EvAt X (knE.val nil0 nil0) knE := ⟨_, _, rfl, RdM.nil _, RdR.nil _⟩
    have eF : EvAt X (knF.val nil0 nil0) knF := ⟨_, _, rfl, RdM.nil _, RdR.nil _⟩
    have eG : EvAt X (knG.val (.slice (some ⟨W.heap.size, 0, none⟩) 1 1) nil0) knG := ⟨_, _, rfl, RdM.of_block (l := knG.txn) dM rfl (by decide), RdR.nil _⟩
    have eH : EvAt X (knH.val nil0 (.slice (some ⟨W.heap.size + 1, 0, none⟩) 9 9)) knH := ⟨_, _, rfl, RdM.nil _, RdR.of_block (ls := knH.reads) (vs := [.slice none 0 0, .slice none 0 0, .slice none 0 0, .slice none 0 0, .slice none 0 0, .slice none 0 0, .slice none 0 0, .slice none 0 0, .slice none 0 0]) dN rfl rfl (fun i l u hl hu => by
      have h1 : l = [] := List.eq_of_mem_replicate (show l ∈ List.replicate 9 ([] : List Nat) from List.mem_of_getElem? hl)
      have h2 : u = nil0 := List.eq_of_mem_replicate (show u ∈ List.replicate 9 nil0 from List.mem_of_getElem? hu)
      subst h1
      subst h2
      exact ⟨none, 0, rfl, Nat.le_refl _, by decide, .inl rfl⟩) (by decide)⟩
    clear dM dN
    have hCX := hC.fr hX
    refine wp_region_boxes (n := 2) (e := fun k => [106, 107].getD k 0) (p := fun k => [9, 10].getD k 0) (v := fun k => [knC.cells nil0 (.slice (some ⟨w.heap.size + 1 + 1 + 1 + 1, 0, none⟩) 1 1), cfgEv.cells nil0 nil0].getD k #[]) (Z := Ev.zero.cells nil0 nil0) (T := 32) (by kernel_rfl) rfl
      (fun i j hi hj => (show ∀ i, i < 2 → ∀ j, j < 2 → i ≠ j → ([106, 107] : List Nat).getD i 0 ≠ ([106, 107] : List Nat).getD j 0 by decide) i hi j hj)
      (fun i j hi hj => (show ∀ i, i < 2 → ∀ j, j < 2 → i ≠ j → ([9, 10] : List Nat).getD i 0 ≠ ([9, 10] : List Nat).getD j 0 by decide) i hi j hj)
      (fun i j hi hj => (show ∀ i, i < 2 → ∀ j, j < 2 → ([106, 107] : List Nat).getD i 0 ≠ ([9, 10] : List Nat).getD j 0 by decide) i hi j hj) ?hlt2 ?hev2 ?hal2 ?hst2 ?hw2 (fun l hl hr => ready_done (by kernel_rfl) hl hr) ?h2
    case hlt2 =>
      intro i hi
      rcases (show i = 0 ∨ i = 1 by omega) with rfl | rfl <;> exact ⟨by simp, by simp⟩
    case hw2 =>
      intro i hi l h
      rcases (show i = 0 ∨ i = 1 by omega) with rfl | rfl <;> exact ⟨ready_waits h (by kernel_rfl), ready_waits h (by kernel_rfl)⟩
    case hst2 =>
      intro i hi K q W b hp he hB hK
      rcases (show i = 0 ∨ i = 1 by omega) with rfl | rfl
      · exact wpOp_lay rfl rfl 32 (.tmp 9) (.tmp 106) rfl b _ (knC.cells nil0 (.slice (some ⟨w.heap.size + 1 + 1 + 1 + 1, 0, none⟩) 1 1)) (eval_of hp) (eval_of he) hB Tryd.infoEv rfl (Ev.oneCell knC none (some ⟨w.heap.size + 1 + 1 + 1 + 1, 0, none⟩) 0 0 1 1) rfl hK
      · exact wpOp_lay rfl rfl 32 (.tmp 10) (.tmp 107) rfl b _ (cfgEv.cells nil0 nil0) (eval_of hp) (eval_of he) hB Tryd.infoEv rfl (Ev.oneCell cfgEv none none 0 0 0 0) rfl hK
    case hal2 =>
      intro i hi K q W hK
      rcases (show i = 0 ∨ i = 1 by omega) with rfl | rfl <;> exact wpOp_run rfl rfl _ _ (alloc_ev _ _ _ rfl) hK
    case hev2 =>
      intro i hi K q W hfW hK ho
      rcases (show i = 0 ∨ i = 1 by omega) with rfl | rfl
      · exact wpOp_run rfl rfl _ _ (run_load_box 32 (.tmp 3) rfl (w.heap.size + 1 + 1 + 1 + 1 + 1) (eval_of ((ho 3 (by decide)).trans rfl)) _ (hCX.fr hfW) _ Tryd.underlying32 rfl Tryd.infoEv) (hK _ (Fr.refl W))
      · exact wpOp_enter rfl rfl 10 #[] (enter_cfg _ _ _ rfl) _ ((lConfig_c _).mono fun e w' ⟨he, hf⟩ => ⟨he, hK w' hf⟩)
    case h2 =>
      intro b V hfV hbox hinj
      have b5 : BoxAt V (b 0) (knC.cells nil0 (.slice (some ⟨w.heap.size + 1 + 1 + 1 + 1, 0, none⟩) 1 1)) 32 := (hbox 0 (by omega)).1
      have b6 : BoxAt V (b 1) (cfgEv.cells nil0 nil0) 32 := (hbox 1 (by omega)).1
      have g5 := (hbox 0 (by omega)).2
      have g6 := (hbox 1 (by omega)).2
      have n56 := hinj 0 1 (by omega) (by omega) (by omega)
      clear hbox hinj
      simp only [laidT, List.getD_cons_zero, List.getD_cons_succ, List.setIfInBounds_toArray, List.set_cons_succ, List.set_cons_zero]
      generalize b 0 = c5 at b5 g5 n56 ⊢
      generalize b 1 = c6 at b6 g6 n56 ⊢
      have m56 := Ne.symm n56
      have k5 : V.cell? ⟨c5, 11, none⟩ = some (.slice (some ⟨w.heap.size + 1 + 1 + 1 + 1, 0, none⟩) 1 1) := b5.at 11 rfl
      have k6 : V.cell? ⟨c6, 15, none⟩ = some (.int .i64 1000) := b6.at 15 rfl
      have f5 := b5.free 11
      have f6 := b6.free 15
      have z5 := b5.lt
      have z6 := b6.lt
      have mk33 := fun W' : World => (show (Instr.makeSlice 35 (.int .i64 33) (.int .i64 33)).run Tryd.prog W' = .ok (.slice (some ⟨W'.heap.size, 0, none⟩) 33 33) (W'.alloc (.cells #[.int .u16 0, .int .u16 0, .int .u16 0, .int .u16 0, .int .u16 0, .int .u16 0, .int .u16 0, .int .u16 0, .int .u16 0, .int .u16 0, .int .u16 0, .int .u16 0, .int .u16 0, .int .u16 0, .int .u16 0, .int .u16 0, .int .u16 0, .int .u16 0, .int .u16 0, .int .u16 0, .int .u16 0, .int .u16 0, .int .u16 0, .int .u16 0, .int .u16 0, .int .u16 0, .int .u16 0, .int .u16 0, .int .u16 0, .int .u16 0, .int .u16 0, .int .u16 0, .int .u16 0] 22)) by kernel_rfl)
      have a1 := hX.size
      have a2 := hfV.size
      have s0 := d0.lt
      have s1 := d1.lt
      have s2 := d2.lt
      have s3 := d3.lt
      have s4 := d4.lt
      have hXY : Fr X ((((V.setCell ⟨c5, 11, none⟩ (.slice (some ⟨V.heap.size + 1, 0, none⟩) 1 1)).setCell ⟨c6, 15, none⟩ (.int .i64 0)).alloc (.cells #[.int .u16 0, .int .u16 0, .int .u16 0, .int .u16 0, .int .u16 0, .int .u16 0, .int .u16 0, .int .u16 0, .int .u16 0, .int .u16 0, .int .u16 0, .int .u16 0, .int .u16 0, .int .u16 0, .int .u16 0, .int .u16 0, .int .u16 0, .int .u16 0, .int .u16 0, .int .u16 0, .int .u16 0, .int .u16 0, .int .u16 0, .int .u16 0, .int .u16 0, .int .u16 0, .int .u16 0, .int .u16 0, .int .u16 0, .int .u16 0, .int .u16 0, .int .u16 0, .int .u16 0] 22)).alloc (.cells #[.slice (some ⟨V.heap.size, 0, none⟩) 33 33] 35)) := ((((hfV).setCell (p := ⟨c5, 11, none⟩) (by simp; omega) _).setCell (p := ⟨c6, 15, none⟩) (by simp; omega) _).alloc _).alloc _
      have y5 : BoxAt ((((V.setCell ⟨c5, 11, none⟩ (.slice (some ⟨V.heap.size + 1, 0, none⟩) 1 1)).setCell ⟨c6, 15, none⟩ (.int .i64 0)).alloc (.cells #[.int .u16 0, .int .u16 0, .int .u16 0, .int .u16 0, .int .u16 0, .int .u16 0, .int .u16 0, .int .u16 0, .int .u16 0, .int .u16 0, .int .u16 0, .int .u16 0, .int .u16 0, .int .u16 0, .int .u16 0, .int .u16 0, .int .u16 0, .int .u16 0, .int .u16 0, .int .u16 0, .int .u16 0, .int .u16 0, .int .u16 0, .int .u16 0, .int .u16 0, .int .u16 0, .int .u16 0, .int .u16 0, .int .u16 0, .int .u16 0, .int .u16 0, .int .u16 0, .int .u16 0] 22)).alloc (.cells #[.slice (some ⟨V.heap.size, 0, none⟩) 33 33] 35)) c5 (knI.cells nil0 (.slice (some ⟨V.heap.size + 1, 0, none⟩) 1 1)) 32 := (((b5.setAt 11 _).set m56 _).alloc _).alloc _
      have y6 : BoxAt ((((V.setCell ⟨c5, 11, none⟩ (.slice (some ⟨V.heap.size + 1, 0, none⟩) 1 1)).setCell ⟨c6, 15, none⟩ (.int .i64 0)).alloc (.cells #[.int .u16 0, .int .u16 0, .int .u16 0, .int .u16 0, .int .u16 0, .int .u16 0, .int .u16 0, .int .u16 0, .int .u16 0, .int .u16 0, .int .u16 0, .int .u16 0, .int .u16 0, .int .u16 0, .int .u16 0, .int .u16 0, .int .u16 0, .int .u16 0, .int .u16 0, .int .u16 0, .int .u16 0, .int .u16 0, .int .u16 0, .int .u16 0, .int .u16 0, .int .u16 0, .int .u16 0, .int .u16 0, .int .u16 0, .int .u16 0, .int .u16 0, .int .u16 0, .int .u16 0] 22)).alloc (.cells #[.slice (some ⟨V.heap.size, 0, none⟩) 33 33] 35)) c6 (knK.cells nil0 nil0) 32 := (((b6.set n56 _).setAt 15 _).alloc _).alloc _
      have yU : BoxAt ((((V.setCell ⟨c5, 11, none⟩ (.slice (some ⟨V.heap.size + 1, 0, none⟩) 1 1)).setCell ⟨c6, 15, none⟩ (.int .i64 0)).alloc (.cells #[.int .u16 0, .int .u16 0, .int .u16 0, .int .u16 0, .int .u16 0, .int .u16 0, .int .u16 0, .int .u16 0, .int .u16 0, .int .u16 0, .int .u16 0, .int .u16 0, .int .u16 0, .int .u16 0, .int .u16 0, .int .u16 0, .int .u16 0, .int .u16 0, .int .u16 0, .int .u16 0, .int .u16 0, .int .u16 0, .int .u16 0, .int .u16 0, .int .u16 0, .int .u16 0, .int .u16 0, .int .u16 0, .int .u16 0, .int .u16 0, .int .u16 0, .int .u16 0, .int .u16 0] 22)).alloc (.cells #[.slice (some ⟨V.heap.size, 0, none⟩) 33 33] 35)) V.heap.size #[.int .u16 0, .int .u16 0, .int .u16 0, .int .u16 0, .int .u16 0, .int .u16 0, .int .u16 0, .int .u16 0, .int .u16 0, .int .u16 0, .int .u16 0, .int .u16 0, .int .u16 0, .int .u16 0, .int .u16 0, .int .u16 0, .int .u16 0, .int .u16 0, .int .u16 0, .int .u16 0, .int .u16 0, .int .u16 0, .int .u16 0, .int .u16 0, .int .u16 0, .int .u16 0, .int .u16 0, .int .u16 0, .int .u16 0, .int .u16 0, .int .u16 0, .int .u16 0, .int .u16 0] 22 := (BoxAt.new' _ _ _ _ (by simp)).alloc _
      have yS : BoxAt ((((V.setCell ⟨c5, 11, none⟩ (.slice (some ⟨V.heap.size + 1, 0, none⟩) 1 1)).setCell ⟨c6, 15, none⟩ (.int .i64 0)).alloc (.cells #[.int .u16 0, .int .u16 0, .int .u16 0, .int .u16 0, .int .u16 0, .int .u16 0, .int .u16 0, .int .u16 0, .int .u16 0, .int .u16 0, .int .u16 0, .int .u16 0, .int .u16 0, .int .u16 0, .int .u16 0, .int .u16 0, .int .u16 0, .int .u16 0, .int .u16 0, .int .u16 0, .int .u16 0, .int .u16 0, .int .u16 0, .int .u16 0, .int .u16 0, .int .u16 0, .int .u16 0, .int .u16 0, .int .u16 0, .int .u16 0, .int .u16 0, .int .u16 0, .int .u16 0] 22)).alloc (.cells #[.slice (some ⟨V.heap.size, 0, none⟩) 33 33] 35)) (V.heap.size + 1) #[.slice (some ⟨V.heap.size, 0, none⟩) 33 33] 35 := BoxAt.new' _ _ _ _ (by simp)
      have y0 := d0.fr hXY
      have rU := Rd16.of_block (l := [0, 0, 0, 0, 0, 0, 0, 0, 0, 0, 0, 0, 0, 0, 0, 0, 0, 0, 0, 0, 0, 0, 0, 0, 0, 0, 0, 0, 0, 0, 0, 0, 0]) yU rfl (by decide)
      have eI : EvAt ((((V.setCell ⟨c5, 11, none⟩ (.slice (some ⟨V.heap.size + 1, 0, none⟩) 1 1)).setCell ⟨c6, 15, none⟩ (.int .i64 0)).alloc (.cells #[.int .u16 0, .int .u16 0, .int .u16 0, .int .u16 0, .int .u16 0, .int .u16 0, .int .u16 0, .int .u16 0, .int .u16 0, .int .u16 0, .int .u16 0, .int .u16 0, .int .u16 0, .int .u16 0, .int .u16 0, .int .u16 0, .int .u16 0, .int .u16 0, .int .u16 0, .int .u16 0, .int .u16 0, .int .u16 0, .int .u16 0, .int .u16 0, .int .u16 0, .int .u16 0, .int .u16 0, .int .u16 0, .int .u16 0, .int .u16 0, .int .u16 0, .int .u16 0, .int .u16 0] 22)).alloc (.cells #[.slice (some ⟨V.heap.size, 0, none⟩) 33 33] 35)) (knI.val nil0 (.slice (some ⟨V.heap.size + 1, 0, none⟩) 1 1)) knI := ⟨_, _, rfl, RdM.nil _, RdR.of_block (ls := knI.reads) (vs := [.slice (some ⟨V.heap.size, 0, none⟩) 33 33]) yS rfl rfl (fun i l u hl hu => by
        match i, hl, hu with
        | 0, hl, hu =>
          have h1 := Option.some.inj hl
          have h2 := Option.some.inj hu
          subst h1
          subst h2
          exact rU
        | k + 1, hl, hu => simp at hu) (by decide)⟩
      go_wp2_with ((with_reducible refine wpList_here (.load 32 (.tmp 4)) rfl ?_); refine wpList_load_box 32 (.tmp 4) rfl _ rfl _ y0 _ Tryd.underlying32 rfl Tryd.infoEv rfl ?_)
      generalize ((((V.setCell ⟨c5, 11, none⟩ (.slice (some ⟨V.heap.size + 1, 0, none⟩) 1 1)).setCell ⟨c6, 15, none⟩ (.int .i64 0)).alloc (.cells #[.int .u16 0, .int .u16 0, .int .u16 0, .int .u16 0, .int .u16 0, .int .u16 0, .int .u16 0, .int .u16 0, .int .u16 0, .int .u16 0, .int .u16 0, .int .u16 0, .int .u16 0, .int .u16 0, .int .u16 0, .int .u16 0, .int .u16 0, .int .u16 0, .int .u16 0, .int .u16 0, .int .u16 0, .int .u16 0, .int .u16 0, .int .u16 0, .int .u16 0, .int .u16 0, .int .u16 0, .int .u16 0, .int .u16 0, .int .u16 0, .int .u16 0, .int .u16 0, .int .u16 0] 22)).alloc (.cells #[.slice (some ⟨V.heap.size, 0, none⟩) 33 33] 35)) = Y at hXY y5 y6 eI ⊢
      clear k5 k6 f5 f6 mk33 yU yS rU y0
      have hY := h6.trans (hX.trans hXY)
      have hz := Fr.refl Y
      refine (N_knD.out _ _ (hY.trans hz) (eD.keep (hXY.trans hz))).mono ?_
      rintro e ww1 ⟨rfl, hb⟩
      have hz := hz.trans hb
      clear hb
      go_wp2_with ((with_reducible refine wpList_here (.load 32 (.tmp 5)) rfl ?_); refine wpList_load_box 32 (.tmp 5) rfl _ rfl _ ((d1.fr hXY).fr hz) _ Tryd.underlying32 rfl Tryd.infoEv rfl ?_)
      refine (N_knE.out _ _ (hY.trans hz) (eE.keep (hXY.trans hz))).mono ?_
      rintro e ww2 ⟨rfl, hb⟩
      have hz := hz.trans hb
      clear hb
      go_wp2_with ((with_reducible refine wpList_here (.load 32 (.tmp 6)) rfl ?_); refine wpList_load_box 32 (.tmp 6) rfl _ rfl _ ((d2.fr hXY).fr hz) _ Tryd.underlying32 rfl Tryd.infoEv rfl ?_)
      refine (N_knF.out _ _ (hY.trans hz) (eF.keep (hXY.trans hz))).mono ?_
      rintro e ww3 ⟨rfl, hb⟩
      have hz := hz.trans hb
      clear hb
      go_wp2_with ((with_reducible refine wpList_here (.load 32 (.tmp 7)) rfl ?_); refine wpList_load_box 32 (.tmp 7) rfl _ rfl _ ((d3.fr hXY).fr hz) _ Tryd.underlying32 rfl Tryd.infoEv rfl ?_)
      refine (N_knG.out _ _ (hY.trans hz) (eG.keep (hXY.trans hz))).mono ?_
      rintro e ww4 ⟨rfl, hb⟩
      have hz := hz.trans hb
      clear hb
      go_wp2_with ((with_reducible refine wpList_here (.load 32 (.tmp 8)) rfl ?_); refine wpList_load_box 32 (.tmp 8) rfl _ rfl _ ((d4.fr hXY).fr hz) _ Tryd.underlying32 rfl Tryd.infoEv rfl ?_)
      refine (N_knH.out _ _ (hY.trans hz) (eH.keep (hXY.trans hz))).mono ?_
      rintro e ww5 ⟨rfl, hb⟩
      have hz := hz.trans hb
      clear hb
      go_wp2_with ((with_reducible refine wpList_here (.load 32 (.tmp 9)) rfl ?_); refine wpList_load_box 32 (.tmp 9) rfl _ rfl _ (y5.fr hz) _ Tryd.underlying32 rfl Tryd.infoEv rfl ?_)
      refine (N_knI.out _ _ (hY.trans hz) (eI.keep hz)).mono ?_
      rintro e ww6 ⟨rfl, hb⟩
      have hz := hz.trans hb
      clear hb
      go_wp2_with ((with_reducible refine wpList_here (.load 32 (.tmp 10)) rfl ?_); refine wpList_load_box 32 (.tmp 10) rfl _ rfl _ (y6.fr hz) _ Tryd.underlying32 rfl Tryd.infoEv rfl ?_)
      refine (N_knK.out (knK.val nil0 nil0) _ (hY.trans hz) ⟨_, _, rfl, RdM.nil _, RdR.nil _⟩).mono ?_
      rintro e ww7 ⟨rfl, hb⟩
      have hz := hz.trans hb
      clear hb
      go_wp2_with fail
      refine (N_kn0.out (kn0.val nil0 nil0) _ (hY.trans hz) ⟨_, _, rfl, RdM.nil _, RdR.nil _⟩).mono ?_
      rintro e ww8 ⟨rfl, hb⟩
      have hz := hz.trans hb
      clear hb
      go_wp2_with fail
      refine (N_kn8.out (kn8.val nil0 nil0) _ (hY.trans hz) ⟨_, _, rfl, RdM.nil _, RdR.nil _⟩).mono ?_
      rintro e ww9 ⟨rfl, hb⟩
      have hz := hz.trans hb
      clear hb
      go_wp2_with fail
      refine (N_kn16.out (kn16.val nil0 nil0) _ (hY.trans hz) ⟨_, _, rfl, RdM.nil _, RdR.nil _⟩).mono ?_
      rintro e ww10 ⟨rfl, hb⟩
      have hz := hz.trans hb
      clear hb
      go_wp2_with fail
      refine (N_knO.out (knO.val nil0 nil0) _ (hY.trans hz) ⟨_, _, rfl, RdM.nil _, RdR.nil _⟩).mono ?_
      rintro e ww11 ⟨rfl, hb⟩
      have hz := hz.trans hb
      clear hb
      have mkT := fun W' : World => (show (Instr.makeSlice 27 (.int .i64 9) (.int .i64 9)).run Tryd.prog W' = .ok (.slice (some ⟨W'.heap.size, 0, none⟩) 9 9) (W'.alloc (.cells #[.bool false, .int .u8 0, .int .u16 0, .bool false, .int .u8 0, .int .u16 0, .bool false, .int .u8 0, .int .u16 0, .bool false, .int .u8 0, .int .u16 0, .bool false, .int .u8 0, .int .u16 0, .bool false, .int .u8 0, .int .u16 0, .bool false, .int .u8 0, .int .u16 0, .bool false, .int .u8 0, .int .u16 0, .bool false, .int .u8 0, .int .u16 0] 34)) by kernel_rfl)
      go_wp2_with fail
      have hza := hz.alloc (.cells #[.bool false, .int .u8 0, .int .u16 0, .bool false, .int .u8 0, .int .u16 0, .bool false, .int .u8 0, .int .u16 0, .bool false, .int .u8 0, .int .u16 0, .bool false, .int .u8 0, .int .u16 0, .bool false, .int .u8 0, .int .u16 0, .bool false, .int .u8 0, .int .u16 0, .bool false, .int .u8 0, .int .u16 0, .bool false, .int .u8 0, .int .u16 0] 34)
      refine (N_knT.out (knT.val (.slice (some ⟨_, 0, none⟩) 9 9) nil0) _ (hY.trans hza) ⟨_, _, rfl, RdM.of_block (l := knT.txn) (BoxAt.new _ _ _) rfl (by decide), RdR.nil _⟩).mono ?_
      rintro e yT ⟨rfl, hb⟩
      have hz := hza.trans hb
      clear hb hza mkT
      go_wp2_with fail
      refine (HAW.out _ (hY.trans hz)).mono ?_
      rintro e ww12 ⟨rfl, hb⟩
      have hz := hz.trans hb
      clear hb
      go_wp2_with fail
      go_ret
      exact ⟨rfl, hY.trans hz⟩
end Go.Proofs.YtdjjjnoecfbjeaaDoor
