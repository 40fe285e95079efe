/- text.config, text.micros: the words of a config, of a transaction. No condition but the tables' content and the numbers' bounds. Printed by gen_txtcfg.py. -/
import Derived.Test.YtfklgaeejmeipaaGreatDoorPItoa
import Derived.Test.YtfklgaeejmeipaaGreatDoorPTxtRow
import Derived.Test.YtfklgaeejmeipaaGreatDoorPTxtEnv
import Derived.Test.YtfklgaeejmeipaaGreatDoorPArms
set_option linter.all false
set_option linter.unusedVariables false
set_option linter.unusedSimpArgs false
set_option linter.unnecessarySimpa false
/- text.config, text.micros: the words of a config, of a transaction. No condition but the tables' content and the numbers' bounds. Printed by gen_txtcfg.py. -/
namespace Go.Proofs.YtfklgaeejmeipaaGreatDoor
open Go.RowKit

def cfgPr (W0 : World) (B m n1 n2 n3 : Nat) (j : Nat) (w : World) (v : Value) : Prop := match j with
  | 0 => v = (.pointer (some ⟨B, 0, none⟩))
  | 1 => v = (.int .u8 (m : Nat))
  | 2 => v = (.pointer (some ⟨1, m, none⟩))
  | 3 => v = (.string ⟨(modelW m).toArray⟩)
  | 4 => v = (.pointer (some ⟨B, 1, none⟩))
  | 5 => v = (.int .i64 (n1 : Nat))
  | 6 => v = (.string ⟨(Lib.decDigits n1).toArray⟩)
  | 7 => v = (.pointer (some ⟨B, 2, none⟩))
  | 8 => v = (.int .i64 (n2 : Nat))
  | 9 => v = (.string ⟨(Lib.decDigits n2).toArray⟩)
  | 10 => v = (.pointer (some ⟨B, 3, none⟩))
  | 11 => v = (.int .i64 (n3 : Nat))
  | 12 => v = (.string ⟨(Lib.decDigits n3).toArray⟩)
  | 13 => RowS W0 w v [modelW m, Lib.decDigits n1, Lib.decDigits n2, Lib.decDigits n3]
  | _ => True
theorem cfgPr_fr (W0 : World) (B m n1 n2 n3 : Nat) (j : Nat) (w w' : World) (v : Value) (f : Fr w w') (h : cfgPr W0 B m n1 n2 n3 j w v) : cfgPr W0 B m n1 n2 n3 j w' v := by
  exact match j, h with
  | 0, h => h
  | 1, h => h
  | 2, h => h
  | 3, h => h
  | 4, h => h
  | 5, h => h
  | 6, h => h
  | 7, h => h
  | 8, h => h
  | 9, h => h
  | 10, h => h
  | 11, h => h
  | 12, h => h
  | 13, h => h.fr f
  | _ + 14, _ => trivial
def Cfg.val (c : Cfg) : Value := .agg #[.int .u8 c.model, .int .i64 c.opens, .int .i64 c.states, .int .i64 c.steps, .bool c.part, .bool c.cut, .bool c.memo]
set_option maxRecDepth 100000 in
set_option maxHeartbeats 1000000 in
theorem config_c0 (m n1 n2 n3 : Nat) (p c q : Bool) (w : World) (hE : EnvT w) (hm : m < 5) (h1 : n1 < 9223372036854775807) (h2 : n2 < 9223372036854775807) (h3 : n3 < 9223372036854775807) :
    Calls Tryz.prog 28 #[.agg #[.int .u8 m, .int .i64 n1, .int .i64 n2, .int .i64 n3, .bool p, .bool c, .bool q]] w (RetS w (((([modelW m, Lib.decDigits n1, Lib.decDigits n2, Lib.decDigits n3] ++ flagW p partitionW) ++ flagW c cutW) ++ flagW q memoW))) := by
  have hf0 := (Fr.refl w).alloc (.cells #[.int .u8 m, .int .i64 n1, .int .i64 n2, .int .i64 n3, .bool p, .bool c, .bool q] 30)
  have HT := Lib.hid (fun (n : Nat) (hn : n < 9223372036854775807) W (f : Fr (w.alloc (.cells #[.int .u8 m, .int .i64 n1, .int .i64 n2, .int .i64 n3, .bool p, .bool c, .bool q] 30)) W) => numI_c n W (hE.toEnv0.keep (hf0.trans f)) hn)
  have gm := hf0.keep (hE.modelsT m hm)
  have hBx := BoxAt.new' w #[.int .u8 m, .int .i64 n1, .int .i64 n2, .int .i64 n3, .bool p, .bool c, .bool q] 30 _ rfl
  have k0 : (w.alloc (.cells #[.int .u8 m, .int .i64 n1, .int .i64 n2, .int .i64 n3, .bool p, .bool c, .bool q] 30)).cell? ⟨w.heap.size, 0, none⟩ = some (.int .u8 m) := hBx.at 0 rfl
  have k1 : (w.alloc (.cells #[.int .u8 m, .int .i64 n1, .int .i64 n2, .int .i64 n3, .bool p, .bool c, .bool q] 30)).cell? ⟨w.heap.size, 1, none⟩ = some (.int .i64 n1) := hBx.at 1 rfl
  have k2 : (w.alloc (.cells #[.int .u8 m, .int .i64 n1, .int .i64 n2, .int .i64 n3, .bool p, .bool c, .bool q] 30)).cell? ⟨w.heap.size, 2, none⟩ = some (.int .i64 n2) := hBx.at 2 rfl
  have k3 : (w.alloc (.cells #[.int .u8 m, .int .i64 n1, .int .i64 n2, .int .i64 n3, .bool p, .bool c, .bool q] 30)).cell? ⟨w.heap.size, 3, none⟩ = some (.int .i64 n3) := hBx.at 3 rfl
  have k4 : (w.alloc (.cells #[.int .u8 m, .int .i64 n1, .int .i64 n2, .int .i64 n3, .bool p, .bool c, .bool q] 30)).cell? ⟨w.heap.size, 4, none⟩ = some (.bool p) := hBx.at 4 rfl
  have k5 : (w.alloc (.cells #[.int .u8 m, .int .i64 n1, .int .i64 n2, .int .i64 n3, .bool p, .bool c, .bool q] 30)).cell? ⟨w.heap.size, 5, none⟩ = some (.bool c) := hBx.at 5 rfl
  have k6 : (w.alloc (.cells #[.int .u8 m, .int .i64 n1, .int .i64 n2, .int .i64 n3, .bool p, .bool c, .bool q] 30)).cell? ⟨w.heap.size, 6, none⟩ = some (.bool q) := hBx.at 6 rfl
  have HF := Lib.hid hf0
  clear hBx hE hf0
  go_enter Tryz.func28, Tryz.ntmps28
  go_wp2_with fail
  refine wp_region_preds_tail (m := 14) (g := 1) (d := fun j => 4 + j) (Pr := cfgPr (w.alloc (.cells #[.int .u8 m, .int .i64 n1, .int .i64 n2, .int .i64 n3, .bool p, .bool c, .bool q] 30)) w.heap.size m n1 n2 n3) (by kernel_rfl) rfl (by omega) (by kernel_rfl) (by kernel_rfl) (by kernel_rfl) (by kernel_rfl) (fun i j hi hj hne h => by have h : 4 + i = 4 + j := h; omega) (fun j hj => by show 4 + j < _; simp; omega) (fun j hj w w' v f h => cfgPr_fr _ _ _ _ _ _ j w w' v f h) ?hop ?hend
  case hop =>
    intro j hj K a w' hf hw ho hK
    rcases (show j = 0 ∨ j = 1 ∨ j = 2 ∨ j = 3 ∨ j = 4 ∨ j = 5 ∨ j = 6 ∨ j = 7 ∨ j = 8 ∨ j = 9 ∨ j = 10 ∨ j = 11 ∨ j = 12 ∨ j = 13 by omega) with rfl | rfl | rfl | rfl | rfl | rfl | rfl | rfl | rfl | rfl | rfl | rfl | rfl | rfl
    · -- 0
      have e1 : a.tmps[1]? = some (.pointer (some ⟨w.heap.size, 0, none⟩)) := (ho 1 (fun j hj => by show 1 ≠ 4 + j; omega)).trans rfl
      exact wpOp_runT rfl (wanted_plain rfl _) (.pointer (some ⟨w.heap.size, 0, none⟩)) w' (by unfold execOp; simp [go_sem, e1]) (hK _ w' (Fr.refl _) rfl)
    · -- 1
      obtain ⟨v4, (e4 : a.tmps[4]? = _), (q4 : v4 = (.pointer (some ⟨w.heap.size, 0, none⟩)))⟩ := hw 0 (by omega) (by kernel_rfl); rw [q4] at e4; clear q4
      have c0 := hf.keep k0
      exact wpOp_runT rfl (wanted_plain rfl _) (.int .u8 (m : Nat)) w' (by unfold execOp; simp [go_sem, e4, c0]) (hK _ w' (Fr.refl _) rfl)
    · -- 2
      obtain ⟨v5, (e5 : a.tmps[5]? = _), (q5 : v5 = (.int .u8 (m : Nat)))⟩ := hw 1 (by omega) (by kernel_rfl); rw [q5] at e5; clear q5
      have c0 := (show ¬ (5 : Int) ≤ m by omega)
      exact wpOp_runT rfl (wanted_plain rfl _) (.pointer (some ⟨1, m, none⟩)) w' (by unfold execOp; simp [go_sem, e5, c0]) (hK _ w' (Fr.refl _) rfl)
    · -- 3
      obtain ⟨v6, (e6 : a.tmps[6]? = _), (q6 : v6 = (.pointer (some ⟨1, m, none⟩)))⟩ := hw 2 (by omega) (by kernel_rfl); rw [q6] at e6; clear q6
      have c0 := hf.keep gm
      exact wpOp_runT rfl (wanted_plain rfl _) (.string ⟨(modelW m).toArray⟩) w' (by unfold execOp; simp [go_sem, e6, c0]) (hK _ w' (Fr.refl _) rfl)
    · -- 4
      have e1 : a.tmps[1]? = some (.pointer (some ⟨w.heap.size, 0, none⟩)) := (ho 1 (fun j hj => by show 1 ≠ 4 + j; omega)).trans rfl
      exact wpOp_runT rfl (wanted_plain rfl _) (.pointer (some ⟨w.heap.size, 1, none⟩)) w' (by unfold execOp; simp [go_sem, e1]) (hK _ w' (Fr.refl _) rfl)
    · -- 5
      obtain ⟨v8, (e8 : a.tmps[8]? = _), (q8 : v8 = (.pointer (some ⟨w.heap.size, 1, none⟩)))⟩ := hw 4 (by omega) (by kernel_rfl); rw [q8] at e8; clear q8
      have c0 := hf.keep k1
      exact wpOp_runT rfl (wanted_plain rfl _) (.int .i64 (n1 : Nat)) w' (by unfold execOp; simp [go_sem, e8, c0]) (hK _ w' (Fr.refl _) rfl)
    · -- 6
      obtain ⟨v9, (e9 : a.tmps[9]? = _), (q9 : v9 = (.int .i64 (n1 : Nat)))⟩ := hw 5 (by omega) (by kernel_rfl); rw [q9] at e9; clear q9
      exact wpOp_enterT rfl (wanted_plain rfl _) 66 #[.int .i64 (n1 : Nat)] (run_call Tryz.func66 (by kernel_rfl) rfl _ _ rfl _ (by simp [Act.eval, e9])) ((HT.out n1 h1 w' hf).mono fun e w2 ⟨he, hw2⟩ => ⟨_, he, hK _ w2 hw2 rfl⟩)
    · -- 7
      have e1 : a.tmps[1]? = some (.pointer (some ⟨w.heap.size, 0, none⟩)) := (ho 1 (fun j hj => by show 1 ≠ 4 + j; omega)).trans rfl
      exact wpOp_runT rfl (wanted_plain rfl _) (.pointer (some ⟨w.heap.size, 2, none⟩)) w' (by unfold execOp; simp [go_sem, e1]) (hK _ w' (Fr.refl _) rfl)
    · -- 8
      obtain ⟨v11, (e11 : a.tmps[11]? = _), (q11 : v11 = (.pointer (some ⟨w.heap.size, 2, none⟩)))⟩ := hw 7 (by omega) (by kernel_rfl); rw [q11] at e11; clear q11
      have c0 := hf.keep k2
      exact wpOp_runT rfl (wanted_plain rfl _) (.int .i64 (n2 : Nat)) w' (by unfold execOp; simp [go_sem, e11, c0]) (hK _ w' (Fr.refl _) rfl)
    · -- 9
      obtain ⟨v12, (e12 : a.tmps[12]? = _), (q12 : v12 = (.int .i64 (n2 : Nat)))⟩ := hw 8 (by omega) (by kernel_rfl); rw [q12] at e12; clear q12
      exact wpOp_enterT rfl (wanted_plain rfl _) 66 #[.int .i64 (n2 : Nat)] (run_call Tryz.func66 (by kernel_rfl) rfl _ _ rfl _ (by simp [Act.eval, e12])) ((HT.out n2 h2 w' hf).mono fun e w2 ⟨he, hw2⟩ => ⟨_, he, hK _ w2 hw2 rfl⟩)
    · -- 10
      have e1 : a.tmps[1]? = some (.pointer (some ⟨w.heap.size, 0, none⟩)) := (ho 1 (fun j hj => by show 1 ≠ 4 + j; omega)).trans rfl
      exact wpOp_runT rfl (wanted_plain rfl _) (.pointer (some ⟨w.heap.size, 3, none⟩)) w' (by unfold execOp; simp [go_sem, e1]) (hK _ w' (Fr.refl _) rfl)
    · -- 11
      obtain ⟨v14, (e14 : a.tmps[14]? = _), (q14 : v14 = (.pointer (some ⟨w.heap.size, 3, none⟩)))⟩ := hw 10 (by omega) (by kernel_rfl); rw [q14] at e14; clear q14
      have c0 := hf.keep k3
      exact wpOp_runT rfl (wanted_plain rfl _) (.int .i64 (n3 : Nat)) w' (by unfold execOp; simp [go_sem, e14, c0]) (hK _ w' (Fr.refl _) rfl)
    · -- 12
      obtain ⟨v15, (e15 : a.tmps[15]? = _), (q15 : v15 = (.int .i64 (n3 : Nat)))⟩ := hw 11 (by omega) (by kernel_rfl); rw [q15] at e15; clear q15
      exact wpOp_enterT rfl (wanted_plain rfl _) 66 #[.int .i64 (n3 : Nat)] (run_call Tryz.func66 (by kernel_rfl) rfl _ _ rfl _ (by simp [Act.eval, e15])) ((HT.out n3 h3 w' hf).mono fun e w2 ⟨he, hw2⟩ => ⟨_, he, hK _ w2 hw2 rfl⟩)
    · -- 13
      obtain ⟨v7, (e7 : a.tmps[7]? = _), (q7 : v7 = (.string ⟨(modelW m).toArray⟩))⟩ := hw 3 (by omega) (by kernel_rfl); rw [q7] at e7; clear q7
      obtain ⟨v10, (e10 : a.tmps[10]? = _), (q10 : v10 = (.string ⟨(Lib.decDigits n1).toArray⟩))⟩ := hw 6 (by omega) (by kernel_rfl); rw [q10] at e10; clear q10
      obtain ⟨v13, (e13 : a.tmps[13]? = _), (q13 : v13 = (.string ⟨(Lib.decDigits n2).toArray⟩))⟩ := hw 9 (by omega) (by kernel_rfl); rw [q13] at e13; clear q13
      obtain ⟨v16, (e16 : a.tmps[16]? = _), (q16 : v16 = (.string ⟨(Lib.decDigits n3).toArray⟩))⟩ := hw 12 (by omega) (by kernel_rfl); rw [q16] at e16; clear q16
      exact wpOp_runT rfl (wanted_plain rfl _) (.slice (some ⟨w'.heap.size, 0, none⟩) 4 4) (w'.alloc (.cells (strCells [modelW m, Lib.decDigits n1, Lib.decDigits n2, Lib.decDigits n3]).toArray 9)) (run_bs 59 9 4 _ rfl [.string ⟨(modelW m).toArray⟩, .string ⟨(Lib.decDigits n1).toArray⟩, .string ⟨(Lib.decDigits n2).toArray⟩, .string ⟨(Lib.decDigits n3).toArray⟩] (by simp [evalOf e7, evalOf e10, evalOf e13, evalOf e16]; try rfl) 1 (by omega) (fun v hv => by simp at hv; rcases hv with rfl | rfl | rfl | rfl <;> rfl) Tryz.underlying59 (by kernel_rfl) rfl (by omega) (by omega)) (hK _ _ ((Fr.refl _).alloc _) (RowS.lit hf [modelW m, Lib.decDigits n1, Lib.decDigits n2, Lib.decDigits n3] (by simp)))
  case hend =>
    intro f w2 hf2 hP
    have hro : RowS (w.alloc (.cells #[.int .u8 m, .int .i64 n1, .int .i64 n2, .int .i64 n3, .bool p, .bool c, .bool q] 30)) w2 (f 13) [modelW m, Lib.decDigits n1, Lib.decDigits n2, Lib.decDigits n3] := hP 13 (by omega)
    clear hP hf2 HT k0 k1 k2 k3 gm
    simp only [laidS, List.setIfInBounds_toArray, List.set_cons_succ, List.set_cons_zero]
    generalize f 13 = v3 at hro
    obtain ⟨a3, l3, rfl, _⟩ := hro.form
    have e4 := hro.frm.keep k4
    cases p
    · have e5 := hro.frm.keep k5
      cases c
      · have e6 := hro.frm.keep k6
        cases q
        · go_wp2_with fail
          go_ret
          exact (hro.down HF.out).ret
        · have hlit := (RowS.lit hro.frm [memoW] (by simp)).rd
          go_wp2_with (at_builtin; refine wpList_appendS rfl (.tmp 30) (.tmp 31) rfl _ _ [memoW] rfl (hro.fr ((Fr.refl _).alloc _)) _ rfl hlit (by simp) ?_)
          intro v6 w6 hro
          obtain ⟨a6, l6, rfl, _⟩ := hro.form
          go_wp2_with fail
          go_ret
          exact (hro.down HF.out).ret
      · have hlit := (RowS.lit hro.frm [cutW] (by simp)).rd
        go_wp2_with (at_builtin; refine wpList_appendS rfl (.tmp 25) (.tmp 26) rfl _ _ [cutW] rfl (hro.fr ((Fr.refl _).alloc _)) _ rfl hlit (by simp) ?_)
        intro v5 w5 hro
        obtain ⟨a5, l5, rfl, _⟩ := hro.form
        have e6 := hro.frm.keep k6
        cases q
        · go_wp2_with fail
          go_ret
          exact (hro.down HF.out).ret
        · have hlit := (RowS.lit hro.frm [memoW] (by simp)).rd
          go_wp2_with (at_builtin; refine wpList_appendS rfl (.tmp 30) (.tmp 31) rfl _ _ [memoW] rfl (hro.fr ((Fr.refl _).alloc _)) _ rfl hlit (by simp) ?_)
          intro v6 w6 hro
          obtain ⟨a6, l6, rfl, _⟩ := hro.form
          go_wp2_with fail
          go_ret
          exact (hro.down HF.out).ret
    · have hlit := (RowS.lit hro.frm [partitionW] (by simp)).rd
      go_wp2_with (at_builtin; refine wpList_appendS rfl (.tmp 20) (.tmp 21) rfl _ _ [partitionW] rfl (hro.fr ((Fr.refl _).alloc _)) _ rfl hlit (by simp) ?_)
      intro v4 w4 hro
      obtain ⟨a4, l4, rfl, _⟩ := hro.form
      have e5 := hro.frm.keep k5
      cases c
      · have e6 := hro.frm.keep k6
        cases q
        · go_wp2_with fail
          go_ret
          exact (hro.down HF.out).ret
        · have hlit := (RowS.lit hro.frm [memoW] (by simp)).rd
          go_wp2_with (at_builtin; refine wpList_appendS rfl (.tmp 30) (.tmp 31) rfl _ _ [memoW] rfl (hro.fr ((Fr.refl _).alloc _)) _ rfl hlit (by simp) ?_)
          intro v6 w6 hro
          obtain ⟨a6, l6, rfl, _⟩ := hro.form
          go_wp2_with fail
          go_ret
          exact (hro.down HF.out).ret
      · have hlit := (RowS.lit hro.frm [cutW] (by simp)).rd
        go_wp2_with (at_builtin; refine wpList_appendS rfl (.tmp 25) (.tmp 26) rfl _ _ [cutW] rfl (hro.fr ((Fr.refl _).alloc _)) _ rfl hlit (by simp) ?_)
        intro v5 w5 hro
        obtain ⟨a5, l5, rfl, _⟩ := hro.form
        have e6 := hro.frm.keep k6
        cases q
        · go_wp2_with fail
          go_ret
          exact (hro.down HF.out).ret
        · have hlit := (RowS.lit hro.frm [memoW] (by simp)).rd
          go_wp2_with (at_builtin; refine wpList_appendS rfl (.tmp 30) (.tmp 31) rfl _ _ [memoW] rfl (hro.fr ((Fr.refl _).alloc _)) _ rfl hlit (by simp) ?_)
          intro v6 w6 hro
          obtain ⟨a6, l6, rfl, _⟩ := hro.form
          go_wp2_with fail
          go_ret
          exact (hro.down HF.out).ret
theorem config_c (g : Cfg) (w : World) (hE : EnvT w) (hm : cfgMay g = true) : Calls Tryz.prog 28 #[g.val] w (RetS w (cfgWords g)) := by
  unfold cfgMay at hm
  simp only [Bool.and_eq_true, decide_eq_true_eq] at hm
  obtain ⟨m, o, s, t, p, c, q⟩ := g
  simp only at hm
  obtain ⟨n1, rfl⟩ := Int.eq_ofNat_of_zero_le (show 0 ≤ o by omega)
  obtain ⟨n2, rfl⟩ := Int.eq_ofNat_of_zero_le (show 0 ≤ s by omega)
  obtain ⟨n3, rfl⟩ := Int.eq_ofNat_of_zero_le (show 0 ≤ t by omega)
  exact config_c0 m n1 n2 n3 p c q w hE (by omega) (by omega) (by omega) (by omega)
end Go.Proofs.YtfklgaeejmeipaaGreatDoor
