/- text.micros: the words of a transaction. No condition but the tables' content and the numbers' bounds. Printed by gen_txtcfg.py. -/
import Derived.Test.YtfklgaeejmeipaaGreatDoorPItoa
import Derived.Test.YtfklgaeejmeipaaGreatDoorPTxtRow
import Derived.Test.YtfklgaeejmeipaaGreatDoorPTxtEnv
import Derived.Test.YtfklgaeejmeipaaGreatDoorPArms
set_option linter.all false
set_option linter.unusedVariables false
set_option linter.unusedSimpArgs false
set_option linter.unnecessarySimpa false
/- text.micros: the words of a transaction. No condition but the tables' content and the numbers' bounds. Printed by gen_txtcfg.py. -/
namespace Go.Proofs.YtfklgaeejmeipaaGreatDoor
open Go.RowKit

def micPr (W0 : World) (VR : Value) (B n1 n2 : Nat) (j : Nat) (w : World) (v : Value) : Prop := match j with
  | 0 => v = VR
  | 1 => v = (.pointer (some ⟨B, 1, none⟩))
  | 2 => v = (.int .u8 (n1 : Nat))
  | 3 => v = (.string ⟨(Lib.decDigits n1).toArray⟩)
  | 4 => v = (.pointer (some ⟨B, 2, none⟩))
  | 5 => v = (.int .u16 (n2 : Nat))
  | 6 => v = (.string ⟨(Lib.decDigits n2).toArray⟩)
  | 7 => RowS W0 w v [appendW, Lib.decDigits n1, Lib.decDigits n2]
  | _ => True
theorem micPr_fr (W0 : World) (VR : Value) (B n1 n2 : Nat) (j : Nat) (w w' : World) (v : Value) (f : Fr w w') (h : micPr W0 VR B n1 n2 j w v) : micPr W0 VR B n1 n2 j w' v := by
  exact match j, h with
  | 0, h => h
  | 1, h => h
  | 2, h => h
  | 3, h => h
  | 4, h => h
  | 5, h => h
  | 6, h => h
  | 7, h => h.fr f
  | _ + 8, _ => trivial

theorem micsWords_len : ∀ l : List Mic, (micsWords l).length ≤ 3 * l.length
  | [] => by simp [micsWords]
  | m :: l => by
    have := micsWords_len l
    unfold micsWords at *
    rw [List.flatMap_cons, List.length_append, List.length_cons]
    have h2 : (micWords m).length ≤ 3 := by unfold micWords; split <;> simp
    omega
set_option maxRecDepth 100000 in
set_option maxHeartbeats 1000000 in
theorem micros_c (v : Value) (l : List Mic) (w : World) (hE : Env0 w) (hl : RdM w v l) (hn : l.length ≤ 60000) (hb : ∀ m ∈ l, m.key < 256 ∧ m.v < 65536) :
    Calls Tryz.prog 33 #[v] w (RetS w (micsWords l)) := by
  obtain ⟨a, cap, rfl, hc1, hc2, hx⟩ := hl
  have HX := Lib.hid hx
  have HT8w := Lib.hid (fun (n : Nat) (hn : n < 256) W (f : Fr w W) => num8_c n W (hE.keep f) hn)
  have HT16w := Lib.hid (fun (n : Nat) (hn : n < 65536) W (f : Fr w W) => num16_c n W (hE.keep f) hn)
  clear hE hx
  unfold maxLen at hc2
  go_enter Tryz.func33, Tryz.ntmps33
  go_wp2
  go_loopw [2, 7] (fun s i wr => ∃ k : Nat, k ≤ l.length ∧ i = .int .i64 k ∧ RowS w wr s (micsWords (l.take k))) (fun _ i _ => l.length - (intOf i).toNat)
  case atStart => exact ⟨0, Nat.zero_le _, rfl, RowS.nil (by first | exact Fr.refl _ | exact (Fr.refl _).drew)⟩
  case round =>
    obtain ⟨k, hk, rfl, hrow⟩ := hrel
    by_cases hlt2 : k < l.length
    · obtain ⟨b, off, rfl, hblt, hcell⟩ := SlAt.at (n := 0) (cap := 0) HX.out (mic_ne_nil hlt2)
      obtain ⟨q1, q2, q3⟩ := micAt hrow.frm hcell hlt2
      have hnk := hb l[k] (List.getElem_mem hlt2)
      have HK := Lib.hid (show micsWords (l.take k) ++ micWords l[k] = micsWords (l.take (k + 1)) by rw [List.take_succ_eq_append_getElem hlt2]; unfold micsWords; rw [List.flatMap_append]; simp)
      have hk1 : k < cap := by omega
      have hlen : (micsWords (l.take k)).length ≤ 180000 := by have := micsWords_len (l.take k); rw [List.length_take] at this; omega
      have hbl := lt_of_cell q1
      simp only at hbl
      generalize micsWords (l.take k) = acc at hrow HK hlen
      generalize l[k] = x at q1 q2 q3 HK hnk
      obtain ⟨rd, n1, n2⟩ := x
      simp only at q1 q2 q3 hnk
      obtain ⟨h1, h2⟩ := hnk
      clear hcell hblt
      obtain ⟨ra, rc, rfl, _⟩ := hrow.form
      obtain ⟨rn, hrn⟩ : ∃ rn, rn = acc.length := ⟨_, rfl⟩
      rw [← hrn] at hrow ⊢
      have HR := Lib.hid hrow
      have HRN := Lib.hid hrn
      clear hrn
      have HBX := fun t => BoxAt.new' wr #[.bool rd, .int .u8 n1, .int .u16 n2] t _ rfl
      have k0 : (wr.alloc (.cells #[.bool rd, .int .u8 n1, .int .u16 n2] 58)).cell? ⟨wr.heap.size, 0, none⟩ = some (.bool rd) := (HBX _).at 0 rfl
      have k1 : (wr.alloc (.cells #[.bool rd, .int .u8 n1, .int .u16 n2] 58)).cell? ⟨wr.heap.size, 1, none⟩ = some (.int .u8 n1) := (HBX _).at 1 rfl
      have k2 : (wr.alloc (.cells #[.bool rd, .int .u8 n1, .int .u16 n2] 58)).cell? ⟨wr.heap.size, 2, none⟩ = some (.int .u16 n2) := (HBX _).at 2 rfl
      have HRB := Lib.hid (hrow.fr ((Fr.refl wr).alloc (.cells #[.bool rd, .int .u8 n1, .int .u16 n2] 58)))
      clear HBX
      cases rd
      · have HT8 := Lib.hid (fun (n : Nat) (hn : n < 256) W (f : Fr (wr.alloc (.cells #[.bool false, .int .u8 n1, .int .u16 n2] 58)) W) => HT8w.out n hn W (HRB.out.frm.trans f))
        have HT16 := Lib.hid (fun (n : Nat) (hn : n < 65536) W (f : Fr (wr.alloc (.cells #[.bool false, .int .u8 n1, .int .u16 n2] 58)) W) => HT16w.out n hn W (HRB.out.frm.trans f))
        go_wp2_with fail
        refine wp_region_preds_tail (m := 8) (g := 2) (d := fun j => 19 + j) (Pr := micPr (wr.alloc (.cells #[.bool false, .int .u8 n1, .int .u16 n2] 58)) (.slice ra rn rc) wr.heap.size n1 n2) (by kernel_rfl) rfl (by omega) (by kernel_rfl) (by kernel_rfl) (by kernel_rfl) (by kernel_rfl) (fun i j hi hj hne h => by have h : 19 + i = 19 + j := h; omega) (fun j hj => by show 19 + j < _; simp; omega) (fun j hj w w' v f h => micPr_fr _ _ _ _ _ j w w' v f h) ?hop ?hend
        case hop =>
          intro j hj K a w' hf hw ho hK
          rcases (show j = 0 ∨ j = 1 ∨ j = 2 ∨ j = 3 ∨ j = 4 ∨ j = 5 ∨ j = 6 ∨ j = 7 by omega) with rfl | rfl | rfl | rfl | rfl | rfl | rfl | rfl
          · -- 0
            have e2 : a.tmps[2]? = some (.slice ra rn rc) := (ho 2 (fun j hj => by show 2 ≠ 19 + j; omega)).trans rfl
            exact wpOp_runT rfl (wanted_plain rfl _) (.slice ra rn rc) w' (by unfold execOp; simp [go_sem, e2]) (hK _ w' (Fr.refl _) rfl)
          · -- 1
            have e4 : a.tmps[4]? = some (.pointer (some ⟨wr.heap.size, 0, none⟩)) := (ho 4 (fun j hj => by show 4 ≠ 19 + j; omega)).trans rfl
            exact wpOp_runT rfl (wanted_plain rfl _) (.pointer (some ⟨wr.heap.size, 1, none⟩)) w' (by unfold execOp; simp [go_sem, e4]) (hK _ w' (Fr.refl _) rfl)
          · -- 2
            obtain ⟨v20, (e20 : a.tmps[20]? = _), (q20 : v20 = (.pointer (some ⟨wr.heap.size, 1, none⟩)))⟩ := hw 1 (by omega) (by kernel_rfl); rw [q20] at e20; clear q20
            have c0 := hf.keep k1
            exact wpOp_runT rfl (wanted_plain rfl _) (.int .u8 (n1 : Nat)) w' (by unfold execOp; simp [go_sem, e20, c0]) (hK _ w' (Fr.refl _) rfl)
          · -- 3
            obtain ⟨v21, (e21 : a.tmps[21]? = _), (q21 : v21 = (.int .u8 (n1 : Nat)))⟩ := hw 2 (by omega) (by kernel_rfl); rw [q21] at e21; clear q21
            exact wpOp_enterT rfl (wanted_plain rfl _) 29 #[.int .u8 (n1 : Nat)] (run_call Tryz.func29 (by kernel_rfl) rfl _ _ rfl _ (by simp [Act.eval, e21])) ((HT8.out n1 h1 w' hf).mono fun e w2 ⟨he, hw2⟩ => ⟨_, he, hK _ w2 hw2 rfl⟩)
          · -- 4
            have e4 : a.tmps[4]? = some (.pointer (some ⟨wr.heap.size, 0, none⟩)) := (ho 4 (fun j hj => by show 4 ≠ 19 + j; omega)).trans rfl
            exact wpOp_runT rfl (wanted_plain rfl _) (.pointer (some ⟨wr.heap.size, 2, none⟩)) w' (by unfold execOp; simp [go_sem, e4]) (hK _ w' (Fr.refl _) rfl)
          · -- 5
            obtain ⟨v23, (e23 : a.tmps[23]? = _), (q23 : v23 = (.pointer (some ⟨wr.heap.size, 2, none⟩)))⟩ := hw 4 (by omega) (by kernel_rfl); rw [q23] at e23; clear q23
            have c0 := hf.keep k2
            exact wpOp_runT rfl (wanted_plain rfl _) (.int .u16 (n2 : Nat)) w' (by unfold execOp; simp [go_sem, e23, c0]) (hK _ w' (Fr.refl _) rfl)
          · -- 6
            obtain ⟨v24, (e24 : a.tmps[24]? = _), (q24 : v24 = (.int .u16 (n2 : Nat)))⟩ := hw 5 (by omega) (by kernel_rfl); rw [q24] at e24; clear q24
            exact wpOp_enterT rfl (wanted_plain rfl _) 30 #[.int .u16 (n2 : Nat)] (run_call Tryz.func30 (by kernel_rfl) rfl _ _ rfl _ (by simp [Act.eval, e24])) ((HT16.out n2 h2 w' hf).mono fun e w2 ⟨he, hw2⟩ => ⟨_, he, hK _ w2 hw2 rfl⟩)
          · -- 7
            obtain ⟨v22, (e22 : a.tmps[22]? = _), (q22 : v22 = (.string ⟨(Lib.decDigits n1).toArray⟩))⟩ := hw 3 (by omega) (by kernel_rfl); rw [q22] at e22; clear q22
            obtain ⟨v25, (e25 : a.tmps[25]? = _), (q25 : v25 = (.string ⟨(Lib.decDigits n2).toArray⟩))⟩ := hw 6 (by omega) (by kernel_rfl); rw [q25] at e25; clear q25
            exact wpOp_runT rfl (wanted_plain rfl _) (.slice (some ⟨w'.heap.size, 0, none⟩) 3 3) (w'.alloc (.cells (strCells [appendW, Lib.decDigits n1, Lib.decDigits n2]).toArray 9)) (run_bs 59 9 3 _ rfl [.string ⟨(appendW).toArray⟩, .string ⟨(Lib.decDigits n1).toArray⟩, .string ⟨(Lib.decDigits n2).toArray⟩] (by simp [evalOf e22, evalOf e25]; try rfl) 1 (by omega) (fun v hv => by simp at hv; rcases hv with rfl | rfl | rfl <;> rfl) Tryz.underlying59 (by kernel_rfl) rfl (by omega) (by omega)) (hK _ _ ((Fr.refl _).alloc _) (RowS.lit hf [appendW, Lib.decDigits n1, Lib.decDigits n2] (by simp)))
        case hend =>
          intro f w2 hf2 hP
          have p19 : f 0 = .slice ra rn rc := hP 0 (by omega)
          have hlr : RowS (wr.alloc (.cells #[.bool false, .int .u8 n1, .int .u16 n2] 58)) w2 (f 7) [appendW, Lib.decDigits n1, Lib.decDigits n2] := hP 7 (by omega)
          have hro := HRB.out.fr hf2
          have hlit := hlr.rd
          clear hP hf2 hlr k0 k1 k2 q1 q2 q3
          simp only [laidS, List.setIfInBounds_toArray, List.set_cons_succ, List.set_cons_zero, p19]
          generalize f 7 = v26 at hlit
          refine wpList_appendS rfl (.tmp 19) (.tmp 26) rfl _ acc [appendW, Lib.decDigits n1, Lib.decDigits n2] rfl hro _ rfl hlit (by simp; omega) ?_
          intro v' w' hro'
          have HK : Hid (acc ++ [appendW, Lib.decDigits n1, Lib.decDigits n2] = micsWords (l.take (k + 1))) := HK
          rw [HK.out] at hro'
          go_wp2
          go_roundw
          case rel => exact ⟨k + 1, by omega, by go_num, hro'⟩
          case measure => simp [intOf]; omega
      · go_wp2_with fail
        refine (HT8w.out n1 h1 _ (by first | exact HRB.out.frm | exact HRB.out.frm.drew)).mono ?_
        rintro e w1 ⟨rfl, hb1⟩
        have hro := HRB.out.fr hb1
        have hlit := (RowS.lit hro.frm [readW, Lib.decDigits n1] (by simp)).rd
        clear k0 k1 k2 q1 q2 q3
        go_wp2_with (at_builtin; refine wpList_appendS rfl (.tmp 13) (.tmp 17) rfl _ acc [readW, Lib.decDigits n1] rfl (hro.fr ((Fr.refl _).alloc _)) _ rfl hlit (by simp; omega) ?_)
        intro v' w' hro'
        have HK : Hid (acc ++ [readW, Lib.decDigits n1] = micsWords (l.take (k + 1))) := HK
        rw [HK.out] at hro'
        go_wp2
        go_roundw
        case rel => exact ⟨k + 1, by omega, by go_num, hro'⟩
        case measure => simp [intOf]; omega
    · have hkl : l.take k = l := List.take_of_length_le (by omega)
      rw [hkl] at hrow
      obtain ⟨ra, rc, rfl, _⟩ := hrow.form
      have HR := Lib.hid hrow
      clear hkl hrow
      go_wp2
      go_ret
      exact HR.out.ret
end Go.Proofs.YtfklgaeejmeipaaGreatDoor
