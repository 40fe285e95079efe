/- The document's Line and list. No condition but the numbers' bounds. Printed by gen_refline.py. -/
import Derived.Test.YtfklgaeejmeipaaGreatDoorPTxtRefL2
import Derived.Test.YtfklgaeejmeipaaGreatDoorPTxtRefL3
import Derived.Test.YtfklgaeejmeipaaGreatDoorPTxtRefL4
import Derived.Test.YtfklgaeejmeipaaGreatDoorPTxtRefK
import Derived.Test.YtfklgaeejmeipaaGreatDoorPWordsR
import Derived.Test.YtfklgaeejmeipaaGreatDoorPTxtLen
import Derived.Test.YtfklgaeejmeipaaGreatDoorPTxtRefB
import Derived.Test.YtfklgaeejmeipaaGreatDoorPRefMayE
import Derived.Test.YtfklgaeejmeipaaGreatDoorPResTextW
import Derived.Deep.Cut
import Derived.Test.YtfklgaeejmeipaaGreatDoorPArms
set_option linter.all false
set_option linter.unusedVariables false
set_option linter.unusedSimpArgs false
set_option linter.unnecessarySimpa false
/- The document's Line and list. No condition but the numbers' bounds. Printed by gen_refline.py. -/
namespace Go.Proofs.YtfklgaeejmeipaaGreatDoor
open Go.RowKit
attribute [local go_sem] Oper.semAt_some

set_option maxRecDepth 100000 in
set_option maxHeartbeats 4000000 in
theorem rline_1 (x : Ev) (t r : Value) (w : World) (ht : RdM w t x.txn) (hr : RdR w r x.reads) (ok : x.Ok) (hm : x.may = true) (hk : x.kind = 1) :
    Calls Tryz.prog 12 #[x.val t r] w (StrRet w (x.line, 0)) := by
  have hcm : cfgMay x.cfg = true := by have h1 := (may_kind hm).1; unfold Ev.kindMay at h1; rwa [if_pos hk] at h1
  have HL : Hid (x.line = kindW 1 ++ tails (cfgWords x.cfg)) := Lib.hid (by rw [line_tails, if_pos hk, hk])
  have HCM := Lib.hid (cfgMay_facts hcm)
  clear hcm
  obtain ⟨h17a, h17b⟩ := may_k17 hm
  have hci := (may_kind hm).2.1
  have hid := ok.id
  have HM := Lib.hid (fun W (h : EvAt W (x.val t r) x) => rMayE_c x (x.val t r) W h ok)
  have HE := Lib.hid (show EvAt w (x.val t r) x from ⟨t, r, rfl, ht, hr⟩)
  rw [hm] at HM
  have hl1 := decDigits_len5 (v := x.client) (by omega)
  have hl2 := decDigits_len5 (v := x.id) (by omega)
  have HD1 := Lib.hid (fun W => d06_c x.client W (by omega))
  have HD2 := Lib.hid (fun W => d06_c x.id W (by omega))
  have HK := Lib.hid hk
  clear hk
  unfold Ev.val
  go_enter Tryz.func12, Tryz.ntmps12
  go_wp2_with ((with_reducible refine wpList_here (.load 32 (.tmp 1)) rfl ?_); refine wpList_load_box 32 (.tmp 1) rfl _ rfl (x.cells t r) (BoxAt.new w _ _) _ Tryz.underlying32 rfl Tryz.infoEv rfl ?_)
  refine (HM.out _ (HE.out.keep ((Fr.refl w).alloc _))).mono ?_
  rintro e w1 ⟨rfl, f1⟩
  have HB1 : Hid (BoxAt w1 w.heap.size (x.cells t r) 32) := Lib.hid ((BoxAt.new w (x.cells t r) 32).fr f1)
  have F1 := Lib.hid (((Fr.refl w).alloc (.cells (x.cells t r) 32)).trans f1)
  have hrg : w1.rangeAt w.heap.size 12 x.cfg.cells := rangeAt_cfg HB1.out
  have hz1 := HB1.out.lt
  clear f1
  go_upto_region 4 with (first | ((with_reducible refine wpList_here (.load 30 (.tmp 18)) rfl ?_); refine wpList_load_midW 30 (.tmp 18) rfl w.heap.size 12 rfl x.cfg.cells _ hrg Tryz.underlying30 rfl Tryz.infoCfgR rfl ?_) | ((with_reducible refine wpList_here (.store 30 (.tmp 4) (.tmp 19)) rfl ?_); refine wpList_store_new 30 (.tmp 4) (.tmp 19) rfl _ x.cfg.cells.toArray _ rfl rfl rfl Tryz.infoCfgR rfl (cfgT_one _) rfl rfl ?_))
  refine wp_genT fun W hW => ?_
  have HB2 : Hid (BoxAt W w.heap.size (x.cells t r) 32) := Lib.hid (by rw [hW]; exact HB1.out.fr ((Fr.refl w1).alloc _))
  have F2 : Hid (Fr w W) := Lib.hid (by rw [hW]; exact F1.out.alloc _)
  have HC2 : Hid (BoxAt W w1.heap.size x.cfg.rowT 30) := Lib.hid (by rw [hW]; exact BoxAt.new w1 x.cfg.rowT 30)
  clear hW hrg F1 HB1
  have k1 := FrW.cell (HB2.out.at 1 (show (x.cells t r)[1]? = some (.int .u8 x.client) from rfl))
  have k2 := FrW.cell (HB2.out.at 2 (show (x.cells t r)[2]? = some (.int .u16 x.id) from rfl))
  refine wp_region_fr (by kernel_rfl) (by kernel_rfl) ?_
  repeat (go_big_quiet_step ((first | (go_at_call_of 36 (Value.int IntKind.i64 x.client); exact frq (HD1.out _)) | (go_at_call_of 36 (Value.int IntKind.i64 x.id); exact frq (HD2.out _)))))
  refine wpQuiet_nil ?_
  rintro w3 ⟨⟨_, f3⟩, rfl⟩
  have HB3 : Hid (BoxAt w3 w.heap.size (x.cells t r) 32) := Lib.hid (HB2.out.fr f3)
  have HC3 : Hid (BoxAt w3 w1.heap.size x.cfg.rowT 30) := Lib.hid (HC2.out.fr f3)
  have F3 : Hid (Fr w w3) := Lib.hid (F2.out.trans f3)
  have a0 : w3.cell? ⟨w.heap.size, 0, none⟩ = some (.int .u8 x.kind) := HB3.out.at 0 rfl
  clear f3 HB2 HC2 F2 k1 k2 HM HE HD1 HD2
  have hwl := who_len hl1 hl2
  rw [who_bytes]
  clear hl1 hl2
  generalize hW : tails [Lib.decDigits x.client, Lib.decDigits x.id] = who at hwl
  have HW := Lib.hid hW
  clear hW
  have hws := size_mk who
  have hk := HK.out
  have e1 : ((x.kind : Int) == 1) = true := by simp; omega
  have e2 : ((x.kind : Int) == 2) = false := by simp; omega
  have e3 : ((x.kind : Int) == 3) = false := by simp; omega
  have e4 : ((x.kind : Int) == 4) = false := by simp; omega
  have e5 : ((x.kind : Int) == 5) = false := by simp; omega
  have e6 : ((x.kind : Int) == 6) = false := by simp; omega
  clear HW hk
  obtain ⟨g, hg⟩ : ∃ g, g = x.cfg := ⟨_, rfl⟩
  rw [← hg] at HC3 HL HCM
  clear hg
  obtain ⟨m, o, st, sp, p1, p2, p3⟩ := g
  obtain ⟨c1, c2, c3, c4, c5, c6, c7⟩ := HCM.out
  simp only at c1 c2 c3 c4 c5 c6 c7
  obtain ⟨n1, rfl⟩ := Int.eq_ofNat_of_zero_le (show 0 ≤ o by omega)
  obtain ⟨n2, rfl⟩ := Int.eq_ofNat_of_zero_le (show 0 ≤ st by omega)
  obtain ⟨n3, rfl⟩ := Int.eq_ofNat_of_zero_le (show 0 ≤ sp by omega)
  have k0 := FrW.cell (HC3.out.at 0 (show (Cfg.rowT ⟨m, (n1 : Int), (n2 : Int), (n3 : Int), p1, p2, p3⟩)[0]? = some (.int .u8 m) from rfl))
  have k1 := FrW.cell (HC3.out.at 1 (show (Cfg.rowT ⟨m, (n1 : Int), (n2 : Int), (n3 : Int), p1, p2, p3⟩)[1]? = some (.int .i64 n1) from rfl))
  have k2 := FrW.cell (HC3.out.at 2 (show (Cfg.rowT ⟨m, (n1 : Int), (n2 : Int), (n3 : Int), p1, p2, p3⟩)[2]? = some (.int .i64 n2) from rfl))
  have k3 := FrW.cell (HC3.out.at 3 (show (Cfg.rowT ⟨m, (n1 : Int), (n2 : Int), (n3 : Int), p1, p2, p3⟩)[3]? = some (.int .i64 n3) from rfl))
  have k4 := FrW.cell (HC3.out.at 4 (show (Cfg.rowT ⟨m, (n1 : Int), (n2 : Int), (n3 : Int), p1, p2, p3⟩)[4]? = some (.bool p1) from rfl))
  have k5 := FrW.cell (HC3.out.at 5 (show (Cfg.rowT ⟨m, (n1 : Int), (n2 : Int), (n3 : Int), p1, p2, p3⟩)[5]? = some (.bool p2) from rfl))
  have k6 := FrW.cell (HC3.out.at 6 (show (Cfg.rowT ⟨m, (n1 : Int), (n2 : Int), (n3 : Int), p1, p2, p3⟩)[6]? = some (.bool p3) from rfl))
  have HM0 := Lib.hid (fun W => model06_c m W (by omega))
  have HD1 := Lib.hid (fun W => d06_c n1 W (by omega))
  have HD2 := Lib.hid (fun W => d06_c n2 W (by omega))
  have HD3 := Lib.hid (fun W => d06_c n3 W (by omega))
  have HP1 := Lib.hid (fun W => flag06_c p1 partitionW W (by decide))
  have HP2 := Lib.hid (fun W => flag06_c p2 cutW W (by decide))
  have HP3 := Lib.hid (fun W => flag06_c p3 memoW W (by decide))
  have l0 := modelW_len m
  have l1 := dd_len7 (n := n1) (by omega)
  have l2 := dd_len7 (n := n2) (by omega)
  have l3 := dd_len7 (n := n3) (by omega)
  have l4 : (flagB p1 partitionW).length ≤ 10 := by unfold flagB; split <;> decide
  have l5 : (flagB p2 cutW).length ≤ 4 := by unfold flagB; split <;> decide
  have l6 : (flagB p3 memoW).length ≤ 5 := by unfold flagB; split <;> decide
  have q0 := size_mk (modelW m)
  have q1 := size_mk (Lib.decDigits n1)
  have q2 := size_mk (Lib.decDigits n2)
  have q3 := size_mk (Lib.decDigits n3)
  have q4 := size_mk (flagB p1 partitionW)
  have q5 := size_mk (flagB p2 cutW)
  have q6 := size_mk (flagB p3 memoW)
  have hpl : x.line = [99, 111, 110, 102, 105, 103, 32] ++ modelW m ++ [32] ++ Lib.decDigits n1 ++ [32] ++ Lib.decDigits n2 ++ [32] ++ Lib.decDigits n3 ++ flagB p1 partitionW ++ flagB p2 cutW ++ flagB p3 memoW := by
    rw [HL.out]
    cases p1 <;> cases p2 <;> cases p3 <;> simp [kindW, tails, cfgWords, flagW, flagB]
  have HPL := Lib.hid hpl
  clear hpl HL HCM c1 c2 c3 c4 c5 c6 c7
  generalize modelW m = s0 at HM0 l0 q0 HPL
  generalize Lib.decDigits n1 = s1 at HD1 l1 q1 HPL
  generalize Lib.decDigits n2 = s2 at HD2 l2 q2 HPL
  generalize Lib.decDigits n3 = s3 at HD3 l3 q3 HPL
  generalize flagB p1 partitionW = s4 at HP1 l4 q4 HPL
  generalize flagB p2 cutW = s5 at HP2 l5 q5 HPL
  generalize flagB p3 memoW = s6 at HP3 l6 q6 HPL
  unfold partitionW at HP1
  unfold cutW at HP2
  unfold memoW at HP3
  go_wp2_with fail
  refine wp_region_fr (by kernel_rfl) (by kernel_rfl) ?_
  repeat (go_big_quiet_step ((first | (go_at_call 37; exact frq (HM0.out _)) | (go_at_call_of 36 (Value.int IntKind.i64 n1); exact frq (HD1.out _)) | (go_at_call_of 36 (Value.int IntKind.i64 n2); exact frq (HD2.out _)) | (go_at_call_of 36 (Value.int IntKind.i64 n3); exact frq (HD3.out _)) | (go_at_call_of 38 (Value.bool p1); exact frq (HP1.out _)) | (go_at_call_of 38 (Value.bool p2); exact frq (HP2.out _)) | (go_at_call_of 38 (Value.bool p3); exact frq (HP3.out _)))))
  refine wpQuiet_nil ?_
  rintro w5 ⟨⟨_, f5⟩, rfl⟩
  have F5 := Lib.hid (F3.out.trans f5)
  clear f5
  go_wp2_with fail
  go_ret2
  exact ⟨ret_str2e (by rw [HPL.out]; repeat rw [mk_append]), F5.out⟩
set_option maxRecDepth 100000 in
set_option maxHeartbeats 4000000 in
theorem rline_no (x : Ev) (t r : Value) (w : World) (ht : RdM w t x.txn) (hr : RdR w r x.reads) (ok : x.Ok) (hm : x.may = false) :
    Calls Tryz.prog 12 #[x.val t r] w (StrRet w ([], 4)) := by
  have HM := Lib.hid (fun W (h : EvAt W (x.val t r) x) => rMayE_c x (x.val t r) W h ok)
  have HE := Lib.hid (show EvAt w (x.val t r) x from ⟨t, r, rfl, ht, hr⟩)
  rw [hm] at HM
  unfold Ev.val
  go_enter Tryz.func12, Tryz.ntmps12
  go_wp2_with ((with_reducible refine wpList_here (.load 32 (.tmp 1)) rfl ?_); refine wpList_load_box 32 (.tmp 1) rfl _ rfl (x.cells t r) (BoxAt.new w _ _) _ Tryz.underlying32 rfl Tryz.infoEv rfl ?_)
  refine (HM.out _ (HE.out.keep ((Fr.refl w).alloc _))).mono ?_
  rintro e w1 ⟨rfl, f1⟩
  have F1 := Lib.hid (((Fr.refl w).alloc (.cells (x.cells t r) 32)).trans f1)
  clear f1
  go_wp2_with fail
  go_ret2
  exact ⟨rfl, F1.out⟩
/-- The document's Line answers what text.Line does. -/
theorem rLine_c (x : Ev) (v : Value) (w : World) (hx : EvAt w v x) (ok : x.Ok) : Calls Tryz.prog 12 #[v] w (StrRet w x.said) := by
  obtain ⟨⟨t, r, rfl, ht, hr⟩⟩ := hx
  unfold Ev.said
  cases hm : x.may
  · simp only [Bool.false_eq_true, if_false]
    exact rline_no x t r w ht hr ok hm
  · simp only [if_true]
    have h17 := may_k17 hm
    rcases (show x.kind = 1 ∨ x.kind = 2 ∨ x.kind = 3 ∨ x.kind = 4 ∨ x.kind = 5 ∨ x.kind = 6 ∨ x.kind = 7 by omega) with h | h | h | h | h | h | h
    · exact rline_1 x t r w ht hr ok hm h
    · exact rline_2 x t r w ht hr ok hm h
    · exact rline_3 x t r w ht hr ok hm h
    · exact rline_4 x t r w ht hr ok hm h
    · exact rline_5 x t r w ht hr ok hm h
    · exact rline_6 x t r w ht hr ok hm h
    · exact rline_7 x t r w ht hr ok hm h
end Go.Proofs.YtfklgaeejmeipaaGreatDoor
