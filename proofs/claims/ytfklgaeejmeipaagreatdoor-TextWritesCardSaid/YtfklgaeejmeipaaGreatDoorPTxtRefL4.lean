/- The document's Line and list. No condition but the numbers' bounds. Printed by gen_refline.py. -/
import Derived.Test.YtfklgaeejmeipaaGreatDoorPTxtRefL
import Derived.Test.YtfklgaeejmeipaaGreatDoorPTxtRefK
import Derived.Test.YtfklgaeejmeipaaGreatDoorPWordsR
import Derived.Test.YtfklgaeejmeipaaGreatDoorPTxtLen
import Derived.Test.YtfklgaeejmeipaaGreatDoorPTxtRefB
import Derived.Test.YtfklgaeejmeipaaGreatDoorPRefMayE
import Derived.Test.YtfklgaeejmeipaaGreatDoorPResTextW
import Derived.Deep.Cut
import Derived.Test.YtfklgaeejmeipaaGreatDoorPArms
set_option linter.all false
set_option linter.unusedVariables false
set_option linter.unusedSimpArgs false
set_option linter.unnecessarySimpa false
/- The document's Line and list. No condition but the numbers' bounds. Printed by gen_refline.py. -/
namespace Go.Proofs.YtfklgaeejmeipaaGreatDoor
open Go.RowKit
attribute [local go_sem] Oper.semAt_some

set_option maxRecDepth 100000 in
set_option maxHeartbeats 4000000 in
theorem rline_6 (x : Ev) (t r : Value) (w : World) (ht : RdM w t x.txn) (hr : RdR w r x.reads) (ok : x.Ok) (hm : x.may = true) (hk : x.kind = 6) :
    Calls Tryz.prog 12 #[x.val t r] w (StrRet w (x.line, 0)) := by
  have HL : Hid (x.line = kindW 6 ++ (tails [Lib.decDigits x.client, Lib.decDigits x.id] ++ tails (x.reads.map listWord))) := Lib.hid (by rw [line_who (by omega), hk]; unfold Ev.tailW; rw [if_neg (by omega), if_neg (by omega), if_neg (by omega), if_pos hk])
  have HTB := Lib.hid ok.reads
  have HLB : Hid (x.reads.length ≤ 8 ∧ ∀ l ∈ x.reads, l.length ≤ 60) := Lib.hid (by
    have h1 := (may_kind hm).1
    unfold Ev.kindMay at h1
    rw [if_neg (by omega), if_neg (by omega), if_neg (by omega), if_neg (by omega), if_pos hk] at h1
    unfold readsMay at h1
    simp only [Bool.and_eq_true, decide_eq_true_eq, Bool.not_eq_true'] at h1
    refine ⟨h1.1, fun l hl => ?_⟩
    have hq := List.any_eq_false.1 h1.2 l hl
    unfold listBad at hq
    simp only [decide_eq_true_eq] at hq
    omega)
  have hl8 := HLB.out.1
  have HT0 := Lib.hid hr
  obtain ⟨h17a, h17b⟩ := may_k17 hm
  have hci := (may_kind hm).2.1
  have hid := ok.id
  have HM := Lib.hid (fun W (h : EvAt W (x.val t r) x) => rMayE_c x (x.val t r) W h ok)
  have HE := Lib.hid (show EvAt w (x.val t r) x from ⟨t, r, rfl, ht, hr⟩)
  rw [hm] at HM
  have hl1 := decDigits_len5 (v := x.client) (by omega)
  have hl2 := decDigits_len5 (v := x.id) (by omega)
  have HD1 := Lib.hid (fun W => d06_c x.client W (by omega))
  have HD2 := Lib.hid (fun W => d06_c x.id W (by omega))
  have HK := Lib.hid hk
  clear hk
  unfold Ev.val
  go_enter Tryz.func12, Tryz.ntmps12
  go_wp2_with ((with_reducible refine wpList_here (.load 32 (.tmp 1)) rfl ?_); refine wpList_load_box 32 (.tmp 1) rfl _ rfl (x.cells t r) (BoxAt.new w _ _) _ Tryz.underlying32 rfl Tryz.infoEv rfl ?_)
  refine (HM.out _ (HE.out.keep ((Fr.refl w).alloc _))).mono ?_
  rintro e w1 ⟨rfl, f1⟩
  have HB1 : Hid (BoxAt w1 w.heap.size (x.cells t r) 32) := Lib.hid ((BoxAt.new w (x.cells t r) 32).fr f1)
  have F1 := Lib.hid (((Fr.refl w).alloc (.cells (x.cells t r) 32)).trans f1)
  have hrg : w1.rangeAt w.heap.size 12 x.cfg.cells := rangeAt_cfg HB1.out
  have hz1 := HB1.out.lt
  clear f1
  go_upto_region 4 with (first | ((with_reducible refine wpList_here (.load 30 (.tmp 18)) rfl ?_); refine wpList_load_midW 30 (.tmp 18) rfl w.heap.size 12 rfl x.cfg.cells _ hrg Tryz.underlying30 rfl Tryz.infoCfgR rfl ?_) | ((with_reducible refine wpList_here (.store 30 (.tmp 4) (.tmp 19)) rfl ?_); refine wpList_store_new 30 (.tmp 4) (.tmp 19) rfl _ x.cfg.cells.toArray _ rfl rfl rfl Tryz.infoCfgR rfl (cfgT_one _) rfl rfl ?_))
  refine wp_genT fun W hW => ?_
  have HB2 : Hid (BoxAt W w.heap.size (x.cells t r) 32) := Lib.hid (by rw [hW]; exact HB1.out.fr ((Fr.refl w1).alloc _))
  have F2 : Hid (Fr w W) := Lib.hid (by rw [hW]; exact F1.out.alloc _)
  have HC2 : Hid (BoxAt W w1.heap.size x.cfg.rowT 30) := Lib.hid (by rw [hW]; exact BoxAt.new w1 x.cfg.rowT 30)
  clear hW hrg F1 HB1
  have k1 := FrW.cell (HB2.out.at 1 (show (x.cells t r)[1]? = some (.int .u8 x.client) from rfl))
  have k2 := FrW.cell (HB2.out.at 2 (show (x.cells t r)[2]? = some (.int .u16 x.id) from rfl))
  refine wp_region_fr (by kernel_rfl) (by kernel_rfl) ?_
  repeat (go_big_quiet_step ((first | (go_at_call_of 36 (Value.int IntKind.i64 x.client); exact frq (HD1.out _)) | (go_at_call_of 36 (Value.int IntKind.i64 x.id); exact frq (HD2.out _)))))
  refine wpQuiet_nil ?_
  rintro w3 ⟨⟨_, f3⟩, rfl⟩
  have HB3 : Hid (BoxAt w3 w.heap.size (x.cells t r) 32) := Lib.hid (HB2.out.fr f3)
  have HC3 : Hid (BoxAt w3 w1.heap.size x.cfg.rowT 30) := Lib.hid (HC2.out.fr f3)
  have F3 : Hid (Fr w w3) := Lib.hid (F2.out.trans f3)
  have a0 : w3.cell? ⟨w.heap.size, 0, none⟩ = some (.int .u8 x.kind) := HB3.out.at 0 rfl
  clear f3 HB2 HC2 F2 k1 k2 HM HE HD1 HD2
  have hwl := who_len hl1 hl2
  rw [who_bytes]
  clear hl1 hl2
  generalize hW : tails [Lib.decDigits x.client, Lib.decDigits x.id] = who at hwl
  have HW := Lib.hid hW
  clear hW
  have hws := size_mk who
  have hk := HK.out
  have e1 : ((x.kind : Int) == 1) = false := by simp; omega
  have e2 : ((x.kind : Int) == 2) = false := by simp; omega
  have e3 : ((x.kind : Int) == 3) = false := by simp; omega
  have e4 : ((x.kind : Int) == 4) = false := by simp; omega
  have e5 : ((x.kind : Int) == 5) = false := by simp; omega
  have e6 : ((x.kind : Int) == 6) = true := by simp; omega
  rw [HW.out] at HL
  obtain ⟨vs, hvl, ⟨ra, rc, rfl, hrc, hrm, hrx⟩, hin⟩ := HT0.out
  have a11 : w3.cell? ⟨w.heap.size, 11, none⟩ = some (.slice ra x.reads.length rc) := HB3.out.at 11 rfl
  have HIN := Lib.hid (fun k (hk : k < x.reads.length) => RdR.at (n := 0) (cap := 0) hvl hrx hin hk)
  have A11 := Lib.hid a11
  unfold maxLen at hrm
  clear hk hr HT0 hrx a11 hin hvl
  have h00 : ((⟨#[99, 111, 109, 109, 105, 116]⟩ : ByteArray) ++ ⟨who.toArray⟩) = ⟨(kindW 6 ++ who ++ tails ((x.reads.map listWord).take 0)).toArray⟩ := by
    rw [show (⟨#[99, 111, 109, 109, 105, 116]⟩ : ByteArray) = ⟨(kindW 6).toArray⟩ from rfl, mk_append]; simp [tails]
  have H00 := Lib.hid h00
  clear h00
  go_wp2_with fail
  obtain ⟨W4, hW4⟩ : ∃ W4, W4 = w3 := ⟨_, rfl⟩
  subst hW4
  go_loopw [13, 14] (fun s i wr => ∃ k : Nat, k ≤ x.reads.length ∧ i = .int .i64 k ∧ s = .string ⟨(kindW 6 ++ who ++ tails ((x.reads.map listWord).take k)).toArray⟩ ∧ Fr W4 wr) (fun _ i _ => x.reads.length - (intOf i).toNat)
  case atStart => exact ⟨0, Nat.zero_le _, rfl, congrArg Value.string H00.out, by first | exact Fr.refl _ | exact (Fr.refl _).drew⟩
  case round =>
    obtain ⟨k, hk, rfl, rfl, hf⟩ := hrel
    have HF := Lib.hid hf
    have b11 := hf.keep A11.out
    have hzb := lt_of_cell b11
    clear a0
    have hlm : (x.reads.map listWord).length = x.reads.length := List.length_map _
    by_cases hlt : k < x.reads.length
    · obtain ⟨b1, o1, u, rfl, c1, hu⟩ := HIN.out k hlt
      have d1 := (F3.out.trans hf).keep c1
      have hb2 := lt_of_cell d1
      have hmem := List.getElem_mem hlt
      have HD := Lib.hid (fun W (f : Fr w W) => list06_c u x.reads[k] W (hu.keep f) (by have := HLB.out.2 _ hmem; omega) (HTB.out _ hmem))
      obtain ⟨ua, uc, rfl, _, _, _⟩ := hu
      have hll := listWord_len (HLB.out.2 _ hmem) (HTB.out _ hmem)
      have hlz := size_mk (listWord x.reads[k])
      have hal : (kindW 6 ++ who ++ tails ((x.reads.map listWord).take k)).length ≤ 4000 := by
        have h1 := tails_le (n := 360) (ws := (x.reads.map listWord).take k) fun v hv => (by
          obtain ⟨l, hl, rfl⟩ := List.mem_map.1 (List.mem_of_mem_take hv)
          exact listWord_len (HLB.out.2 _ hl) (HTB.out _ hl))
        have h2 : ((x.reads.map listWord).take k).length ≤ 8 := by rw [List.length_take]; omega
        have h3 := kindW_len 6
        rw [List.length_append, List.length_append]
        omega
      have haz := size_mk (kindW 6 ++ who ++ tails ((x.reads.map listWord).take k))
      have HN := Lib.hid (show kindW 6 ++ who ++ tails ((x.reads.map listWord).take (k + 1)) = (kindW 6 ++ who ++ tails ((x.reads.map listWord).take k)) ++ [32] ++ listWord x.reads[k] by rw [tails_next (by rw [hlm]; exact hlt)]; simp)
      generalize kindW 6 ++ who ++ tails ((x.reads.map listWord).take k) = acc at hal haz HN ⊢
      generalize listWord x.reads[k] = q at hll hlz HN HD
      generalize x.reads[k].length = nn at HD d1 c1
      have hk1 : k < rc := by omega
      clear hf H00 hlm hmem
      go_wp2_with fail
      refine (HD.out _ (F3.out.trans HF.out)).mono ?_
      rintro e w5 ⟨rfl, f5⟩
      have F5 := Lib.hid (HF.out.trans f5)
      clear f5
      go_wp2_with fail
      go_roundw
      case rel => exact ⟨k + 1, by omega, by go_num, by rw [HN.out, mk_append, mk_append], F5.out⟩
      case measure => simp [intOf]; omega
    · have hkl : (x.reads.map listWord).take k = x.reads.map listWord := List.take_of_length_le (by omega)
      rw [hkl]
      have HLL : Hid (kindW 6 ++ who ++ tails (x.reads.map listWord) = x.line) := Lib.hid (by rw [HL.out]; simp)
      generalize kindW 6 ++ who ++ tails (x.reads.map listWord) = acc at HLL
      clear hf H00 hkl hlm
      go_wp2_with fail
      go_ret2
      exact ⟨by rw [← HLL.out]; rfl, F3.out.trans HF.out⟩
end Go.Proofs.YtfklgaeejmeipaaGreatDoor
