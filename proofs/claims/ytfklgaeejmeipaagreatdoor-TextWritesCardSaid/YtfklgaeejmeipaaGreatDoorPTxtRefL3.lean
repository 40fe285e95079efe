/- The document's Line and list. No condition but the numbers' bounds. Printed by gen_refline.py. -/
import Derived.Test.YtfklgaeejmeipaaGreatDoorPTxtRefL
import Derived.Test.YtfklgaeejmeipaaGreatDoorPTxtRefK
import Derived.Test.YtfklgaeejmeipaaGreatDoorPWordsR
import Derived.Test.YtfklgaeejmeipaaGreatDoorPTxtLen
import Derived.Test.YtfklgaeejmeipaaGreatDoorPTxtRefB
import Derived.Test.YtfklgaeejmeipaaGreatDoorPRefMayE
import Derived.Test.YtfklgaeejmeipaaGreatDoorPResTextW
import Derived.Deep.Cut
import Derived.Test.YtfklgaeejmeipaaGreatDoorPArms
set_option linter.all false
set_option linter.unusedVariables false
set_option linter.unusedSimpArgs false
set_option linter.unnecessarySimpa false
/- The document's Line and list. No condition but the numbers' bounds. Printed by gen_refline.py. -/
namespace Go.Proofs.YtfklgaeejmeipaaGreatDoor
open Go.RowKit
attribute [local go_sem] Oper.semAt_some

set_option maxRecDepth 100000 in
set_option maxHeartbeats 4000000 in
theorem rline_5 (x : Ev) (t r : Value) (w : World) (ht : RdM w t x.txn) (hr : RdR w r x.reads) (ok : x.Ok) (hm : x.may = true) (hk : x.kind = 5) :
    Calls Tryz.prog 12 #[x.val t r] w (StrRet w (x.line, 0)) := by
  have HL : Hid (x.line = kindW 5 ++ (tails [Lib.decDigits x.client, Lib.decDigits x.id] ++ tails (micsWords x.txn))) := Lib.hid (by rw [line_who (by omega), hk]; unfold Ev.tailW; rw [if_neg (by omega), if_neg (by omega), if_pos hk])
  have HTB := Lib.hid ok.txn
  have hl8 : x.txn.length ≤ 8 := by
    have h1 := (may_kind hm).1
    unfold Ev.kindMay at h1
    rw [if_neg (by omega), if_neg (by omega), if_neg (by omega), if_pos hk] at h1
    unfold txnMay at h1
    simp only [Bool.and_eq_true, decide_eq_true_eq] at h1
    exact h1.1.2
  have HT0 := Lib.hid ht
  obtain ⟨h17a, h17b⟩ := may_k17 hm
  have hci := (may_kind hm).2.1
  have hid := ok.id
  have HM := Lib.hid (fun W (h : EvAt W (x.val t r) x) => rMayE_c x (x.val t r) W h ok)
  have HE := Lib.hid (show EvAt w (x.val t r) x from ⟨t, r, rfl, ht, hr⟩)
  rw [hm] at HM
  have hl1 := decDigits_len5 (v := x.client) (by omega)
  have hl2 := decDigits_len5 (v := x.id) (by omega)
  have HD1 := Lib.hid (fun W => d06_c x.client W (by omega))
  have HD2 := Lib.hid (fun W => d06_c x.id W (by omega))
  have HK := Lib.hid hk
  clear hk
  unfold Ev.val
  go_enter Tryz.func12, Tryz.ntmps12
  go_wp2_with ((with_reducible refine wpList_here (.load 32 (.tmp 1)) rfl ?_); refine wpList_load_box 32 (.tmp 1) rfl _ rfl (x.cells t r) (BoxAt.new w _ _) _ Tryz.underlying32 rfl Tryz.infoEv rfl ?_)
  refine (HM.out _ (HE.out.keep ((Fr.refl w).alloc _))).mono ?_
  rintro e w1 ⟨rfl, f1⟩
  have HB1 : Hid (BoxAt w1 w.heap.size (x.cells t r) 32) := Lib.hid ((BoxAt.new w (x.cells t r) 32).fr f1)
  have F1 := Lib.hid (((Fr.refl w).alloc (.cells (x.cells t r) 32)).trans f1)
  have hrg : w1.rangeAt w.heap.size 12 x.cfg.cells := rangeAt_cfg HB1.out
  have hz1 := HB1.out.lt
  clear f1
  go_upto_region 4 with (first | ((with_reducible refine wpList_here (.load 30 (.tmp 18)) rfl ?_); refine wpList_load_midW 30 (.tmp 18) rfl w.heap.size 12 rfl x.cfg.cells _ hrg Tryz.underlying30 rfl Tryz.infoCfgR rfl ?_) | ((with_reducible refine wpList_here (.store 30 (.tmp 4) (.tmp 19)) rfl ?_); refine wpList_store_new 30 (.tmp 4) (.tmp 19) rfl _ x.cfg.cells.toArray _ rfl rfl rfl Tryz.infoCfgR rfl (cfgT_one _) rfl rfl ?_))
  refine wp_genT fun W hW => ?_
  have HB2 : Hid (BoxAt W w.heap.size (x.cells t r) 32) := Lib.hid (by rw [hW]; exact HB1.out.fr ((Fr.refl w1).alloc _))
  have F2 : Hid (Fr w W) := Lib.hid (by rw [hW]; exact F1.out.alloc _)
  have HC2 : Hid (BoxAt W w1.heap.size x.cfg.rowT 30) := Lib.hid (by rw [hW]; exact BoxAt.new w1 x.cfg.rowT 30)
  clear hW hrg F1 HB1
  have k1 := FrW.cell (HB2.out.at 1 (show (x.cells t r)[1]? = some (.int .u8 x.client) from rfl))
  have k2 := FrW.cell (HB2.out.at 2 (show (x.cells t r)[2]? = some (.int .u16 x.id) from rfl))
  refine wp_region_fr (by kernel_rfl) (by kernel_rfl) ?_
  repeat (go_big_quiet_step ((first | (go_at_call_of 36 (Value.int IntKind.i64 x.client); exact frq (HD1.out _)) | (go_at_call_of 36 (Value.int IntKind.i64 x.id); exact frq (HD2.out _)))))
  refine wpQuiet_nil ?_
  rintro w3 ⟨⟨_, f3⟩, rfl⟩
  have HB3 : Hid (BoxAt w3 w.heap.size (x.cells t r) 32) := Lib.hid (HB2.out.fr f3)
  have HC3 : Hid (BoxAt w3 w1.heap.size x.cfg.rowT 30) := Lib.hid (HC2.out.fr f3)
  have F3 : Hid (Fr w w3) := Lib.hid (F2.out.trans f3)
  have a0 : w3.cell? ⟨w.heap.size, 0, none⟩ = some (.int .u8 x.kind) := HB3.out.at 0 rfl
  clear f3 HB2 HC2 F2 k1 k2 HM HE HD1 HD2
  have hwl := who_len hl1 hl2
  rw [who_bytes]
  clear hl1 hl2
  generalize hW : tails [Lib.decDigits x.client, Lib.decDigits x.id] = who at hwl
  have HW := Lib.hid hW
  clear hW
  have hws := size_mk who
  have hk := HK.out
  have e1 : ((x.kind : Int) == 1) = false := by simp; omega
  have e2 : ((x.kind : Int) == 2) = false := by simp; omega
  have e3 : ((x.kind : Int) == 3) = false := by simp; omega
  have e4 : ((x.kind : Int) == 4) = false := by simp; omega
  have e5 : ((x.kind : Int) == 5) = true := by simp; omega
  have e6 : ((x.kind : Int) == 6) = false := by simp; omega
  rw [HW.out] at HL
  obtain ⟨ta, tc, rfl, htc, htm, htx⟩ := HT0.out
  have a10 : w3.cell? ⟨w.heap.size, 10, none⟩ = some (.slice ta x.txn.length tc) := HB3.out.at 10 rfl
  have HTX := Lib.hid htx
  have A10 := Lib.hid a10
  unfold maxLen at htm
  clear hk ht HT0 htx a10
  have h00 : ((⟨#[98, 101, 103, 105, 110]⟩ : ByteArray) ++ ⟨who.toArray⟩) = ⟨(kindW 5 ++ who ++ tails (micsWords (x.txn.take 0))).toArray⟩ := by
    rw [show (⟨#[98, 101, 103, 105, 110]⟩ : ByteArray) = ⟨(kindW 5).toArray⟩ from rfl, mk_append]; simp [tails, micsWords]
  have H00 := Lib.hid h00
  clear h00
  go_wp2_with fail
  obtain ⟨W4, hW4⟩ : ∃ W4, W4 = w3 := ⟨_, rfl⟩
  subst hW4
  go_loopw [11, 12] (fun s i wr => ∃ k : Nat, k ≤ x.txn.length ∧ i = .int .i64 k ∧ s = .string ⟨(kindW 5 ++ who ++ tails (micsWords (x.txn.take k))).toArray⟩ ∧ Fr W4 wr) (fun _ i _ => x.txn.length - (intOf i).toNat)
  case atStart => exact ⟨0, Nat.zero_le _, rfl, congrArg Value.string H00.out, by first | exact Fr.refl _ | exact (Fr.refl _).drew⟩
  case round =>
    obtain ⟨k, hk, rfl, rfl, hf⟩ := hrel
    have HF := Lib.hid hf
    have b10 := hf.keep A10.out
    have hzb := lt_of_cell b10
    clear a0
    by_cases hlt : k < x.txn.length
    · obtain ⟨b1, o1, rfl, hb1, hc1⟩ := SlAt.at (n := 0) (cap := 0) HTX.out (mic_ne_nil hlt)
      obtain ⟨d0, d1, d2⟩ := micAt (w := w) (F3.out.trans hf) hc1 hlt
      have hb2 := lt_of_cell d0
      have htb := HTB.out x.txn[k] (List.getElem_mem hlt)
      have hk8 : x.txn[k].key < 65536 := by omega
      have hkl := decDigits_len5 (v := x.txn[k].key) (by omega)
      have hvl := decDigits_len5 (v := x.txn[k].v) htb.2
      have hkz := size_mk (Lib.decDigits x.txn[k].key)
      have hvz := size_mk (Lib.decDigits x.txn[k].v)
      have hal : (kindW 5 ++ who ++ tails (micsWords (x.txn.take k))).length ≤ 3000 := by
        have h1 := mics_le (l := x.txn.take k) fun v hv => (by have := HTB.out v (List.mem_of_mem_take hv); exact ⟨by omega, this.2⟩)
        have h2 : (x.txn.take k).length ≤ 8 := by rw [List.length_take]; omega
        have h3 := kindW_len 5
        rw [List.length_append, List.length_append]
        omega
      have haz := size_mk (kindW 5 ++ who ++ tails (micsWords (x.txn.take k)))
      have HN := Lib.hid (show kindW 5 ++ who ++ tails (micsWords (x.txn.take (k + 1))) = (kindW 5 ++ who ++ tails (micsWords (x.txn.take k))) ++ tails (micWords x.txn[k]) by rw [mics_next hlt]; simp)
      have HDK := Lib.hid (fun W => d06_c x.txn[k].key W (by omega))
      have HDV := Lib.hid (fun W => d06_c x.txn[k].v W (by omega))
      generalize kindW 5 ++ who ++ tails (micsWords (x.txn.take k)) = acc at hal haz HN ⊢
      generalize x.txn[k] = m at d0 d1 d2 htb hk8 hkl hvl hkz hvz HN HDK HDV
      obtain ⟨rd, ky, vl⟩ := m
      simp only at d0 d1 d2 htb hk8 hkl hvl hkz hvz HDK HDV
      obtain ⟨htb1, htb2⟩ := htb
      have hk1 : k < tc := by omega
      clear hc1 hf H00
      cases rd
      · have HN2 := Lib.hid (show acc ++ tails (micWords ⟨false, ky, vl⟩) = acc ++ [32, 97, 112, 112, 101, 110, 100, 32] ++ Lib.decDigits ky ++ [32] ++ Lib.decDigits vl by simp [tails, micWords, appendW])
        go_wp2_with fail
        have f10 := FrW.cell b10
        have f1 := FrW.cell d1
        have f2 := FrW.cell d2
        refine wp_region_fr (by kernel_rfl) (by kernel_rfl) ?_
        repeat (go_big_quiet_step ((first | (go_at_call_of 36 (Value.int IntKind.i64 ky); exact frq (HDK.out _)) | (go_at_call_of 36 (Value.int IntKind.i64 vl); exact frq (HDV.out _)))))
        refine wpQuiet_nil ?_
        rintro w5 ⟨⟨_, f5⟩, rfl⟩
        have F5 := Lib.hid (HF.out.trans f5)
        clear f5 f10 f1 f2
        go_wp2_with fail
        go_roundw
        case rel => exact ⟨k + 1, by omega, by go_num, by rw [HN.out, HN2.out, mk_append, mk_append, mk_append, mk_append], F5.out⟩
        case measure => simp [intOf]; omega
      · have HN2 := Lib.hid (show acc ++ tails (micWords ⟨true, ky, vl⟩) = acc ++ [32, 114, 101, 97, 100, 32] ++ Lib.decDigits ky by simp [tails, micWords, readW])
        go_wp2_with fail
        refine (HDK.out _).mono ?_
        rintro e w5 ⟨rfl, f5⟩
        have F5 := Lib.hid (HF.out.trans f5)
        clear f5
        go_wp2_with fail
        go_roundw
        case rel => exact ⟨k + 1, by omega, by go_num, by rw [HN.out, HN2.out, mk_append, mk_append], F5.out⟩
        case measure => simp [intOf]; omega
    · have hkl : x.txn.take k = x.txn := List.take_of_length_le (by omega)
      rw [hkl]
      have HLL : Hid (kindW 5 ++ who ++ tails (micsWords x.txn) = x.line) := Lib.hid (by rw [HL.out]; simp)
      generalize kindW 5 ++ who ++ tails (micsWords x.txn) = acc at HLL
      clear hf H00 hkl
      go_wp2_with fail
      go_ret2
      exact ⟨by rw [← HLL.out]; rfl, F3.out.trans HF.out⟩
end Go.Proofs.YtfklgaeejmeipaaGreatDoor
