/- The document's Line and list. No condition but the numbers' bounds. Printed by gen_refline.py. -/
import Derived.Test.YtfklgaeejmeipaaGreatDoorPRefMayE
import Derived.Test.YtfklgaeejmeipaaGreatDoorPWordsR
import Derived.Test.YtfklgaeejmeipaaGreatDoorPTxtLen
import Derived.Test.YtfklgaeejmeipaaGreatDoorPTxtRefB
import Derived.Test.YtfklgaeejmeipaaGreatDoorPResTextW
import Derived.Deep.Cut
import Derived.Test.YtfklgaeejmeipaaGreatDoorPArms
import Derived.Deep.AppendLies
set_option linter.all false
set_option linter.unusedVariables false
set_option linter.unusedSimpArgs false
set_option linter.unnecessarySimpa false
/- The document's Line and list. No condition but the numbers' bounds. Printed by gen_refline.py. -/
namespace Go.Proofs.YtfklgaeejmeipaaGreatDoor
open Go.RowKit
attribute [local go_sem] Oper.semAt_some

set_option maxRecDepth 100000 in
set_option maxHeartbeats 4000000 in
theorem rline_2 (x : Ev) (t r : Value) (w : World) (ht : RdM w t x.txn) (hr : RdR w r x.reads) (ok : x.Ok) (hm : x.may = true) (hk : x.kind = 2) :
    Calls Tryz.prog 12 #[x.val t r] w (StrRet w (x.line, 0)) := by
  have hkm : x.op.may = true := by
    have h1 := (may_kind hm).1
    unfold Ev.kindMay at h1
    rw [if_neg (by omega), if_pos hk] at h1
    exact h1
  have okp : x.op.Ok := ⟨ok.F, ok.O, ok.K, ok.A, ok.B⟩
  have HL : Hid (x.line = kindW 2 ++ (tails [Lib.decDigits x.client, Lib.decDigits x.id] ++ tails (wordsOf x.op))) := Lib.hid (by rw [line_who (by omega), hk]; unfold Ev.tailW; rw [if_pos hk])
  have HWD := Lib.hid (fun W => rWords_c x.op W okp)
  rw [show x.op.words = wordsOf x.op by unfold OpD.words; rw [if_pos hkm]] at HWD
  obtain ⟨hs1, hs2⟩ := wordsOf_short okp
  generalize wordsOf x.op = L at HL HWD hs1 hs2
  have HS2 := Lib.hid hs2
  clear hs2 hkm okp
  obtain ⟨h17a, h17b⟩ := may_k17 hm
  have hci := (may_kind hm).2.1
  have hid := ok.id
  have HM := Lib.hid (fun W (h : EvAt W (x.val t r) x) => rMayE_c x (x.val t r) W h ok)
  have HE := Lib.hid (show EvAt w (x.val t r) x from ⟨t, r, rfl, ht, hr⟩)
  rw [hm] at HM
  have hl1 := decDigits_len5 (v := x.client) (by omega)
  have hl2 := decDigits_len5 (v := x.id) (by omega)
  have HD1 := Lib.hid (fun W => d06_c x.client W (by omega))
  have HD2 := Lib.hid (fun W => d06_c x.id W (by omega))
  have HK := Lib.hid hk
  clear hk
  unfold Ev.val
  go_enter Tryz.func12, Tryz.ntmps12
  go_wp2_with ((with_reducible refine wpList_here (.load 32 (.tmp 1)) rfl ?_); refine wpList_load_box 32 (.tmp 1) rfl _ rfl (x.cells t r) (BoxAt.new w _ _) _ Tryz.underlying32 rfl Tryz.infoEv rfl ?_)
  refine (HM.out _ (HE.out.keep ((Fr.refl w).alloc _))).mono ?_
  rintro e w1 ⟨rfl, f1⟩
  have HB1 : Hid (BoxAt w1 w.heap.size (x.cells t r) 32) := Lib.hid ((BoxAt.new w (x.cells t r) 32).fr f1)
  have F1 := Lib.hid (((Fr.refl w).alloc (.cells (x.cells t r) 32)).trans f1)
  have hrg : w1.rangeAt w.heap.size 12 x.cfg.cells := rangeAt_cfg HB1.out
  have hz1 := HB1.out.lt
  clear f1
  go_upto_region 4 with (first | ((with_reducible refine wpList_here (.load 30 (.tmp 18)) rfl ?_); refine wpList_load_midW 30 (.tmp 18) rfl w.heap.size 12 rfl x.cfg.cells _ hrg Tryz.underlying30 rfl Tryz.infoCfgR rfl ?_) | ((with_reducible refine wpList_here (.store 30 (.tmp 4) (.tmp 19)) rfl ?_); refine wpList_store_new 30 (.tmp 4) (.tmp 19) rfl _ x.cfg.cells.toArray _ rfl rfl rfl Tryz.infoCfgR rfl (cfgT_one _) rfl rfl ?_))
  refine wp_genT fun W hW => ?_
  have HB2 : Hid (BoxAt W w.heap.size (x.cells t r) 32) := Lib.hid (by rw [hW]; exact HB1.out.fr ((Fr.refl w1).alloc _))
  have F2 : Hid (Fr w W) := Lib.hid (by rw [hW]; exact F1.out.alloc _)
  have HC2 : Hid (BoxAt W w1.heap.size x.cfg.rowT 30) := Lib.hid (by rw [hW]; exact BoxAt.new w1 x.cfg.rowT 30)
  clear hW hrg F1 HB1
  have k1 := FrW.cell (HB2.out.at 1 (show (x.cells t r)[1]? = some (.int .u8 x.client) from rfl))
  have k2 := FrW.cell (HB2.out.at 2 (show (x.cells t r)[2]? = some (.int .u16 x.id) from rfl))
  refine wp_region_fr (by kernel_rfl) (by kernel_rfl) ?_
  repeat (go_big_quiet_step ((first | (go_at_call_of 36 (Value.int IntKind.i64 x.client); exact frq (HD1.out _)) | (go_at_call_of 36 (Value.int IntKind.i64 x.id); exact frq (HD2.out _)))))
  refine wpQuiet_nil ?_
  rintro w3 ⟨⟨_, f3⟩, rfl⟩
  have HB3 : Hid (BoxAt w3 w.heap.size (x.cells t r) 32) := Lib.hid (HB2.out.fr f3)
  have HC3 : Hid (BoxAt w3 w1.heap.size x.cfg.rowT 30) := Lib.hid (HC2.out.fr f3)
  have F3 : Hid (Fr w w3) := Lib.hid (F2.out.trans f3)
  have a0 : w3.cell? ⟨w.heap.size, 0, none⟩ = some (.int .u8 x.kind) := HB3.out.at 0 rfl
  clear f3 HB2 HC2 F2 k1 k2 HM HE HD1 HD2
  have hwl := who_len hl1 hl2
  rw [who_bytes]
  clear hl1 hl2
  generalize hW : tails [Lib.decDigits x.client, Lib.decDigits x.id] = who at hwl
  have HW := Lib.hid hW
  clear hW
  have hws := size_mk who
  have hk := HK.out
  have e1 : ((x.kind : Int) == 1) = false := by simp; omega
  have e2 : ((x.kind : Int) == 2) = true := by simp; omega
  have e3 : ((x.kind : Int) == 3) = false := by simp; omega
  have e4 : ((x.kind : Int) == 4) = false := by simp; omega
  have e5 : ((x.kind : Int) == 5) = false := by simp; omega
  have e6 : ((x.kind : Int) == 6) = false := by simp; omega
  rw [HW.out] at HL
  have a3 : w3.cell? ⟨w.heap.size, 3, none⟩ = some (.int .u8 x.op.F) := HB3.out.at 3 rfl
  have a4 : w3.cell? ⟨w.heap.size, 4, none⟩ = some (.int .u8 x.op.O) := HB3.out.at 4 rfl
  have a5 : w3.cell? ⟨w.heap.size, 5, none⟩ = some (.int .u8 x.op.K) := HB3.out.at 5 rfl
  have a6 : w3.cell? ⟨w.heap.size, 6, none⟩ = some (.int .u16 x.op.A) := HB3.out.at 6 rfl
  have a7 : w3.cell? ⟨w.heap.size, 7, none⟩ = some (.int .u16 x.op.B) := HB3.out.at 7 rfl
  clear hk
  go_wp2_with fail
  refine (HWD.out _).mono ?_
  rintro e w4 ⟨v4, rfl, hv4, f4⟩
  obtain ⟨la, lc, rfl, hlc, hlm⟩ := hv4.form
  unfold maxLen at hlm
  have HV4 := Lib.hid hv4
  have F4 := Lib.hid (F3.out.trans f4)
  clear f4 hv4 a3 a4 a5 a6 a7 a0
  have h00 : ((⟨#[105, 110, 118, 111, 107, 101]⟩ : ByteArray) ++ ⟨who.toArray⟩) = ⟨(kindW 2 ++ who ++ tails (L.take 0)).toArray⟩ := by
    rw [show (⟨#[105, 110, 118, 111, 107, 101]⟩ : ByteArray) = ⟨(kindW 2).toArray⟩ from rfl, mk_append]; simp [tails]
  go_wp2_with fail
  obtain ⟨W4, hW4⟩ : ∃ W4, W4 = w4 := ⟨_, rfl⟩
  subst hW4
  go_loopw [6, 8] (fun s i wr => ∃ k : Nat, k ≤ L.length ∧ i = .int .i64 k ∧ s = .string ⟨(kindW 2 ++ who ++ tails (L.take k)).toArray⟩ ∧ Fr W4 wr) (fun _ i _ => L.length - (intOf i).toNat)
  case atStart => exact ⟨0, Nat.zero_le _, rfl, by first | exact congrArg Value.string h00 | simp, by first | exact Fr.refl _ | exact (Fr.refl _).drew⟩
  case round =>
    obtain ⟨k, hk, rfl, rfl, hf⟩ := hrel
    have HF := Lib.hid hf
    by_cases hlt : k < L.length
    · obtain ⟨b1, o1, cap1, he1, _, _, hb1, hc1⟩ := (HV4.out.keep hf).at hlt
      obtain ⟨hq1, _, hq2⟩ := Value.slice.inj he1
      subst hq1
      have c1 := hc1 k L[k] (by simp [hlt])
      have hkl := HS2.out L[k] (List.getElem_mem hlt)
      have hkz := size_mk L[k]
      have hal : (kindW 2 ++ who ++ tails (L.take k)).length ≤ 3000 := by
        have h1 := tails_le (n := 400) (ws := L.take k) fun v hv => HS2.out v (List.mem_of_mem_take hv)
        have h2 : (L.take k).length ≤ 5 := by rw [List.length_take]; omega
        have h3 := kindW_len 2
        rw [List.length_append, List.length_append]
        omega
      have haz := size_mk (kindW 2 ++ who ++ tails (L.take k))
      have HN := Lib.hid (show kindW 2 ++ who ++ tails (L.take (k + 1)) = (kindW 2 ++ who ++ tails (L.take k)) ++ [32] ++ L[k] by rw [tails_next hlt]; simp)
      generalize kindW 2 ++ who ++ tails (L.take k) = acc at hal haz HN
      generalize L[k] = q at c1 hkl hkz HN
      have hk1 : k < lc := by omega
      clear hc1 he1 hf h00 hq2
      go_wp2_with fail
      go_roundw
      case rel => exact ⟨k + 1, by omega, by go_num, by rw [HN.out, mk_append, mk_append], HF.out⟩
      case measure => simp [intOf]; omega
    · have hkl : L.take k = L := List.take_of_length_le (by omega)
      rw [hkl]
      have HLL : Hid (kindW 2 ++ who ++ tails L = x.line) := Lib.hid (by rw [HL.out]; simp)
      generalize kindW 2 ++ who ++ tails L = acc at HLL
      clear hf h00 hkl
      go_wp2_with fail
      go_ret2
      exact ⟨by rw [← HLL.out]; rfl, F4.out.trans HF.out⟩
set_option maxRecDepth 100000 in
set_option maxHeartbeats 4000000 in
theorem rline_5 (x : Ev) (t r : Value) (w : World) (ht : RdM w t x.txn) (hr : RdR w r x.reads) (ok : x.Ok) (hm : x.may = true) (hk : x.kind = 5) :
    Calls Tryz.prog 12 #[x.val t r] w (StrRet w (x.line, 0)) := by
  have HL : Hid (x.line = kindW 5 ++ (tails [Lib.decDigits x.client, Lib.decDigits x.id] ++ tails (micsWords x.txn))) := Lib.hid (by rw [line_who (by omega), hk]; unfold Ev.tailW; rw [if_neg (by omega), if_neg (by omega), if_pos hk])
  have HTB := Lib.hid ok.txn
  have hl8 : x.txn.length ≤ 8 := by
    have h1 := (may_kind hm).1
    unfold Ev.kindMay at h1
    rw [if_neg (by omega), if_neg (by omega), if_neg (by omega), if_pos hk] at h1
    unfold txnMay at h1
    simp only [Bool.and_eq_true, decide_eq_true_eq] at h1
    exact h1.1.2
  have HT0 := Lib.hid ht
  obtain ⟨h17a, h17b⟩ := may_k17 hm
  have hci := (may_kind hm).2.1
  have hid := ok.id
  have HM := Lib.hid (fun W (h : EvAt W (x.val t r) x) => rMayE_c x (x.val t r) W h ok)
  have HE := Lib.hid (show EvAt w (x.val t r) x from ⟨t, r, rfl, ht, hr⟩)
  rw [hm] at HM
  have hl1 := decDigits_len5 (v := x.client) (by omega)
  have hl2 := decDigits_len5 (v := x.id) (by omega)
  have HD1 := Lib.hid (fun W => d06_c x.client W (by omega))
  have HD2 := Lib.hid (fun W => d06_c x.id W (by omega))
  have HK := Lib.hid hk
  clear hk
  unfold Ev.val
  go_enter Tryz.func12, Tryz.ntmps12
  go_wp2_with ((with_reducible refine wpList_here (.load 32 (.tmp 1)) rfl ?_); refine wpList_load_box 32 (.tmp 1) rfl _ rfl (x.cells t r) (BoxAt.new w _ _) _ Tryz.underlying32 rfl Tryz.infoEv rfl ?_)
  refine (HM.out _ (HE.out.keep ((Fr.refl w).alloc _))).mono ?_
  rintro e w1 ⟨rfl, f1⟩
  have HB1 : Hid (BoxAt w1 w.heap.size (x.cells t r) 32) := Lib.hid ((BoxAt.new w (x.cells t r) 32).fr f1)
  have F1 := Lib.hid (((Fr.refl w).alloc (.cells (x.cells t r) 32)).trans f1)
  have hrg : w1.rangeAt w.heap.size 12 x.cfg.cells := rangeAt_cfg HB1.out
  have hz1 := HB1.out.lt
  clear f1
  go_upto_region 4 with (first | ((with_reducible refine wpList_here (.load 30 (.tmp 18)) rfl ?_); refine wpList_load_midW 30 (.tmp 18) rfl w.heap.size 12 rfl x.cfg.cells _ hrg Tryz.underlying30 rfl Tryz.infoCfgR rfl ?_) | ((with_reducible refine wpList_here (.store 30 (.tmp 4) (.tmp 19)) rfl ?_); refine wpList_store_new 30 (.tmp 4) (.tmp 19) rfl _ x.cfg.cells.toArray _ rfl rfl rfl Tryz.infoCfgR rfl (cfgT_one _) rfl rfl ?_))
  refine wp_genT fun W hW => ?_
  have HB2 : Hid (BoxAt W w.heap.size (x.cells t r) 32) := Lib.hid (by rw [hW]; exact HB1.out.fr ((Fr.refl w1).alloc _))
  have F2 : Hid (Fr w W) := Lib.hid (by rw [hW]; exact F1.out.alloc _)
  have HC2 : Hid (BoxAt W w1.heap.size x.cfg.rowT 30) := Lib.hid (by rw [hW]; exact BoxAt.new w1 x.cfg.rowT 30)
  clear hW hrg F1 HB1
  have k1 := FrW.cell (HB2.out.at 1 (show (x.cells t r)[1]? = some (.int .u8 x.client) from rfl))
  have k2 := FrW.cell (HB2.out.at 2 (show (x.cells t r)[2]? = some (.int .u16 x.id) from rfl))
  refine wp_region_fr (by kernel_rfl) (by kernel_rfl) ?_
  repeat (go_big_quiet_step ((first | (go_at_call_of 36 (Value.int IntKind.i64 x.client); exact frq (HD1.out _)) | (go_at_call_of 36 (Value.int IntKind.i64 x.id); exact frq (HD2.out _)))))
  refine wpQuiet_nil ?_
  rintro w3 ⟨⟨_, f3⟩, rfl⟩
  have HB3 : Hid (BoxAt w3 w.heap.size (x.cells t r) 32) := Lib.hid (HB2.out.fr f3)
  have HC3 : Hid (BoxAt w3 w1.heap.size x.cfg.rowT 30) := Lib.hid (HC2.out.fr f3)
  have F3 : Hid (Fr w w3) := Lib.hid (F2.out.trans f3)
  have a0 : w3.cell? ⟨w.heap.size, 0, none⟩ = some (.int .u8 x.kind) := HB3.out.at 0 rfl
  clear f3 HB2 HC2 F2 k1 k2 HM HE HD1 HD2
  have hwl := who_len hl1 hl2
  rw [who_bytes]
  clear hl1 hl2
  generalize hW : tails [Lib.decDigits x.client, Lib.decDigits x.id] = who at hwl
  have HW := Lib.hid hW
  clear hW
  have hws := size_mk who
  have hk := HK.out
  have e1 : ((x.kind : Int) == 1) = false := by simp; omega
  have e2 : ((x.kind : Int) == 2) = false := by simp; omega
  have e3 : ((x.kind : Int) == 3) = false := by simp; omega
  have e4 : ((x.kind : Int) == 4) = false := by simp; omega
  have e5 : ((x.kind : Int) == 5) = true := by simp; omega
  have e6 : ((x.kind : Int) == 6) = false := by simp; omega
  rw [HW.out] at HL
  obtain ⟨ta, tc, rfl, htc, htm, htx⟩ := HT0.out
  have a10 : w3.cell? ⟨w.heap.size, 10, none⟩ = some (.slice ta x.txn.length tc) := HB3.out.at 10 rfl
  have HTX := Lib.hid htx
  have A10 := Lib.hid a10
  unfold maxLen at htm
  clear hk ht HT0 htx a10
  have h00 : ((⟨#[98, 101, 103, 105, 110]⟩ : ByteArray) ++ ⟨who.toArray⟩) = ⟨(kindW 5 ++ who ++ tails (micsWords (x.txn.take 0))).toArray⟩ := by
    rw [show (⟨#[98, 101, 103, 105, 110]⟩ : ByteArray) = ⟨(kindW 5).toArray⟩ from rfl, mk_append]; simp [tails, micsWords]
  have H00 := Lib.hid h00
  clear h00
  go_wp2_with fail
  obtain ⟨W4, hW4⟩ : ∃ W4, W4 = w3 := ⟨_, rfl⟩
  subst hW4
  go_loopw [11, 12] (fun s i wr => ∃ k : Nat, k ≤ x.txn.length ∧ i = .int .i64 k ∧ s = .string ⟨(kindW 5 ++ who ++ tails (micsWords (x.txn.take k))).toArray⟩ ∧ Fr W4 wr) (fun _ i _ => x.txn.length - (intOf i).toNat)
  case atStart => exact ⟨0, Nat.zero_le _, rfl, congrArg Value.string H00.out, by first | exact Fr.refl _ | exact (Fr.refl _).drew⟩
  case round =>
    obtain ⟨k, hk, rfl, rfl, hf⟩ := hrel
    have HF := Lib.hid hf
    have b10 := hf.keep A10.out
    have hzb := lt_of_cell b10
    clear a0
    by_cases hlt : k < x.txn.length
    · obtain ⟨b1, o1, rfl, hb1, hc1⟩ := SlAt.at (n := 0) (cap := 0) HTX.out (mic_ne_nil hlt)
      obtain ⟨d0, d1, d2⟩ := micAt (w := w) (F3.out.trans hf) hc1 hlt
      have hb2 := lt_of_cell d0
      have htb := HTB.out x.txn[k] (List.getElem_mem hlt)
      have hk8 : x.txn[k].key < 65536 := by omega
      have hkl := decDigits_len5 (v := x.txn[k].key) (by omega)
      have hvl := decDigits_len5 (v := x.txn[k].v) htb.2
      have hkz := size_mk (Lib.decDigits x.txn[k].key)
      have hvz := size_mk (Lib.decDigits x.txn[k].v)
      have hal : (kindW 5 ++ who ++ tails (micsWords (x.txn.take k))).length ≤ 3000 := by
        have h1 := mics_le (l := x.txn.take k) fun v hv => (by have := HTB.out v (List.mem_of_mem_take hv); exact ⟨by omega, this.2⟩)
        have h2 : (x.txn.take k).length ≤ 8 := by rw [List.length_take]; omega
        have h3 := kindW_len 5
        rw [List.length_append, List.length_append]
        omega
      have haz := size_mk (kindW 5 ++ who ++ tails (micsWords (x.txn.take k)))
      have HN := Lib.hid (show kindW 5 ++ who ++ tails (micsWords (x.txn.take (k + 1))) = (kindW 5 ++ who ++ tails (micsWords (x.txn.take k))) ++ tails (micWords x.txn[k]) by rw [mics_next hlt]; simp)
      have HDK := Lib.hid (fun W => d06_c x.txn[k].key W (by omega))
      have HDV := Lib.hid (fun W => d06_c x.txn[k].v W (by omega))
      generalize kindW 5 ++ who ++ tails (micsWords (x.txn.take k)) = acc at hal haz HN ⊢
      generalize x.txn[k] = m at d0 d1 d2 htb hk8 hkl hvl hkz hvz HN HDK HDV
      obtain ⟨rd, ky, vl⟩ := m
      simp only at d0 d1 d2 htb hk8 hkl hvl hkz hvz HDK HDV
      obtain ⟨htb1, htb2⟩ := htb
      have hk1 : k < tc := by omega
      clear hc1 hf H00
      cases rd
      · have HN2 := Lib.hid (show acc ++ tails (micWords ⟨false, ky, vl⟩) = acc ++ [32, 97, 112, 112, 101, 110, 100, 32] ++ Lib.decDigits ky ++ [32] ++ Lib.decDigits vl by simp [tails, micWords, appendW])
        go_wp2_with fail
        have f10 := FrW.cell b10
        have f1 := FrW.cell d1
        have f2 := FrW.cell d2
        refine wp_region_fr (by kernel_rfl) (by kernel_rfl) ?_
        repeat (go_big_quiet_step ((first | (go_at_call_of 36 (Value.int IntKind.i64 ky); exact frq (HDK.out _)) | (go_at_call_of 36 (Value.int IntKind.i64 vl); exact frq (HDV.out _)))))
        refine wpQuiet_nil ?_
        rintro w5 ⟨⟨_, f5⟩, rfl⟩
        have F5 := Lib.hid (HF.out.trans f5)
        clear f5 f10 f1 f2
        go_wp2_with fail
        go_roundw
        case rel => exact ⟨k + 1, by omega, by go_num, by rw [HN.out, HN2.out, mk_append, mk_append, mk_append, mk_append], F5.out⟩
        case measure => simp [intOf]; omega
      · have HN2 := Lib.hid (show acc ++ tails (micWords ⟨true, ky, vl⟩) = acc ++ [32, 114, 101, 97, 100, 32] ++ Lib.decDigits ky by simp [tails, micWords, readW])
        go_wp2_with fail
        refine (HDK.out _).mono ?_
        rintro e w5 ⟨rfl, f5⟩
        have F5 := Lib.hid (HF.out.trans f5)
        clear f5
        go_wp2_with fail
        go_roundw
        case rel => exact ⟨k + 1, by omega, by go_num, by rw [HN.out, HN2.out, mk_append, mk_append], F5.out⟩
        case measure => simp [intOf]; omega
    · have hkl : x.txn.take k = x.txn := List.take_of_length_le (by omega)
      rw [hkl]
      have HLL : Hid (kindW 5 ++ who ++ tails (micsWords x.txn) = x.line) := Lib.hid (by rw [HL.out]; simp)
      generalize kindW 5 ++ who ++ tails (micsWords x.txn) = acc at HLL
      clear hf H00 hkl
      go_wp2_with fail
      go_ret2
      exact ⟨by rw [← HLL.out]; rfl, F3.out.trans HF.out⟩
set_option maxRecDepth 100000 in
set_option maxHeartbeats 4000000 in
theorem rline_6 (x : Ev) (t r : Value) (w : World) (ht : RdM w t x.txn) (hr : RdR w r x.reads) (ok : x.Ok) (hm : x.may = true) (hk : x.kind = 6) :
    Calls Tryz.prog 12 #[x.val t r] w (StrRet w (x.line, 0)) := by
  have HL : Hid (x.line = kindW 6 ++ (tails [Lib.decDigits x.client, Lib.decDigits x.id] ++ tails (x.reads.map listWord))) := Lib.hid (by rw [line_who (by omega), hk]; unfold Ev.tailW; rw [if_neg (by omega), if_neg (by omega), if_neg (by omega), if_pos hk])
  have HTB := Lib.hid ok.reads
  have HLB : Hid (x.reads.length ≤ 8 ∧ ∀ l ∈ x.reads, l.length ≤ 60) := Lib.hid (by
    have h1 := (may_kind hm).1
    unfold Ev.kindMay at h1
    rw [if_neg (by omega), if_neg (by omega), if_neg (by omega), if_neg (by omega), if_pos hk] at h1
    unfold readsMay at h1
    simp only [Bool.and_eq_true, decide_eq_true_eq, Bool.not_eq_true'] at h1
    refine ⟨h1.1, fun l hl => ?_⟩
    have hq := List.any_eq_false.1 h1.2 l hl
    unfold listBad at hq
    simp only [decide_eq_true_eq] at hq
    omega)
  have hl8 := HLB.out.1
  have HT0 := Lib.hid hr
  obtain ⟨h17a, h17b⟩ := may_k17 hm
  have hci := (may_kind hm).2.1
  have hid := ok.id
  have HM := Lib.hid (fun W (h : EvAt W (x.val t r) x) => rMayE_c x (x.val t r) W h ok)
  have HE := Lib.hid (show EvAt w (x.val t r) x from ⟨t, r, rfl, ht, hr⟩)
  rw [hm] at HM
  have hl1 := decDigits_len5 (v := x.client) (by omega)
  have hl2 := decDigits_len5 (v := x.id) (by omega)
  have HD1 := Lib.hid (fun W => d06_c x.client W (by omega))
  have HD2 := Lib.hid (fun W => d06_c x.id W (by omega))
  have HK := Lib.hid hk
  clear hk
  unfold Ev.val
  go_enter Tryz.func12, Tryz.ntmps12
  go_wp2_with ((with_reducible refine wpList_here (.load 32 (.tmp 1)) rfl ?_); refine wpList_load_box 32 (.tmp 1) rfl _ rfl (x.cells t r) (BoxAt.new w _ _) _ Tryz.underlying32 rfl Tryz.infoEv rfl ?_)
  refine (HM.out _ (HE.out.keep ((Fr.refl w).alloc _))).mono ?_
  rintro e w1 ⟨rfl, f1⟩
  have HB1 : Hid (BoxAt w1 w.heap.size (x.cells t r) 32) := Lib.hid ((BoxAt.new w (x.cells t r) 32).fr f1)
  have F1 := Lib.hid (((Fr.refl w).alloc (.cells (x.cells t r) 32)).trans f1)
  have hrg : w1.rangeAt w.heap.size 12 x.cfg.cells := rangeAt_cfg HB1.out
  have hz1 := HB1.out.lt
  clear f1
  go_upto_region 4 with (first | ((with_reducible refine wpList_here (.load 30 (.tmp 18)) rfl ?_); refine wpList_load_midW 30 (.tmp 18) rfl w.heap.size 12 rfl x.cfg.cells _ hrg Tryz.underlying30 rfl Tryz.infoCfgR rfl ?_) | ((with_reducible refine wpList_here (.store 30 (.tmp 4) (.tmp 19)) rfl ?_); refine wpList_store_new 30 (.tmp 4) (.tmp 19) rfl _ x.cfg.cells.toArray _ rfl rfl rfl Tryz.infoCfgR rfl (cfgT_one _) rfl rfl ?_))
  refine wp_genT fun W hW => ?_
  have HB2 : Hid (BoxAt W w.heap.size (x.cells t r) 32) := Lib.hid (by rw [hW]; exact HB1.out.fr ((Fr.refl w1).alloc _))
  have F2 : Hid (Fr w W) := Lib.hid (by rw [hW]; exact F1.out.alloc _)
  have HC2 : Hid (BoxAt W w1.heap.size x.cfg.rowT 30) := Lib.hid (by rw [hW]; exact BoxAt.new w1 x.cfg.rowT 30)
  clear hW hrg F1 HB1
  have k1 := FrW.cell (HB2.out.at 1 (show (x.cells t r)[1]? = some (.int .u8 x.client) from rfl))
  have k2 := FrW.cell (HB2.out.at 2 (show (x.cells t r)[2]? = some (.int .u16 x.id) from rfl))
  refine wp_region_fr (by kernel_rfl) (by kernel_rfl) ?_
  repeat (go_big_quiet_step ((first | (go_at_call_of 36 (Value.int IntKind.i64 x.client); exact frq (HD1.out _)) | (go_at_call_of 36 (Value.int IntKind.i64 x.id); exact frq (HD2.out _)))))
  refine wpQuiet_nil ?_
  rintro w3 ⟨⟨_, f3⟩, rfl⟩
  have HB3 : Hid (BoxAt w3 w.heap.size (x.cells t r) 32) := Lib.hid (HB2.out.fr f3)
  have HC3 : Hid (BoxAt w3 w1.heap.size x.cfg.rowT 30) := Lib.hid (HC2.out.fr f3)
  have F3 : Hid (Fr w w3) := Lib.hid (F2.out.trans f3)
  have a0 : w3.cell? ⟨w.heap.size, 0, none⟩ = some (.int .u8 x.kind) := HB3.out.at 0 rfl
  clear f3 HB2 HC2 F2 k1 k2 HM HE HD1 HD2
  have hwl := who_len hl1 hl2
  rw [who_bytes]
  clear hl1 hl2
  generalize hW : tails [Lib.decDigits x.client, Lib.decDigits x.id] = who at hwl
  have HW := Lib.hid hW
  clear hW
  have hws := size_mk who
  have hk := HK.out
  have e1 : ((x.kind : Int) == 1) = false := by simp; omega
  have e2 : ((x.kind : Int) == 2) = false := by simp; omega
  have e3 : ((x.kind : Int) == 3) = false := by simp; omega
  have e4 : ((x.kind : Int) == 4) = false := by simp; omega
  have e5 : ((x.kind : Int) == 5) = false := by simp; omega
  have e6 : ((x.kind : Int) == 6) = true := by simp; omega
  rw [HW.out] at HL
  obtain ⟨vs, hvl, ⟨ra, rc, rfl, hrc, hrm, hrx⟩, hin⟩ := HT0.out
  have a11 : w3.cell? ⟨w.heap.size, 11, none⟩ = some (.slice ra x.reads.length rc) := HB3.out.at 11 rfl
  have HIN := Lib.hid (fun k (hk : k < x.reads.length) => RdR.at (n := 0) (cap := 0) hvl hrx hin hk)
  have A11 := Lib.hid a11
  unfold maxLen at hrm
  clear hk hr HT0 hrx a11 hin hvl
  have h00 : ((⟨#[99, 111, 109, 109, 105, 116]⟩ : ByteArray) ++ ⟨who.toArray⟩) = ⟨(kindW 6 ++ who ++ tails ((x.reads.map listWord).take 0)).toArray⟩ := by
    rw [show (⟨#[99, 111, 109, 109, 105, 116]⟩ : ByteArray) = ⟨(kindW 6).toArray⟩ from rfl, mk_append]; simp [tails]
  have H00 := Lib.hid h00
  clear h00
  go_wp2_with fail
  obtain ⟨W4, hW4⟩ : ∃ W4, W4 = w3 := ⟨_, rfl⟩
  subst hW4
  go_loopw [13, 14] (fun s i wr => ∃ k : Nat, k ≤ x.reads.length ∧ i = .int .i64 k ∧ s = .string ⟨(kindW 6 ++ who ++ tails ((x.reads.map listWord).take k)).toArray⟩ ∧ Fr W4 wr) (fun _ i _ => x.reads.length - (intOf i).toNat)
  case atStart => exact ⟨0, Nat.zero_le _, rfl, congrArg Value.string H00.out, by first | exact Fr.refl _ | exact (Fr.refl _).drew⟩
  case round =>
    obtain ⟨k, hk, rfl, rfl, hf⟩ := hrel
    have HF := Lib.hid hf
    have b11 := hf.keep A11.out
    have hzb := lt_of_cell b11
    clear a0
    have hlm : (x.reads.map listWord).length = x.reads.length := List.length_map _
    by_cases hlt : k < x.reads.length
    · obtain ⟨b1, o1, u, rfl, c1, hu⟩ := HIN.out k hlt
      have d1 := (F3.out.trans hf).keep c1
      have hb2 := lt_of_cell d1
      have hmem := List.getElem_mem hlt
      have HD := Lib.hid (fun W (f : Fr w W) => list06_c u x.reads[k] W (hu.keep f) (by have := HLB.out.2 _ hmem; omega) (HTB.out _ hmem))
      obtain ⟨ua, uc, rfl, _, _, _⟩ := hu
      have hll := listWord_len (HLB.out.2 _ hmem) (HTB.out _ hmem)
      have hlz := size_mk (listWord x.reads[k])
      have hal : (kindW 6 ++ who ++ tails ((x.reads.map listWord).take k)).length ≤ 4000 := by
        have h1 := tails_le (n := 360) (ws := (x.reads.map listWord).take k) fun v hv => (by
          obtain ⟨l, hl, rfl⟩ := List.mem_map.1 (List.mem_of_mem_take hv)
          exact listWord_len (HLB.out.2 _ hl) (HTB.out _ hl))
        have h2 : ((x.reads.map listWord).take k).length ≤ 8 := by rw [List.length_take]; omega
        have h3 := kindW_len 6
        rw [List.length_append, List.length_append]
        omega
      have haz := size_mk (kindW 6 ++ who ++ tails ((x.reads.map listWord).take k))
      have HN := Lib.hid (show kindW 6 ++ who ++ tails ((x.reads.map listWord).take (k + 1)) = (kindW 6 ++ who ++ tails ((x.reads.map listWord).take k)) ++ [32] ++ listWord x.reads[k] by rw [tails_next (by rw [hlm]; exact hlt)]; simp)
      generalize kindW 6 ++ who ++ tails ((x.reads.map listWord).take k) = acc at hal haz HN ⊢
      generalize listWord x.reads[k] = q at hll hlz HN HD
      generalize x.reads[k].length = nn at HD d1 c1
      have hk1 : k < rc := by omega
      clear hf H00 hlm hmem
      go_wp2_with fail
      refine (HD.out _ (F3.out.trans HF.out)).mono ?_
      rintro e w5 ⟨rfl, f5⟩
      have F5 := Lib.hid (HF.out.trans f5)
      clear f5
      go_wp2_with fail
      go_roundw
      case rel => exact ⟨k + 1, by omega, by go_num, by rw [HN.out, mk_append, mk_append], F5.out⟩
      case measure => simp [intOf]; omega
    · have hkl : (x.reads.map listWord).take k = x.reads.map listWord := List.take_of_length_le (by omega)
      rw [hkl]
      have HLL : Hid (kindW 6 ++ who ++ tails (x.reads.map listWord) = x.line) := Lib.hid (by rw [HL.out]; simp)
      generalize kindW 6 ++ who ++ tails (x.reads.map listWord) = acc at HLL
      clear hf H00 hkl hlm
      go_wp2_with fail
      go_ret2
      exact ⟨by rw [← HLL.out]; rfl, F3.out.trans HF.out⟩
set_option maxRecDepth 100000 in
set_option maxHeartbeats 4000000 in
theorem rline_1 (x : Ev) (t r : Value) (w : World) (ht : RdM w t x.txn) (hr : RdR w r x.reads) (ok : x.Ok) (hm : x.may = true) (hk : x.kind = 1) :
    Calls Tryz.prog 12 #[x.val t r] w (StrRet w (x.line, 0)) := by
  have hcm : cfgMay x.cfg = true := by have h1 := (may_kind hm).1; unfold Ev.kindMay at h1; rwa [if_pos hk] at h1
  have HL : Hid (x.line = kindW 1 ++ tails (cfgWords x.cfg)) := Lib.hid (by rw [line_tails, if_pos hk, hk])
  have HCM := Lib.hid (cfgMay_facts hcm)
  clear hcm
  obtain ⟨h17a, h17b⟩ := may_k17 hm
  have hci := (may_kind hm).2.1
  have hid := ok.id
  have HM := Lib.hid (fun W (h : EvAt W (x.val t r) x) => rMayE_c x (x.val t r) W h ok)
  have HE := Lib.hid (show EvAt w (x.val t r) x from ⟨t, r, rfl, ht, hr⟩)
  rw [hm] at HM
  have hl1 := decDigits_len5 (v := x.client) (by omega)
  have hl2 := decDigits_len5 (v := x.id) (by omega)
  have HD1 := Lib.hid (fun W => d06_c x.client W (by omega))
  have HD2 := Lib.hid (fun W => d06_c x.id W (by omega))
  have HK := Lib.hid hk
  clear hk
  unfold Ev.val
  go_enter Tryz.func12, Tryz.ntmps12
  go_wp2_with ((with_reducible refine wpList_here (.load 32 (.tmp 1)) rfl ?_); refine wpList_load_box 32 (.tmp 1) rfl _ rfl (x.cells t r) (BoxAt.new w _ _) _ Tryz.underlying32 rfl Tryz.infoEv rfl ?_)
  refine (HM.out _ (HE.out.keep ((Fr.refl w).alloc _))).mono ?_
  rintro e w1 ⟨rfl, f1⟩
  have HB1 : Hid (BoxAt w1 w.heap.size (x.cells t r) 32) := Lib.hid ((BoxAt.new w (x.cells t r) 32).fr f1)
  have F1 := Lib.hid (((Fr.refl w).alloc (.cells (x.cells t r) 32)).trans f1)
  have hrg : w1.rangeAt w.heap.size 12 x.cfg.cells := rangeAt_cfg HB1.out
  have hz1 := HB1.out.lt
  clear f1
  go_upto_region 4 with (first | ((with_reducible refine wpList_here (.load 30 (.tmp 18)) rfl ?_); refine wpList_load_midW 30 (.tmp 18) rfl w.heap.size 12 rfl x.cfg.cells _ hrg Tryz.underlying30 rfl Tryz.infoCfgR rfl ?_) | ((with_reducible refine wpList_here (.store 30 (.tmp 4) (.tmp 19)) rfl ?_); refine wpList_store_new 30 (.tmp 4) (.tmp 19) rfl _ x.cfg.cells.toArray _ rfl rfl rfl Tryz.infoCfgR rfl (cfgT_one _) rfl rfl ?_))
  refine wp_genT fun W hW => ?_
  have HB2 : Hid (BoxAt W w.heap.size (x.cells t r) 32) := Lib.hid (by rw [hW]; exact HB1.out.fr ((Fr.refl w1).alloc _))
  have F2 : Hid (Fr w W) := Lib.hid (by rw [hW]; exact F1.out.alloc _)
  have HC2 : Hid (BoxAt W w1.heap.size x.cfg.rowT 30) := Lib.hid (by rw [hW]; exact BoxAt.new w1 x.cfg.rowT 30)
  clear hW hrg F1 HB1
  have k1 := FrW.cell (HB2.out.at 1 (show (x.cells t r)[1]? = some (.int .u8 x.client) from rfl))
  have k2 := FrW.cell (HB2.out.at 2 (show (x.cells t r)[2]? = some (.int .u16 x.id) from rfl))
  refine wp_region_fr (by kernel_rfl) (by kernel_rfl) ?_
  repeat (go_big_quiet_step ((first | (go_at_call_of 36 (Value.int IntKind.i64 x.client); exact frq (HD1.out _)) | (go_at_call_of 36 (Value.int IntKind.i64 x.id); exact frq (HD2.out _)))))
  refine wpQuiet_nil ?_
  rintro w3 ⟨⟨_, f3⟩, rfl⟩
  have HB3 : Hid (BoxAt w3 w.heap.size (x.cells t r) 32) := Lib.hid (HB2.out.fr f3)
  have HC3 : Hid (BoxAt w3 w1.heap.size x.cfg.rowT 30) := Lib.hid (HC2.out.fr f3)
  have F3 : Hid (Fr w w3) := Lib.hid (F2.out.trans f3)
  have a0 : w3.cell? ⟨w.heap.size, 0, none⟩ = some (.int .u8 x.kind) := HB3.out.at 0 rfl
  clear f3 HB2 HC2 F2 k1 k2 HM HE HD1 HD2
  have hwl := who_len hl1 hl2
  rw [who_bytes]
  clear hl1 hl2
  generalize hW : tails [Lib.decDigits x.client, Lib.decDigits x.id] = who at hwl
  have HW := Lib.hid hW
  clear hW
  have hws := size_mk who
  have hk := HK.out
  have e1 : ((x.kind : Int) == 1) = true := by simp; omega
  have e2 : ((x.kind : Int) == 2) = false := by simp; omega
  have e3 : ((x.kind : Int) == 3) = false := by simp; omega
  have e4 : ((x.kind : Int) == 4) = false := by simp; omega
  have e5 : ((x.kind : Int) == 5) = false := by simp; omega
  have e6 : ((x.kind : Int) == 6) = false := by simp; omega
  clear HW hk
  obtain ⟨g, hg⟩ : ∃ g, g = x.cfg := ⟨_, rfl⟩
  rw [← hg] at HC3 HL HCM
  clear hg
  obtain ⟨m, o, st, sp, p1, p2, p3⟩ := g
  obtain ⟨c1, c2, c3, c4, c5, c6, c7⟩ := HCM.out
  simp only at c1 c2 c3 c4 c5 c6 c7
  obtain ⟨n1, rfl⟩ := Int.eq_ofNat_of_zero_le (show 0 ≤ o by omega)
  obtain ⟨n2, rfl⟩ := Int.eq_ofNat_of_zero_le (show 0 ≤ st by omega)
  obtain ⟨n3, rfl⟩ := Int.eq_ofNat_of_zero_le (show 0 ≤ sp by omega)
  have k0 := FrW.cell (HC3.out.at 0 (show (Cfg.rowT ⟨m, (n1 : Int), (n2 : Int), (n3 : Int), p1, p2, p3⟩)[0]? = some (.int .u8 m) from rfl))
  have k1 := FrW.cell (HC3.out.at 1 (show (Cfg.rowT ⟨m, (n1 : Int), (n2 : Int), (n3 : Int), p1, p2, p3⟩)[1]? = some (.int .i64 n1) from rfl))
  have k2 := FrW.cell (HC3.out.at 2 (show (Cfg.rowT ⟨m, (n1 : Int), (n2 : Int), (n3 : Int), p1, p2, p3⟩)[2]? = some (.int .i64 n2) from rfl))
  have k3 := FrW.cell (HC3.out.at 3 (show (Cfg.rowT ⟨m, (n1 : Int), (n2 : Int), (n3 : Int), p1, p2, p3⟩)[3]? = some (.int .i64 n3) from rfl))
  have k4 := FrW.cell (HC3.out.at 4 (show (Cfg.rowT ⟨m, (n1 : Int), (n2 : Int), (n3 : Int), p1, p2, p3⟩)[4]? = some (.bool p1) from rfl))
  have k5 := FrW.cell (HC3.out.at 5 (show (Cfg.rowT ⟨m, (n1 : Int), (n2 : Int), (n3 : Int), p1, p2, p3⟩)[5]? = some (.bool p2) from rfl))
  have k6 := FrW.cell (HC3.out.at 6 (show (Cfg.rowT ⟨m, (n1 : Int), (n2 : Int), (n3 : Int), p1, p2, p3⟩)[6]? = some (.bool p3) from rfl))
  have HM0 := Lib.hid (fun W => model06_c m W (by omega))
  have HD1 := Lib.hid (fun W => d06_c n1 W (by omega))
  have HD2 := Lib.hid (fun W => d06_c n2 W (by omega))
  have HD3 := Lib.hid (fun W => d06_c n3 W (by omega))
  have HP1 := Lib.hid (fun W => flag06_c p1 partitionW W (by decide))
  have HP2 := Lib.hid (fun W => flag06_c p2 cutW W (by decide))
  have HP3 := Lib.hid (fun W => flag06_c p3 memoW W (by decide))
  have l0 := modelW_len m
  have l1 := dd_len7 (n := n1) (by omega)
  have l2 := dd_len7 (n := n2) (by omega)
  have l3 := dd_len7 (n := n3) (by omega)
  have l4 : (flagB p1 partitionW).length ≤ 10 := by unfold flagB; split <;> decide
  have l5 : (flagB p2 cutW).length ≤ 4 := by unfold flagB; split <;> decide
  have l6 : (flagB p3 memoW).length ≤ 5 := by unfold flagB; split <;> decide
  have q0 := size_mk (modelW m)
  have q1 := size_mk (Lib.decDigits n1)
  have q2 := size_mk (Lib.decDigits n2)
  have q3 := size_mk (Lib.decDigits n3)
  have q4 := size_mk (flagB p1 partitionW)
  have q5 := size_mk (flagB p2 cutW)
  have q6 := size_mk (flagB p3 memoW)
  have hpl : x.line = [99, 111, 110, 102, 105, 103, 32] ++ modelW m ++ [32] ++ Lib.decDigits n1 ++ [32] ++ Lib.decDigits n2 ++ [32] ++ Lib.decDigits n3 ++ flagB p1 partitionW ++ flagB p2 cutW ++ flagB p3 memoW := by
    rw [HL.out]
    cases p1 <;> cases p2 <;> cases p3 <;> simp [kindW, tails, cfgWords, flagW, flagB]
  have HPL := Lib.hid hpl
  clear hpl HL HCM c1 c2 c3 c4 c5 c6 c7
  generalize modelW m = s0 at HM0 l0 q0 HPL
  generalize Lib.decDigits n1 = s1 at HD1 l1 q1 HPL
  generalize Lib.decDigits n2 = s2 at HD2 l2 q2 HPL
  generalize Lib.decDigits n3 = s3 at HD3 l3 q3 HPL
  generalize flagB p1 partitionW = s4 at HP1 l4 q4 HPL
  generalize flagB p2 cutW = s5 at HP2 l5 q5 HPL
  generalize flagB p3 memoW = s6 at HP3 l6 q6 HPL
  unfold partitionW at HP1
  unfold cutW at HP2
  unfold memoW at HP3
  go_wp2_with fail
  refine wp_region_fr (by kernel_rfl) (by kernel_rfl) ?_
  repeat (go_big_quiet_step ((first | (go_at_call 37; exact frq (HM0.out _)) | (go_at_call_of 36 (Value.int IntKind.i64 n1); exact frq (HD1.out _)) | (go_at_call_of 36 (Value.int IntKind.i64 n2); exact frq (HD2.out _)) | (go_at_call_of 36 (Value.int IntKind.i64 n3); exact frq (HD3.out _)) | (go_at_call_of 38 (Value.bool p1); exact frq (HP1.out _)) | (go_at_call_of 38 (Value.bool p2); exact frq (HP2.out _)) | (go_at_call_of 38 (Value.bool p3); exact frq (HP3.out _)))))
  refine wpQuiet_nil ?_
  rintro w5 ⟨⟨_, f5⟩, rfl⟩
  have F5 := Lib.hid (F3.out.trans f5)
  clear f5
  go_wp2_with fail
  go_ret2
  exact ⟨ret_str2e (by rw [HPL.out]; repeat rw [mk_append]), F5.out⟩
set_option maxRecDepth 100000 in
set_option maxHeartbeats 4000000 in
theorem rline_no (x : Ev) (t r : Value) (w : World) (ht : RdM w t x.txn) (hr : RdR w r x.reads) (ok : x.Ok) (hm : x.may = false) :
    Calls Tryz.prog 12 #[x.val t r] w (StrRet w ([], 4)) := by
  have HM := Lib.hid (fun W (h : EvAt W (x.val t r) x) => rMayE_c x (x.val t r) W h ok)
  have HE := Lib.hid (show EvAt w (x.val t r) x from ⟨t, r, rfl, ht, hr⟩)
  rw [hm] at HM
  unfold Ev.val
  go_enter Tryz.func12, Tryz.ntmps12
  go_wp2_with ((with_reducible refine wpList_here (.load 32 (.tmp 1)) rfl ?_); refine wpList_load_box 32 (.tmp 1) rfl _ rfl (x.cells t r) (BoxAt.new w _ _) _ Tryz.underlying32 rfl Tryz.infoEv rfl ?_)
  refine (HM.out _ (HE.out.keep ((Fr.refl w).alloc _))).mono ?_
  rintro e w1 ⟨rfl, f1⟩
  have F1 := Lib.hid (((Fr.refl w).alloc (.cells (x.cells t r) 32)).trans f1)
  clear f1
  go_wp2_with fail
  go_ret2
  exact ⟨rfl, F1.out⟩
/-- The document's Line answers what text.Line does. -/
theorem rLine_c (x : Ev) (v : Value) (w : World) (hx : EvAt w v x) (ok : x.Ok) : Calls Tryz.prog 12 #[v] w (StrRet w x.said) := by
  obtain ⟨⟨t, r, rfl, ht, hr⟩⟩ := hx
  unfold Ev.said
  cases hm : x.may
  · simp only [Bool.false_eq_true, if_false]
    exact rline_no x t r w ht hr ok hm
  · simp only [if_true]
    have h17 := may_k17 hm
    rcases (show x.kind = 1 ∨ x.kind = 2 ∨ x.kind = 3 ∨ x.kind = 4 ∨ x.kind = 5 ∨ x.kind = 6 ∨ x.kind = 7 by omega) with h | h | h | h | h | h | h
    · exact rline_1 x t r w ht hr ok hm h
    · exact rline_2 x t r w ht hr ok hm h
    · exact rline_3 x t r w ht hr ok hm h
    · exact rline_4 x t r w ht hr ok hm h
    · exact rline_5 x t r w ht hr ok hm h
    · exact rline_6 x t r w ht hr ok hm h
    · exact rline_7 x t r w ht hr ok hm h
end Go.Proofs.YtfklgaeejmeipaaGreatDoor

/- The document's lists. No condition but that the words are not endless. -/
namespace Go.Proofs.YtfklgaeejmeipaaGreatDoor
open Go.RowKit
attribute [local go_sem] Oper.semAt_some

theorem Tryz.infoL16R : (Tryz.prog.info? 64).map (fun i => (i.zero, i.size, i.bytes)) = some (some (.slice none 0 0), 1, 24) := by kernel_rfl
theorem Tryz.infoU16R : (Tryz.prog.info? 22).map (fun i => (i.zero, i.size, i.bytes)) = some (some (.int .u16 0), 1, 2) := by kernel_rfl
/-- Numbers of a call's own. -/
structure RowU (w0 w : World) (v : Value) (l : List Nat) : Prop where
  frm : Fr w0 w
  own : w.ownsRow w0.heap.size 22 1 v l.length (u16Cells l)
theorem RowU.nil {w0 w : World} (f : Fr w0 w) : RowU w0 w (.slice none 0 0) [] := ⟨f, World.ownsRow_nil _ _ _ _⟩
theorem RowU.fr {w0 w w' : World} {v : Value} {l : List Nat} (h : RowU w0 w v l) (f : Fr w w') : RowU w0 w' v l := ⟨h.frm.trans f, ownsRow_frT h.own f⟩
theorem u16_appR (l : List Nat) (n : Nat) : u16Cells (l ++ [n]) = u16Cells l ++ [.int .u16 n] := by simp [u16Cells]
theorem wpList_appendU {w0 w : World} {ops : Array Oper} {rest : List Oper} {o : Oper} {a : Act} {Q : Exit → Act → World → Prop} (hgd : o.guard = none) (s x : Operand)
    (ho : o.op = .call { callee := .builtin .append, args := #[s, x], argTypes := #[64, 64] }) (v : Value) (L : List Nat) (hs : a.eval s = v) (hown : RowU w0 w v L)
    (b c : Nat) (m : Nat) (hx : a.eval x = .slice (some ⟨b, 0, none⟩) 1 c) (hm : BoxAt w b #[.int .u16 m] 22) (hn : L.length ≤ 2000000)
    (h : ∀ v' w', RowU w0 w' v' (L ++ [m]) → wpList Tryz.prog ops Q rest (a.put o.dst v') w') : wpList Tryz.prog ops Q (o :: rest) a w := by
  obtain ⟨i0, hi0, hz0, hz1, hz2⟩ := info_parts Tryz.infoU16R
  obtain ⟨f, hown⟩ := hown
  refine wpList_append_own _ hgd s x 64 ho w0.heap.size 22 i0 _ 1 2 Tryz.underlying64 hi0 hz0 hz1 hz2 rfl (by omega) v L.length (u16Cells L) hs hown ⟨b, 0, none⟩ 1 c [.int .u16 m] hx rfl (fun j u hj => ?_) (fun u hu => ?_) (by unfold maxLen; omega) (by omega) f.size ?_
  · rw [WideShapes.add_plain]
    show w.cell? ⟨b, 0 + j, none⟩ = some u
    rw [Nat.zero_add, hm.cell]
    simpa using hj
  · simp at hu
    subst hu; rfl
  · intro v' w' hown' hgrow _
    refine h v' w' ⟨f.grown hgrow f.size fun k hk => (hown.lt k hk).1, ?_⟩
    rw [List.length_append, u16_appR]
    exact hown'
/-- What lists has so far. -/
structure LstSt (w : World) (O : Option (List (List Nat))) (r : List W8) (rv : Value) (vs : List Value) (acc : List (List Nat)) (wr : World) : Prop where
  frm : Fr w wr
  own : wr.ownsRow w.heap.size 64 1 rv acc.length vs
  len : vs.length = acc.length
  inner : ∀ (i : Nat) (l : List Nat) (u : Value), acc[i]? = some l → vs[i]? = some u → SlAt wr (fun b => some b ≠ rv.ownBlock ∧ w.heap.size ≤ b) u l.length (u16Cells l)
  is : O = (listsD r).map (acc ++ ·)
theorem LstSt.fr {w wr w1 : World} {O : Option (List (List Nat))} {r : List W8} {rv : Value} {vs : List Value} {acc : List (List Nat)} (h : LstSt w O r rv vs acc wr) (f : Fr wr w1) : LstSt w O r rv vs acc w1 :=
  ⟨h.frm.trans f, ownsRow_frT h.own f, h.len, fun i l u hl hu => (h.inner i l u hl hu).fr f, h.is⟩
theorem LstSt.done {w wr : World} {O : Option (List (List Nat))} {r : List W8} {rv : Value} {vs : List Value} {acc : List (List Nat)} (h : LstSt w O r rv vs acc wr) : RdRZ (w.heap.size ≤ ·) wr rv acc :=
  ⟨vs, h.len, SlAt.own h.own, fun i l u hl hu => (h.inner i l u hl hu).mono fun _ hz => hz.2⟩
theorem LstSt.push {w wr w1 : World} {O : Option (List (List Nat))} {s : W8} {r : List W8} {rv u : Value} {vs : List Value} {acc : List (List Nat)} {l : List Nat} {gg cap : Nat} (h : LstSt w O (s :: r) rv vs acc wr) (hg : wr.grownBy w1 rv.ownBlock)
    (hown : w1.ownsRow w.heap.size 64 1 (.slice (some ⟨gg, 0, none⟩) (acc.length + 1) cap) (acc.length + 1) (vs ++ [u])) (hat : rv.ownBlock = some gg ∨ gg = wr.heap.size)
    (hu : SlAt wr (fun b => some b ≠ rv.ownBlock ∧ w.heap.size ≤ b) u l.length (u16Cells l)) (hl : listD s = some l) :
    LstSt w O r (.slice (some ⟨gg, 0, none⟩) (acc.length + 1) cap) (vs ++ [u]) (acc ++ [l]) w1 := by
  have hne : ∀ b, b < w.heap.size → some b ≠ rv.ownBlock := fun b hb e => by have := (h.own.lt b e.symm).1; omega
  have hfr : Fr w w1 := ⟨hg.os.trans h.frm.os, hg.tape.trans h.frm.tape, hg.output.trans h.frm.output, Nat.le_trans h.frm.size hg.size, fun k hk => (hg.block k (Nat.lt_of_lt_of_le hk h.frm.size) (hne k hk)).trans (h.frm.block hk)⟩
  have hin : ∀ (l : List Nat) (u : Value), SlAt wr (fun b => some b ≠ rv.ownBlock ∧ w.heap.size ≤ b) u l.length (u16Cells l) → SlAt w1 (fun b => some b ≠ (Value.slice (some ⟨gg, 0, none⟩) (acc.length + 1) cap).ownBlock ∧ w.heap.size ≤ b) u l.length (u16Cells l) := fun l u hl => by
    obtain ⟨a, c, rfl, h1, h2, h3⟩ := hl
    refine ⟨a, c, rfl, h1, h2, ?_⟩
    rcases h3 with h3 | ⟨b, off, rfl, ⟨hz1, hz2⟩, hbl, hc⟩
    · exact .inl h3
    · refine .inr ⟨b, off, rfl, ⟨?_, hz2⟩, Nat.lt_of_lt_of_le hbl hg.size, fun j y hj => ?_⟩
      · rcases hat with hat | hat
        · rw [hat] at hz1; simpa [Value.ownBlock] using hz1
        · subst hat; simp [Value.ownBlock]; omega
      · exact (World.cell?_of_block (a := ⟨b, off + j, none⟩) (hg.block b hbl hz1)).trans (hc j y hj)
  refine ⟨hfr, by rw [List.length_append]; exact hown, by simp [h.len], ?_, ?_⟩
  · intro i l' u' hl hu'
    by_cases hi : i < acc.length
    · rw [List.getElem?_append_left hi] at hl
      rw [List.getElem?_append_left (by rw [h.len]; exact hi)] at hu'
      exact hin _ _ (h.inner i l' u' hl hu')
    · by_cases hi2 : i = acc.length
      · subst hi2
        rw [List.getElem?_append_right (Nat.le_refl _)] at hl
        rw [List.getElem?_append_right (by rw [h.len]; exact Nat.le_refl _)] at hu'
        simp at hl
        simp [h.len] at hu'
        subst hl hu'
        exact hin _ _ hu
      · have : (acc ++ [l]).length ≤ i := by simp; omega
        rw [List.getElem?_eq_none this] at hl
        cases hl
  · rw [h.is, listsD, hl]
    simp [Option.map_map, Function.comp_def]
theorem LstSt.no {w wr : World} {O : Option (List (List Nat))} {s : W8} {r : List W8} {rv : Value} {vs : List Value} {acc : List (List Nat)} (h : LstSt w O (s :: r) rv vs acc wr) (hl : listD s = none) : O = none := by rw [h.is, listsD, hl]; rfl
def ListsRet (w : World) (o : Option (List (List Nat))) (e : Ending) (w' : World) : Prop := ∃ v, e = .returned (.tuple #[v, .bool o.isSome]) ∧ RdRZ (w.heap.size ≤ ·) w' v (o.getD []) ∧ Fr w w'
/-- What is known between the rounds of one list. -/
def OneSt (s : W8) (wl : List W8) (m : Nat) (acc : List Nat) : Prop := (s = [45] → m = 0 ∧ acc = []) ∧ (s ≠ [45] → listD s = (smallsD (wl.drop m)).map (acc ++ ·))
theorem OneSt.zero (s : W8) : OneSt s (splitS 44 s) 0 [] := ⟨fun _ => ⟨rfl, rfl⟩, fun h => by unfold listD; rw [if_neg h, List.drop_zero]; cases smallsD (splitS 44 s) <;> rfl⟩
theorem OneSt.minus {s : W8} {wl : List W8} {m : Nat} {acc : List Nat} (h : OneSt s wl m acc) (hs : s = [45]) : listD s = some acc := by unfold listD; rw [if_pos hs, (h.1 hs).2]
theorem OneSt.all {s : W8} {wl : List W8} {m : Nat} {acc : List Nat} (h : OneSt s wl m acc) (hs : s ≠ [45]) (hm : wl.length ≤ m) : listD s = some acc := by rw [h.2 hs, List.drop_eq_nil_of_le hm]; simp [smallsD]
theorem OneSt.bad {s : W8} {wl : List W8} {m : Nat} {acc : List Nat} (h : OneSt s wl m acc) (hs : s ≠ [45]) (hm : m < wl.length) (hb : smallD wl[m] < 0) : listD s = none := by rw [h.2 hs, List.drop_eq_getElem_cons hm, smallsD, if_pos hb]; rfl
theorem OneSt.next {s : W8} {wl : List W8} {m : Nat} {acc : List Nat} (h : OneSt s wl m acc) (hs : s ≠ [45]) (hm : m < wl.length) (hb : ¬ smallD wl[m] < 0) : OneSt s wl (m + 1) (acc ++ [(smallD wl[m]).toNat]) :=
  ⟨fun e => absurd e hs, fun _ => by rw [h.2 hs, List.drop_eq_getElem_cons hm, smallsD, if_neg hb]; simp [Option.map_map, Function.comp_def]⟩
set_option maxRecDepth 100000 in
set_option maxHeartbeats 4000000 in
theorem lists06_c (v : Value) (l : List W8) (w : World) (hv : RdS w v l) (hn : l.length ≤ 1000000) (hsl : ∀ s ∈ l, s.length < 1000000) :
    Calls Tryz.prog 53 #[v] w (ListsRet w (listsD l)) := by
  generalize hO : listsD l = O
  have H0 : Hid (LstSt w O (l.drop 0) (.slice none 0 0) [] [] w) := Lib.hid ⟨Fr.refl _, World.ownsRow_nil _ _ _ _, rfl, fun i l u h => (by cases h), by rw [List.drop_zero, hO]; cases O <;> rfl⟩
  obtain ⟨a, cap, rfl, hcap, hmax⟩ := hv.form
  have HV := Lib.hid hv
  have HSL := Lib.hid hsl
  obtain ⟨i0, hi0, hz0, hz1, hz2⟩ := info_parts Tryz.infoL16R
  unfold maxLen at hmax
  clear hv hO hsl
  go_enter Tryz.func53, Tryz.ntmps53
  go_wp2_with fail
  go_loopw [4, 5] (fun o i wr => ∃ (k : Nat) (acc : List (List Nat)) (vs : List Value), k ≤ l.length ∧ i = .int .i64 k ∧ acc.length = k ∧ LstSt w O (l.drop k) o vs acc wr) (fun _ i _ => l.length - (intOf i).toNat)
  case atStart => exact ⟨0, [], [], Nat.zero_le _, rfl, rfl, H0.out⟩
  case round =>
    clear H0
    obtain ⟨k, acc, vs, hk, rfl, hak0, hst⟩ := hrel
    have hak := Lib.hid hak0
    have hal : acc.length ≤ 1000000 := by omega
    clear hak0
    have HST := Lib.hid hst
    by_cases hlt : k < l.length
    · rw [List.drop_eq_getElem_cons hlt] at HST
      obtain ⟨b, off, cap', he, hcap', hmax', hb, hc⟩ := HV.out.at hlt
      obtain ⟨rfl, _, rfl⟩ := Value.slice.inj he
      have hls := HSL.out l[k] (List.getElem_mem hlt)
      have c0 := hst.frm.keep (hc k l[k] (by simp [hlt]))
      generalize l[k] = s at HST hls c0
      have HCUT := Lib.hid (fun W => cut06_c s 44 W hls)
      have hk1 : k < cap := by omega
      have hwl := splitS_ne 44 s
      have hlen := splitS_len 44 s
      have hcnt : s.count 44 ≤ s.length := List.count_le_length
      have HZ := Lib.hid (OneSt.zero s)
      clear hst hc he
      generalize splitS 44 s = wl at HCUT hwl hlen HZ
      have hwl0 : 0 < wl.length := List.length_pos_iff.2 hwl
      have hwl2 : wl.length ≤ 1000001 := by omega
      clear hlen hcnt
      go_wp2_with fail
      refine (HCUT.out _).mono ?_
      rintro e w1 ⟨v1, rfl, hrow⟩
      have hrd := hrow.rd
      obtain ⟨a1, cap1, rfl, hcap1, hmax1⟩ := hrd.form
      unfold maxLen at hmax1
      have HRD := Lib.hid hrd
      have HS1 := Lib.hid (HST.out.fr hrow.frm)
      have d0 := hrow.frm.keep c0
      clear hrow hrd c0 HST HCUT hwl
      go_wp2_with fail
      obtain ⟨wo, hwo⟩ : ∃ wo, wo = wr := ⟨_, rfl⟩
      go_loopw [6, 8] (fun o j wr => ∃ (m : Nat) (one : List Nat), m ≤ wl.length ∧ j = .int .i64 m ∧ one.length = m ∧ RowU w1 wr o one ∧ OneSt s wl m one) (fun _ j _ => wl.length - (intOf j).toNat)
      case atStart => exact ⟨0, [], Nat.zero_le _, rfl, rfl, RowU.nil (Fr.refl _), HZ.out⟩
      case round =>
        clear HZ
        obtain ⟨m, one, hm, rfl, hom0, hrow, hone⟩ := hrel
        have hom := Lib.hid hom0
        have hol : one.length ≤ 1000001 := by omega
        clear hom0
        have HONE := Lib.hid hone
        have HROW := Lib.hid hrow
        have e0 := hrow.frm.keep d0
        by_cases hs : s = [45]
        · have HL := Lib.hid (hone.minus hs)
          have hm0 := (hone.1 hs).1
          subst hm0
          subst hs
          clear hone hrow
          have hLA := HS1.out.fr (HROW.out.frm.alloc (.cells #[u6] 64))
          have HLA := Lib.hid hLA
          have hownA := hLA.own
          have HU : Hid (SlAt (wr.alloc (.cells #[u6] 64)) (fun b => some b ≠ u4.ownBlock ∧ w.heap.size ≤ b) u6 one.length (u16Cells one)) := Lib.hid (((SlAt.own HROW.out.own).mono fun b hz => ⟨fun e => (by have := (HS1.out.own.lt b e.symm).2; omega), Nat.le_trans HS1.out.frm.size hz⟩).fr ((Fr.refl wr).alloc _))
          have hfsz := HLA.out.frm.size
          obtain ⟨oa, oc, rfl, _, _⟩ := str_form HROW.out.own
          go_wp2_with (at_builtin; refine wpList_append_lies _ rfl (.tmp 46) (.tmp 48) 28 rfl w.heap.size 64 i0 _ 1 24 Tryz.underlying28 hi0 hz0 hz1 hz2 rfl (by omega) _ acc.length vs rfl hownA ⟨wr.heap.size, 0, none⟩ 1 1 [.slice oa one.length oc] rfl rfl (World.news_of_block (cs := #[.slice oa one.length oc]) (t := 64) (fr := (0, 0)) (heap_alloc_new wr _)) (by simp [Value.oneCell']) (by omega) (by unfold maxLen; omega) (by omega) hfsz (wr.heap.size + 1) (by simp) ?_)
          intro gg cap3 w3 hown3 hgrow hat _
          have HP := Lib.hid (HLA.out.push hgrow (by simpa using hown3) (by simpa using hat) HU.out HL.out)
          clear hown3 hgrow hat hownA hLA
          go_wp2_with fail
          go_roundw
          case rel => exact ⟨k + 1, acc ++ [one], _, by omega, by go_num, by simp [hak.out], by simpa using HP.out⟩
          case measure => simp [intOf]; omega
        · by_cases hlt2 : m < wl.length
          · obtain ⟨b1, off1, cap2, he1, _, _, hb1, hc1⟩ := HRD.out.at hlt2
            obtain ⟨rfl, _, rfl⟩ := Value.slice.inj he1
            have e1 := hrow.frm.keep (hc1 m wl[m] (by simp [hlt2]))
            have HSM := Lib.hid (fun W => small06_c wl[m] W)
            have hge := smallD_ge wl[m]
            have HNX := Lib.hid (fun h => hone.next hs hlt2 h)
            have HBD := Lib.hid (fun h => hone.bad hs hlt2 h)
            have n1 : (s == [45]) = false := by simpa using hs
            have n2 : (s != [45]) = true := by simpa using hs
            have hm1 : m < cap1 := by omega
            generalize wl[m] = x at e1 HSM HNX HBD hge
            generalize smallD x = y at HSM HNX HBD hge
            clear hone hc1 he1 hs hrow
            go_wp2_with fail
            refine (HSM.out _).mono ?_
            rintro e w2 ⟨rfl, f2⟩
            have HR2 := Lib.hid (HROW.out.fr f2)
            clear f2
            by_cases hy : y < 0
            · have hz := HS1.out.no (HBD.out hy)
              subst hz
              have HF := Lib.hid (HS1.out.frm.trans HR2.out.frm)
              clear HNX HBD
              go_wp2_with fail
              go_ret2
              exact ⟨_, rfl, RdRZ.nil _ _, HF.out⟩
            · obtain ⟨n, rfl⟩ := Int.eq_ofNat_of_zero_le (show 0 ≤ y by omega)
              have HN := Lib.hid (HNX.out (by omega))
              have hw16 : IntKind.u16.wrap (n : Int) = n := by simp [IntKind.wrap, IntKind.bits, IntKind.signed]; omega
              have HRA := Lib.hid (HR2.out.fr ((Fr.refl w2).alloc (.cells #[.int .u16 n] 22)))
              have HBA := Lib.hid (BoxAt.new w2 #[.int .u16 n] 22)
              clear HNX HBD hy hge
              go_wp2_with (at_builtin; refine wpList_appendU rfl (.tmp 41) (.tmp 44) rfl _ one rfl HRA.out _ 1 n rfl HBA.out (by omega) ?_)
              intro v' w' hro'
              have HRO := Lib.hid hro'
              clear hro'
              go_wp2_with fail
              go_roundw
              case rel => exact ⟨m + 1, one ++ [n], by omega, by go_num, by simp [hom.out], HRO.out, HN.out⟩
              case measure => simp [intOf]; omega
          · have HL := Lib.hid (hone.all hs (by omega))
            have n1 : (s == [45]) = false := by simpa using hs
            have n2 : (s != [45]) = true := by simpa using hs
            clear hs
            clear hone hrow
            have hLA := HS1.out.fr (HROW.out.frm.alloc (.cells #[u6] 64))
            have HLA := Lib.hid hLA
            have hownA := hLA.own
            have HU : Hid (SlAt (wr.alloc (.cells #[u6] 64)) (fun b => some b ≠ u4.ownBlock ∧ w.heap.size ≤ b) u6 one.length (u16Cells one)) := Lib.hid (((SlAt.own HROW.out.own).mono fun b hz => ⟨fun e => (by have := (HS1.out.own.lt b e.symm).2; omega), Nat.le_trans HS1.out.frm.size hz⟩).fr ((Fr.refl wr).alloc _))
            have hfsz := HLA.out.frm.size
            obtain ⟨oa, oc, rfl, _, _⟩ := str_form HROW.out.own
            go_wp2_with (at_builtin; refine wpList_append_lies _ rfl (.tmp 46) (.tmp 48) 28 rfl w.heap.size 64 i0 _ 1 24 Tryz.underlying28 hi0 hz0 hz1 hz2 rfl (by omega) _ acc.length vs rfl hownA ⟨wr.heap.size, 0, none⟩ 1 1 [.slice oa one.length oc] rfl rfl (World.news_of_block (cs := #[.slice oa one.length oc]) (t := 64) (fr := (0, 0)) (heap_alloc_new wr _)) (by simp [Value.oneCell']) (by omega) (by unfold maxLen; omega) (by omega) hfsz (wr.heap.size + 1) (by simp) ?_)
            intro gg cap3 w3 hown3 hgrow hat _
            have HP := Lib.hid (HLA.out.push hgrow (by simpa using hown3) (by simpa using hat) HU.out HL.out)
            clear hown3 hgrow hat hownA hLA
            go_wp2_with fail
            go_roundw
            case rel => exact ⟨k + 1, acc ++ [one], _, by omega, by go_num, by simp [hak.out], by simpa using HP.out⟩
            case measure => simp [intOf]; omega
    · have hkl : l.drop k = [] := List.drop_eq_nil_of_le (by omega)
      rw [hkl] at hst HST
      have hz : O = some acc := by rw [hst.is]; simp [listsD]
      subst hz
      clear hst hkl
      go_wp2_with fail
      go_ret2
      exact ⟨_, rfl, HST.out.done, HST.out.frm⟩
end Go.Proofs.YtfklgaeejmeipaaGreatDoor
