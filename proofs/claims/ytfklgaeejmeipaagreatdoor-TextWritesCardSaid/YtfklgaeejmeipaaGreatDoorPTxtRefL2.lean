/- The document's Line and list. No condition but the numbers' bounds. Printed by gen_refline.py. -/
import Derived.Test.YtfklgaeejmeipaaGreatDoorPTxtRefL
import Derived.Test.YtfklgaeejmeipaaGreatDoorPTxtRefK
import Derived.Test.YtfklgaeejmeipaaGreatDoorPWordsR
import Derived.Test.YtfklgaeejmeipaaGreatDoorPTxtLen
import Derived.Test.YtfklgaeejmeipaaGreatDoorPTxtRefB
import Derived.Test.YtfklgaeejmeipaaGreatDoorPRefMayE
import Derived.Test.YtfklgaeejmeipaaGreatDoorPResTextW
import Derived.Deep.Cut
import Derived.Test.YtfklgaeejmeipaaGreatDoorPArms
set_option linter.all false
set_option linter.unusedVariables false
set_option linter.unusedSimpArgs false
set_option linter.unnecessarySimpa false
/- The document's Line and list. No condition but the numbers' bounds. Printed by gen_refline.py. -/
namespace Go.Proofs.YtfklgaeejmeipaaGreatDoor
open Go.RowKit
attribute [local go_sem] Oper.semAt_some

set_option maxRecDepth 100000 in
set_option maxHeartbeats 4000000 in
theorem rline_2 (x : Ev) (t r : Value) (w : World) (ht : RdM w t x.txn) (hr : RdR w r x.reads) (ok : x.Ok) (hm : x.may = true) (hk : x.kind = 2) :
    Calls Tryz.prog 12 #[x.val t r] w (StrRet w (x.line, 0)) := by
  have hkm : x.op.may = true := by
    have h1 := (may_kind hm).1
    unfold Ev.kindMay at h1
    rw [if_neg (by omega), if_pos hk] at h1
    exact h1
  have okp : x.op.Ok := ⟨ok.F, ok.O, ok.K, ok.A, ok.B⟩
  have HL : Hid (x.line = kindW 2 ++ (tails [Lib.decDigits x.client, Lib.decDigits x.id] ++ tails (wordsOf x.op))) := Lib.hid (by rw [line_who (by omega), hk]; unfold Ev.tailW; rw [if_pos hk])
  have HWD := Lib.hid (fun W => rWords_c x.op W okp)
  rw [show x.op.words = wordsOf x.op by unfold OpD.words; rw [if_pos hkm]] at HWD
  obtain ⟨hs1, hs2⟩ := wordsOf_short okp
  generalize wordsOf x.op = L at HL HWD hs1 hs2
  have HS2 := Lib.hid hs2
  clear hs2 hkm okp
  obtain ⟨h17a, h17b⟩ := may_k17 hm
  have hci := (may_kind hm).2.1
  have hid := ok.id
  have HM := Lib.hid (fun W (h : EvAt W (x.val t r) x) => rMayE_c x (x.val t r) W h ok)
  have HE := Lib.hid (show EvAt w (x.val t r) x from ⟨t, r, rfl, ht, hr⟩)
  rw [hm] at HM
  have hl1 := decDigits_len5 (v := x.client) (by omega)
  have hl2 := decDigits_len5 (v := x.id) (by omega)
  have HD1 := Lib.hid (fun W => d06_c x.client W (by omega))
  have HD2 := Lib.hid (fun W => d06_c x.id W (by omega))
  have HK := Lib.hid hk
  clear hk
  unfold Ev.val
  go_enter Tryz.func12, Tryz.ntmps12
  go_wp2_with ((with_reducible refine wpList_here (.load 32 (.tmp 1)) rfl ?_); refine wpList_load_box 32 (.tmp 1) rfl _ rfl (x.cells t r) (BoxAt.new w _ _) _ Tryz.underlying32 rfl Tryz.infoEv rfl ?_)
  refine (HM.out _ (HE.out.keep ((Fr.refl w).alloc _))).mono ?_
  rintro e w1 ⟨rfl, f1⟩
  have HB1 : Hid (BoxAt w1 w.heap.size (x.cells t r) 32) := Lib.hid ((BoxAt.new w (x.cells t r) 32).fr f1)
  have F1 := Lib.hid (((Fr.refl w).alloc (.cells (x.cells t r) 32)).trans f1)
  have hrg : w1.rangeAt w.heap.size 12 x.cfg.cells := rangeAt_cfg HB1.out
  have hz1 := HB1.out.lt
  clear f1
  go_upto_region 4 with (first | ((with_reducible refine wpList_here (.load 30 (.tmp 18)) rfl ?_); refine wpList_load_midW 30 (.tmp 18) rfl w.heap.size 12 rfl x.cfg.cells _ hrg Tryz.underlying30 rfl Tryz.infoCfgR rfl ?_) | ((with_reducible refine wpList_here (.store 30 (.tmp 4) (.tmp 19)) rfl ?_); refine wpList_store_new 30 (.tmp 4) (.tmp 19) rfl _ x.cfg.cells.toArray _ rfl rfl rfl Tryz.infoCfgR rfl (cfgT_one _) rfl rfl ?_))
  refine wp_genT fun W hW => ?_
  have HB2 : Hid (BoxAt W w.heap.size (x.cells t r) 32) := Lib.hid (by rw [hW]; exact HB1.out.fr ((Fr.refl w1).alloc _))
  have F2 : Hid (Fr w W) := Lib.hid (by rw [hW]; exact F1.out.alloc _)
  have HC2 : Hid (BoxAt W w1.heap.size x.cfg.rowT 30) := Lib.hid (by rw [hW]; exact BoxAt.new w1 x.cfg.rowT 30)
  clear hW hrg F1 HB1
  have k1 := FrW.cell (HB2.out.at 1 (show (x.cells t r)[1]? = some (.int .u8 x.client) from rfl))
  have k2 := FrW.cell (HB2.out.at 2 (show (x.cells t r)[2]? = some (.int .u16 x.id) from rfl))
  refine wp_region_fr (by kernel_rfl) (by kernel_rfl) ?_
  repeat (go_big_quiet_step ((first | (go_at_call_of 36 (Value.int IntKind.i64 x.client); exact frq (HD1.out _)) | (go_at_call_of 36 (Value.int IntKind.i64 x.id); exact frq (HD2.out _)))))
  refine wpQuiet_nil ?_
  rintro w3 ⟨⟨_, f3⟩, rfl⟩
  have HB3 : Hid (BoxAt w3 w.heap.size (x.cells t r) 32) := Lib.hid (HB2.out.fr f3)
  have HC3 : Hid (BoxAt w3 w1.heap.size x.cfg.rowT 30) := Lib.hid (HC2.out.fr f3)
  have F3 : Hid (Fr w w3) := Lib.hid (F2.out.trans f3)
  have a0 : w3.cell? ⟨w.heap.size, 0, none⟩ = some (.int .u8 x.kind) := HB3.out.at 0 rfl
  clear f3 HB2 HC2 F2 k1 k2 HM HE HD1 HD2
  have hwl := who_len hl1 hl2
  rw [who_bytes]
  clear hl1 hl2
  generalize hW : tails [Lib.decDigits x.client, Lib.decDigits x.id] = who at hwl
  have HW := Lib.hid hW
  clear hW
  have hws := size_mk who
  have hk := HK.out
  have e1 : ((x.kind : Int) == 1) = false := by simp; omega
  have e2 : ((x.kind : Int) == 2) = true := by simp; omega
  have e3 : ((x.kind : Int) == 3) = false := by simp; omega
  have e4 : ((x.kind : Int) == 4) = false := by simp; omega
  have e5 : ((x.kind : Int) == 5) = false := by simp; omega
  have e6 : ((x.kind : Int) == 6) = false := by simp; omega
  rw [HW.out] at HL
  have a3 : w3.cell? ⟨w.heap.size, 3, none⟩ = some (.int .u8 x.op.F) := HB3.out.at 3 rfl
  have a4 : w3.cell? ⟨w.heap.size, 4, none⟩ = some (.int .u8 x.op.O) := HB3.out.at 4 rfl
  have a5 : w3.cell? ⟨w.heap.size, 5, none⟩ = some (.int .u8 x.op.K) := HB3.out.at 5 rfl
  have a6 : w3.cell? ⟨w.heap.size, 6, none⟩ = some (.int .u16 x.op.A) := HB3.out.at 6 rfl
  have a7 : w3.cell? ⟨w.heap.size, 7, none⟩ = some (.int .u16 x.op.B) := HB3.out.at 7 rfl
  clear hk
  go_wp2_with fail
  refine (HWD.out _).mono ?_
  rintro e w4 ⟨v4, rfl, hv4, f4⟩
  obtain ⟨la, lc, rfl, hlc, hlm⟩ := hv4.form
  unfold maxLen at hlm
  have HV4 := Lib.hid hv4
  have F4 := Lib.hid (F3.out.trans f4)
  clear f4 hv4 a3 a4 a5 a6 a7 a0
  have h00 : ((⟨#[105, 110, 118, 111, 107, 101]⟩ : ByteArray) ++ ⟨who.toArray⟩) = ⟨(kindW 2 ++ who ++ tails (L.take 0)).toArray⟩ := by
    rw [show (⟨#[105, 110, 118, 111, 107, 101]⟩ : ByteArray) = ⟨(kindW 2).toArray⟩ from rfl, mk_append]; simp [tails]
  go_wp2_with fail
  obtain ⟨W4, hW4⟩ : ∃ W4, W4 = w4 := ⟨_, rfl⟩
  subst hW4
  go_loopw [6, 8] (fun s i wr => ∃ k : Nat, k ≤ L.length ∧ i = .int .i64 k ∧ s = .string ⟨(kindW 2 ++ who ++ tails (L.take k)).toArray⟩ ∧ Fr W4 wr) (fun _ i _ => L.length - (intOf i).toNat)
  case atStart => exact ⟨0, Nat.zero_le _, rfl, by first | exact congrArg Value.string h00 | simp, by first | exact Fr.refl _ | exact (Fr.refl _).drew⟩
  case round =>
    obtain ⟨k, hk, rfl, rfl, hf⟩ := hrel
    have HF := Lib.hid hf
    by_cases hlt : k < L.length
    · obtain ⟨b1, o1, cap1, he1, _, _, hb1, hc1⟩ := (HV4.out.keep hf).at hlt
      obtain ⟨hq1, _, hq2⟩ := Value.slice.inj he1
      subst hq1
      have c1 := hc1 k L[k] (by simp [hlt])
      have hkl := HS2.out L[k] (List.getElem_mem hlt)
      have hkz := size_mk L[k]
      have hal : (kindW 2 ++ who ++ tails (L.take k)).length ≤ 3000 := by
        have h1 := tails_le (n := 400) (ws := L.take k) fun v hv => HS2.out v (List.mem_of_mem_take hv)
        have h2 : (L.take k).length ≤ 5 := by rw [List.length_take]; omega
        have h3 := kindW_len 2
        rw [List.length_append, List.length_append]
        omega
      have haz := size_mk (kindW 2 ++ who ++ tails (L.take k))
      have HN := Lib.hid (show kindW 2 ++ who ++ tails (L.take (k + 1)) = (kindW 2 ++ who ++ tails (L.take k)) ++ [32] ++ L[k] by rw [tails_next hlt]; simp)
      generalize kindW 2 ++ who ++ tails (L.take k) = acc at hal haz HN
      generalize L[k] = q at c1 hkl hkz HN
      have hk1 : k < lc := by omega
      clear hc1 he1 hf h00 hq2
      go_wp2_with fail
      go_roundw
      case rel => exact ⟨k + 1, by omega, by go_num, by rw [HN.out, mk_append, mk_append], HF.out⟩
      case measure => simp [intOf]; omega
    · have hkl : L.take k = L := List.take_of_length_le (by omega)
      rw [hkl]
      have HLL : Hid (kindW 2 ++ who ++ tails L = x.line) := Lib.hid (by rw [HL.out]; simp)
      generalize kindW 2 ++ who ++ tails L = acc at HLL
      clear hf h00 hkl
      go_wp2_with fail
      go_ret2
      exact ⟨by rw [← HLL.out]; rfl, F4.out.trans HF.out⟩
end Go.Proofs.YtfklgaeejmeipaaGreatDoor
