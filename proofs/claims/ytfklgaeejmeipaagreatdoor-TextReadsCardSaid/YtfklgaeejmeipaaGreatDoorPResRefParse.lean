/- umpireref03.Parse: what it tells is what parseRes says: the plain law and the walk. No condition but that the text is not endless. -/
import Derived.Test.YtfklgaeejmeipaaGreatDoorPResParse
import Derived.Test.YtfklgaeejmeipaaGreatDoorPOpWords
set_option linter.all false
set_option linter.unusedVariables false
set_option linter.unusedSimpArgs false
set_option linter.unnecessarySimpa false
/- umpireref03.Parse: what it tells is what parseRes says: the plain law and the walk. No condition but that the text is not endless. -/
namespace Go.Proofs.YtfklgaeejmeipaaGreatDoor
open Go.RowKit

def val6 : List UInt8 := [118, 97, 108, 117, 101, 32]
theorem resText_one (V : Nat) : resText 1 V = val6 ++ Lib.decDigits V := rfl
/-- Is a text 'value', a blank and a number? -/
def IsVal (s : List UInt8) : Prop := ∃ V, V < 65536 ∧ s = val6 ++ Lib.decDigits V
theorem parseRes_at {s : List UInt8} {k : Nat} (hk : k < 5) (h : resText k 0 = s) : parseRes s = (k, 0, 0) :=
  (parseRes_iff s k 0).2 ⟨by have := goodB_at (v := 0) hk; simpa using this, by omega, h⟩
theorem parseRes_val {s : List UInt8} {V : Nat} (hV : V < 65536) (h : s = val6 ++ Lib.decDigits V) : parseRes s = (1, V, 0) :=
  (parseRes_iff s 1 V).2 ⟨by simp [goodB], hV, by rw [h, resText_one]⟩
theorem parseRes_not {s : List UInt8} (h0 : ∀ k, k < 5 → resText k 0 ≠ s) (h1 : ¬ IsVal s) : parseRes s = (0, 0, 4) := by
  obtain ⟨K, V, e, hx⟩ : ∃ K V e, parseRes s = (K, V, e) := ⟨_, _, _, rfl⟩
  by_cases he : e = 0
  · subst he
    obtain ⟨hg, hV, ht⟩ := (parseRes_iff s K V).1 hx
    obtain ⟨hK, hK0⟩ := good_lt hg
    by_cases hk : K = 1
    · subst hk
      exact absurd ⟨V, hV, by rw [← ht, resText_one]⟩ h1
    · have := hK0 hk
      subst this
      exact absurd ht (h0 K hK)
  · obtain ⟨rfl, rfl, rfl⟩ := parseRes_none hx he
    exact hx
theorem isVal_len {s : List UInt8} (h : IsVal s) : 7 ≤ s.length ∧ s.length ≤ 11 ∧ s.take 6 = val6 := by
  obtain ⟨V, hV, rfl⟩ := h
  have h1 := decDigits_len5 hV
  have h2 := decDigits_ne V
  have h3 : 0 < (Lib.decDigits V).length := List.length_pos_iff.2 h2
  refine ⟨?_, ?_, ?_⟩
  · rw [List.length_append]; show 7 ≤ 6 + _; omega
  · rw [List.length_append]; show 6 + _ ≤ 11; omega
  · exact List.take_left' rfl
theorem isVal_dig {t : List UInt8} (h : IsVal (val6 ++ t)) : t.all isDig = true ∧ digVal 0 t ≤ 65535 ∧ Lib.decDigits (digVal 0 t) = t := by
  obtain ⟨V, hV, h⟩ := h
  have h := List.append_cancel_left h
  subst h
  obtain ⟨h1, h2⟩ := decDigits_val V
  exact ⟨h2, by omega, by rw [h1]⟩
theorem drop_take_next {s : List UInt8} {k : Nat} (h6 : 6 ≤ k) (hk : k < s.length) : (s.take (k + 1)).drop 6 = (s.take k).drop 6 ++ [s[k]] := by
  rw [List.take_succ_eq_append_getElem hk, List.drop_append]
  have : 6 - (s.take k).length = 0 := by simp; omega
  rw [this]
  rfl
theorem extract6 (s : List UInt8) : ((⟨s.toArray⟩ : ByteArray).extract 0 6).toList = s.take 6 := by
  rw [ByteArray.toList_eq]
  simp
set_option maxRecDepth 100000 in
theorem rParse3_c (s : List UInt8) (w : World) (hs : s.length < 1000000) :
    Calls Tryz.prog 50 #[.string ⟨s.toArray⟩] w (ResRet w (parseRes s)) := by
  have hP : ∃ R, parseRes s = R := ⟨_, rfl⟩
  obtain ⟨R, hP⟩ := hP
  have HY := Lib.hid (fun (k : Nat) (hk : k < 5) (h : resText k 0 = s) => show R = (k, 0, 0) by rw [← hP]; exact parseRes_at hk h)
  have HV := Lib.hid (fun (V : Nat) (hV : V < 65536) (h : s = val6 ++ Lib.decDigits V) => show R = (1, V, 0) by rw [← hP]; exact parseRes_val hV h)
  have HN := Lib.hid (fun (h0 : ∀ k, k < 5 → resText k 0 ≠ s) (h1 : ¬ IsVal s) => show R = (0, 0, 4) by rw [← hP]; exact parseRes_not h0 h1)
  rw [hP]
  clear hP
  have hsz := size_mk s
  have HT := Lib.hid (fun (k : Nat) W (hk : k < 5) => show Calls Tryz.prog 40 #[.agg #[.int .u8 k, .int .u16 0]] W (StrRet W (resText k 0, 0)) by
    have := rText_c k 0 W (by omega)
    unfold textRes at this
    rw [if_pos (by have := goodB_at (v := 0) hk; simpa using this)] at this
    exact this)
  go_enter Tryz.func50, Tryz.ntmps50
  go_wp2_with fail
  go_loopw [4] (fun i wr => ∃ k : Nat, k ≤ 5 ∧ i = .int .i64 k ∧ Fr w wr ∧ BoxAt wr w.heap.size #[.int .u8 0, .int .u16 0] 26 ∧ Hid (∀ j, j < k → resText j 0 ≠ s)) (fun i _ => 5 - (intOf i).toNat)
  case atStart => exact ⟨0, by omega, rfl, (Fr.refl w).alloc _, BoxAt.new w _ _, Lib.hid (by omega)⟩
  case round =>
    obtain ⟨k, hk, rfl, hfr, hB, hno⟩ := hrel
    have hz := hB.lt
    by_cases hlt : k < 5
    · have hlti : (k : Int) ≤ 4 := by omega
      have kw : IntKind.u8.wrap (k : Int) = k := by simp [IntKind.wrap, IntKind.bits, IntKind.signed]; omega
      have HTk := fun W => HT.out k W hlt
      have htx : ∃ tt, tt = resText k 0 := ⟨_, rfl⟩
      obtain ⟨tt, htx⟩ := htx
      rw [← htx] at HTk
      have HTk := Lib.hid HTk
      by_cases hB2 : tt = s
      · have hRR := HY.out k hlt (by rw [← htx]; exact hB2)
        subst hB2
        clear HY HN HV hno htx
        subst hRR
        go_wp2_with fail
        refine (HTk.out _).mono ?_
        rintro e w3 ⟨rfl, hb3⟩
        have hf3 := (hfr.alloc (.cells #[.int .u8 k, .int .u16 0] 26)).trans hb3
        have hB3 := (hB.alloc (.cells #[.int .u8 k, .int .u16 0] 26)).fr hb3
        have x0 : w3.cell? ⟨wr.heap.size, 0, none⟩ = some (.int .u8 k) := hb3.keep (by simp)
        have x1 : w3.cell? ⟨wr.heap.size, 1, none⟩ = some (.int .u16 0) := hb3.keep (by simp)
        have hz3 := hb3.size1
        clear hb3 hfr hB
        go_wp2_with ((with_reducible refine wpList_here (.store 26 (.tmp 2) (.tmp 25)) rfl ?_); refine wpList_store_old 26 (.tmp 2) (.tmp 25) rfl w.heap.size _ _ rfl rfl hB3 Tryz.infoRes rfl (by simp [Value.oneCell']) rfl rfl ?_; intro w4 hR)
        exact bodyPost_ret (v := .tuple #[.agg #[.int .u8 k, .int .u16 0], .int .i64 0]) (results_res_err rfl _ _ _ rfl rfl hR.box rfl) rfl ⟨rfl, hR.fr hf3 (Nat.le_refl _)⟩
      · have hNN := Lib.hid (show ∀ j, j < k + 1 → resText j 0 ≠ s by
          intro j hj
          by_cases e : j = k
          · rw [e, ← htx]; exact hB2
          · exact hno.out j (by omega))
        have hq : (tt == s) = false := by simpa using hB2
        clear HY HN HV hno htx hB2
        go_wp2_with fail
        refine (HTk.out _).mono ?_
        rintro e w3 ⟨rfl, hb3⟩
        have hf3 := (hfr.alloc (.cells #[.int .u8 k, .int .u16 0] 26)).trans hb3
        have hB3 := (hB.alloc (.cells #[.int .u8 k, .int .u16 0] 26)).fr hb3
        clear hb3 hfr hB
        go_wp2_with fail
        go_roundw
        case rel => exact ⟨k + 1, by omega, by go_num, hf3, hB3, hNN⟩
        case measure => simp [intOf]; (try omega)
    · obtain rfl : k = 5 := by omega
      have HNv := Lib.hid (HN.out hno.out)
      clear HN HY HT hno
      by_cases h7 : s.length < 7
      · have hRR := HNv.out (fun h => by have := (isVal_len h).1; omega)
        have h7i : (s.length : Int) < 7 := by omega
        clear HNv HV
        subst hRR
        go_wp2_with ((with_reducible refine wpList_here (.store 26 (.tmp 2) (.tmp 39)) rfl ?_); refine wpList_store_old 26 (.tmp 2) (.tmp 39) rfl w.heap.size _ _ rfl rfl hB Tryz.infoRes rfl (by simp [Value.oneCell']) rfl rfl ?_; intro w3 hR)
        exact bodyPost_ret (v := .tuple #[.agg #[.int .u8 0, .int .u16 0], .int .i64 4]) (results_res_err rfl _ _ _ rfl rfl hR.box rfl) rfl ⟨rfl, hR.fr hfr (Nat.le_refl _)⟩
      · have h7i : ¬ (s.length : Int) < 7 := by omega
        by_cases h11 : 11 < s.length
        · have hRR := HNv.out (fun h => by have := (isVal_len h).2.1; omega)
          have h11i : (11 : Int) < s.length := by omega
          clear HNv HV
          subst hRR
          go_wp2_with ((with_reducible refine wpList_here (.store 26 (.tmp 2) (.tmp 39)) rfl ?_); refine wpList_store_old 26 (.tmp 2) (.tmp 39) rfl w.heap.size _ _ rfl rfl hB Tryz.infoRes rfl (by simp [Value.oneCell']) rfl rfl ?_; intro w3 hR)
          exact bodyPost_ret (v := .tuple #[.agg #[.int .u8 0, .int .u16 0], .int .i64 4]) (results_res_err rfl _ _ _ rfl rfl hR.box rfl) rfl ⟨rfl, hR.fr hfr (Nat.le_refl _)⟩
        · have h11i : ¬ (11 : Int) < s.length := by omega
          go_wp2_with ((with_reducible refine wpList_here (.store 26 (.tmp 2) (.tmp 39)) rfl ?_); refine wpList_store_old 26 (.tmp 2) (.tmp 39) rfl w.heap.size _ _ rfl rfl hB Tryz.infoRes rfl (by simp [Value.oneCell']) rfl rfl ?_; intro w3 hR)
          · have hne : s.take 6 ≠ val6 := by
              have hx : (!((⟨s.toArray⟩ : ByteArray).extract 0 6).toList == [118, 97, 108, 117, 101, 32]) = true := by assumption
              rw [extract6] at hx
              intro h
              rw [h] at hx
              simp [val6] at hx
            have hRR := HNv.out (fun h => hne (isVal_len h).2.2)
            subst hRR
            exact bodyPost_ret (v := .tuple #[.agg #[.int .u8 0, .int .u16 0], .int .i64 4]) (results_res_err rfl _ _ _ rfl rfl hR.box rfl) rfl ⟨rfl, hR.fr hfr (Nat.le_refl _)⟩
          · have heq : s.take 6 = val6 := by
              have hx : (!((⟨s.toArray⟩ : ByteArray).extract 0 6).toList == [118, 97, 108, 117, 101, 32]) = false := by assumption
              rw [extract6] at hx
              simpa [val6] using hx
            have hst : s = val6 ++ s.drop 6 := by rw [← heq]; exact (List.take_append_drop 6 s).symm
            have hl11 : s.length ≤ 11 := by omega
            have HST := Lib.hid hst
            clear heq h7 h11 hst
            go_wp2_with fail
            go_loopw [8, 9] (fun n i wt => ∃ k : Nat, 6 ≤ k ∧ k ≤ s.length ∧ i = .int .i64 k ∧ n = .int .u32 (digVal 0 ((s.take k).drop 6)) ∧ Hid (((s.take k).drop 6).all isDig = true) ∧ Fr w wt ∧ BoxAt wt w.heap.size #[.int .u8 0, .int .u16 0] 26) (fun _ i _ => s.length - (intOf i).toNat)
            case atStart => exact ⟨6, by omega, by omega, rfl, by rw [List.drop_eq_nil_of_le (by simp; omega)]; rfl, Lib.hid (by rw [List.drop_eq_nil_of_le (by simp; omega)]; rfl), hfr, hB⟩
            case round =>
              clear hfr hB
              obtain ⟨k, hk6, hk, rfl, rfl, hall, hfr, hB⟩ := hrel
              have hv := digVal_lt _ hall.out
              have hv1 : digVal 0 ((s.take k).drop 6) < 100000 := Nat.lt_of_lt_of_le hv (Nat.le_trans (Nat.pow_le_pow_right (by omega) (show ((s.take k).drop 6).length ≤ 5 by simp; omega)) (by decide))
              clear hv
              by_cases hlt : k < s.length
              · have hlti : (k : Int) < s.length := by omega
                obtain ⟨cc, hcc⟩ : ∃ cc, cc = s[k] := ⟨_, rfl⟩
                have hgk : ∀ hh, ((⟨s.toArray⟩ : ByteArray)[k]'hh) = cc := fun _ => hcc.symm
                have hbb := cc.toNat_lt
                by_cases hd : isDig s[k] = true
                · have hT := Lib.hid (show ((s.take (k + 1)).drop 6).all isDig = true by rw [drop_take_next hk6 hlt, List.all_append, hall.out]; simp [hd])
                  have HVV := Lib.hid (show digVal 0 ((s.take (k + 1)).drop 6) = 10 * digVal 0 ((s.take k).drop 6) + (cc.toNat - 48) by rw [drop_take_next hk6 hlt, digVal_snoc, hcc])
                  rw [← hcc] at hd
                  have hd1 : 48 ≤ cc.toNat ∧ cc.toNat ≤ 57 := by simpa [isDig] using hd
                  clear hcc hall
                  obtain ⟨hd2, hd3⟩ := hd1
                  have hd4 : ¬ (cc.toNat : Int) < 48 := by omega
                  have hd5 : ¬ (57 : Int) < cc.toNat := by omega
                  clear hd
                  generalize digVal 0 ((s.take k).drop 6) = q at hv1 HVV ⊢
                  go_wp2_with fail
                  go_roundw
                  case rel => exact ⟨k + 1, by omega, by omega, by go_num, by rw [HVV.out]; go_num, hT, hfr, hB⟩
                  case measure => simp [intOf]; omega
                · rw [Bool.not_eq_true] at hd
                  have hRR := HNv.out (fun h => by
                    rw [HST.out] at h
                    have h2 := (isVal_dig h).1
                    have h3 := List.all_eq_true.1 h2 s[k] (by
                      rw [List.mem_iff_getElem]
                      exact ⟨k - 6, by simp; omega, by rw [List.getElem_drop]; congr 1; omega⟩)
                    rw [h3] at hd
                    cases hd)
                  rw [← hcc] at hd
                  have hd1 : cc.toNat < 48 ∨ 57 < cc.toNat := by
                    simp [isDig] at hd
                    omega
                  clear hcc hd hall HNv HV HST
                  subst hRR
                  generalize digVal 0 ((s.take k).drop 6) = q at hv1 ⊢
                  rcases hd1 with hd2 | hd2
                  · have hd4 : (cc.toNat : Int) < 48 := by omega
                    go_wp2_with ((with_reducible refine wpList_here (.store 26 (.tmp 2) (.tmp 56)) rfl ?_); refine wpList_store_old 26 (.tmp 2) (.tmp 56) rfl w.heap.size _ _ rfl rfl hB Tryz.infoRes rfl (by simp [Value.oneCell']) rfl rfl ?_; intro w3 hR)
                    exact bodyPost_ret (v := .tuple #[.agg #[.int .u8 0, .int .u16 0], .int .i64 4]) (results_res_err rfl _ _ _ rfl rfl hR.box rfl) rfl ⟨rfl, hR.fr hfr (Nat.le_refl _)⟩
                  · have hd4 : ¬ (cc.toNat : Int) < 48 := by omega
                    have hd5 : (57 : Int) < cc.toNat := by omega
                    go_wp2_with ((with_reducible refine wpList_here (.store 26 (.tmp 2) (.tmp 56)) rfl ?_); refine wpList_store_old 26 (.tmp 2) (.tmp 56) rfl w.heap.size _ _ rfl rfl hB Tryz.infoRes rfl (by simp [Value.oneCell']) rfl rfl ?_; intro w3 hR)
                    exact bodyPost_ret (v := .tuple #[.agg #[.int .u8 0, .int .u16 0], .int .i64 4]) (results_res_err rfl _ _ _ rfl rfl hR.box rfl) rfl ⟨rfl, hR.fr hfr (Nat.le_refl _)⟩
              · obtain rfl : k = s.length := by omega
                rw [List.take_length] at hall hv1 ⊢
                by_cases hbig : 65535 < digVal 0 (s.drop 6)
                · have hRR := HNv.out (fun h => by rw [HST.out] at h; have := (isVal_dig h).2.1; omega)
                  clear HNv HV HST hall
                  subst hRR
                  generalize digVal 0 (s.drop 6) = q at hv1 hbig ⊢
                  have hbi : (65535 : Int) < q := by omega
                  go_wp2_with ((with_reducible refine wpList_here (.store 26 (.tmp 2) (.tmp 74)) rfl ?_); refine wpList_store_old 26 (.tmp 2) (.tmp 74) rfl w.heap.size _ _ rfl rfl hB Tryz.infoRes rfl (by simp [Value.oneCell']) rfl rfl ?_; intro w3 hR)
                  exact bodyPost_ret (v := .tuple #[.agg #[.int .u8 0, .int .u16 0], .int .i64 4]) (results_res_err rfl _ _ _ rfl rfl hR.box rfl) rfl ⟨rfl, hR.fr hfr (Nat.le_refl _)⟩
                · have HQ := Lib.hid (fun (q : Nat) (hq : q = digVal 0 (s.drop 6)) (h : ¬ val6 ++ Lib.decDigits q = s) => HNv.out (fun h2 => by
                    rw [HST.out] at h2
                    have := (isVal_dig h2).2.2
                    rw [hq, this] at h
                    exact h HST.out.symm))
                  obtain ⟨q, hqx⟩ : ∃ q, q = digVal 0 (s.drop 6) := ⟨_, rfl⟩
                  have HQ := Lib.hid (HQ.out q hqx)
                  rw [← hqx] at hv1 hbig ⊢
                  have HVq := Lib.hid (HV.out q (by omega))
                  have HD := Lib.hid (fun W => digits3_c q W (by omega))
                  have hlen : (Lib.decDigits q).length ≤ 5 := decDigits_len5 (by omega)
                  have hbi : ¬ (65535 : Int) < q := by omega
                  have hcat : (⟨#[118, 97, 108, 117, 101, 32]⟩ : ByteArray) ++ ⟨(Lib.decDigits q).toArray⟩ = ⟨(val6 ++ Lib.decDigits q).toArray⟩ := mk_append val6 _
                  have qw : IntKind.u16.wrap (q : Int) = q := by simp [IntKind.wrap, IntKind.bits, IntKind.signed]; omega
                  clear HNv HV HST hall hqx
                  obtain ⟨ds, hds⟩ : ∃ ds, ds = val6 ++ Lib.decDigits q := ⟨_, rfl⟩
                  rw [← hds] at hcat HQ HVq
                  by_cases hB2 : ds = s
                  · have hRR := HVq.out hB2.symm
                    subst hB2
                    clear HQ HVq hds
                    subst hRR
                    go_wp2_with (first | (go_at_call 74; refine (HD.out _).mono ?_; rintro e w2 ⟨rfl, hb2⟩; have hB3 := hB.fr hb2; have hf3 := hfr.trans hb2) | ((with_reducible refine wpList_here (.store 26 (.tmp 2) (.tmp 77)) rfl ?_); refine wpList_store_old 26 (.tmp 2) (.tmp 77) rfl w.heap.size _ _ rfl rfl hB3 Tryz.infoRes rfl (by simp [Value.oneCell']) rfl rfl ?_; intro w3 hR))
                    exact bodyPost_ret (v := .tuple #[.agg #[.int .u8 1, .int .u16 q], .int .i64 0]) (results_res_err rfl _ _ _ rfl rfl hR.box rfl) rfl ⟨rfl, hR.fr hf3 (Nat.le_refl _)⟩
                  · have hRR := HQ.out hB2
                    have hq : (ds == s) = false := by simpa using hB2
                    clear HQ HVq hds
                    subst hRR
                    go_wp2_with (first | (go_at_call 74; refine (HD.out _).mono ?_; rintro e w2 ⟨rfl, hb2⟩; have hB3 := hB.fr hb2; have hf3 := hfr.trans hb2) | ((with_reducible refine wpList_here (.store 26 (.tmp 2) (.tmp 74)) rfl ?_); refine wpList_store_old 26 (.tmp 2) (.tmp 74) rfl w.heap.size _ _ rfl rfl hB3 Tryz.infoRes rfl (by simp [Value.oneCell']) rfl rfl ?_; intro w3 hR))
                    exact bodyPost_ret (v := .tuple #[.agg #[.int .u8 0, .int .u16 0], .int .i64 4]) (results_res_err rfl _ _ _ rfl rfl hR.box rfl) rfl ⟨rfl, hR.fr hf3 (Nat.le_refl _)⟩
end Go.Proofs.YtfklgaeejmeipaaGreatDoor
