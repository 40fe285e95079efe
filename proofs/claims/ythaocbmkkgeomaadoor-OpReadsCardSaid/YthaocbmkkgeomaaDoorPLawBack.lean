/- umpirelaw04.few, OpBack, OpOne: they answer true. No condition but the tables' content. -/
import Derived.Test.YthaocbmkkgeomaaDoorPParseP
set_option linter.all false
set_option linter.unusedVariables false
set_option linter.unusedSimpArgs false
set_option linter.unnecessarySimpa false
/- umpirelaw04.few, OpBack, OpOne: they answer true. No condition but the tables' content. -/
namespace Go.Proofs.YthaocbmkkgeomaaDoor
open Go.RowKit

theorem opD_neq (x y : OpD) (W : World) : (binOp .neq 60 (.agg #[.int .u8 x.F, .int .u8 x.O, .int .u8 x.K, .int .u16 x.A, .int .u16 x.B]) (.agg #[.int .u8 y.F, .int .u8 y.O, .int .u8 y.K, .int .u16 y.A, .int .u16 y.B])).run Tryd.prog W = .ok (.bool (decide (x ≠ y))) W := by
  obtain ⟨a, b, c, d, e⟩ := x
  obtain ⟨a', b', c', d', e'⟩ := y
  by_cases h1 : a = a' <;> by_cases h2 : b = b' <;> by_cases h3 : c = c' <;> by_cases h4 : d = d' <;> by_cases h5 : e = e' <;> simp [go_sem, Tryd.eqGuardType60, Tryd.stoodInHeld60, Tryd.underlying60, h1, h2, h3, h4, h5] <;> (intros; omega)
/-- A Bool; if it is true, the words are few and short. -/
def FewRet (w : World) (l : List (List UInt8)) (e : Ending) (w' : World) : Prop := ∃ b, e = .returned (.bool b) ∧ (b = true → l.length ≤ 10 ∧ ∀ s ∈ l, s.length ≤ 100) ∧ Fr w w'
theorem all_len {l : List (List UInt8)} {k : Nat} (h : ∀ s ∈ l.take k, s.length ≤ 100) (hk : k < l.length) (hs : l[k].length ≤ 100) : ∀ s ∈ l.take (k + 1), s.length ≤ 100 := by
  rw [List.take_succ_eq_append_getElem hk]
  intro s hs2
  rcases List.mem_append.1 hs2 with h1 | h1
  · exact h s h1
  · simp at h1; subst h1; exact hs
set_option maxRecDepth 100000 in
theorem few4_c (v : Value) (l : List (List UInt8)) (w : World) (hv : RdS w v l) : Calls Tryd.prog 33 #[v] w (FewRet w l) := by
  obtain ⟨a, c, rfl, hlc, hm⟩ := hv.form
  unfold maxLen at hm
  have HV := Lib.hid hv
  clear hv
  go_enter Tryd.func33, Tryd.ntmps33
  go_wp2
  go_loop [3] (fun i => ∃ k : Nat, k ≤ l.length ∧ k ≤ 20 ∧ i = .int .i64 k ∧ Hid (∀ s ∈ l.take k, s.length ≤ 100)) (fun i => l.length - (intOf i).toNat)
  case atStart => exact ⟨0, Nat.zero_le _, by omega, rfl, Lib.hid (fun s hs => by simp at hs)⟩
  case round =>
    obtain ⟨k, hk, hk20, rfl, hall⟩ := hrel
    by_cases hlt : k < l.length
    · have hlti : (k : Int) < l.length := by omega
      by_cases h20 : k < 20
      · have h20i : (k : Int) < 20 := by omega
        obtain ⟨b, off, cap, he, h1, h2, hb, hcell⟩ := HV.out.at (k := k) hlt
        obtain ⟨rfl, rfl⟩ : a = some ⟨b, off, none⟩ ∧ c = cap := by cases he; exact ⟨rfl, rfl⟩
        have hc := hcell k l[k] (by simp [hlt])
        have hsz := size_mk l[k]
        have hkc : k < c := by omega
        clear hcell he
        by_cases h100 : l[k].length ≤ 100
        · have HA := Lib.hid (all_len hall.out hlt h100)
          have hi : ¬ (100 : Int) < l[k].length := by omega
          generalize l[k] = q at hc hsz hi
          clear h100
          go_wp2
          go_round
          case rel => exact ⟨k + 1, by omega, by omega, by go_num, HA⟩
          case measure => simp [intOf]; omega
        · have hi : (100 : Int) < l[k].length := by omega
          generalize l[k] = q at hc hsz hi
          clear h100
          go_wp2
          go_ret
          exact ⟨false, rfl, (fun h => by cases h), Fr.refl _⟩
      · have h20i : ¬ (k : Int) < 20 := by omega
        have h10 : ¬ (l.length : Int) ≤ 10 := by omega
        go_wp2
        go_ret
        exact ⟨_, rfl, (fun h => by first | (simp at h; done) | (simp at h; omega)), Fr.refl _⟩
    · have hlti : ¬ (k : Int) < l.length := by omega
      have HA : Hid (∀ s ∈ l, s.length ≤ 100) := Lib.hid (fun s hs => hall.out s (by rw [List.take_of_length_le (by omega)]; exact hs))
      by_cases h10 : (l.length : Int) ≤ 10
      · go_wp2
        go_ret
        exact ⟨_, rfl, fun _ => ⟨by omega, HA.out⟩, Fr.refl _⟩
      · go_wp2
        go_ret
        exact ⟨_, rfl, (fun h => by first | (simp at h; done) | (simp at h; omega)), Fr.refl _⟩

theorem op_len' (F O K A B : Nat) : (opBytes F O K A B).length ≤ 7 := by
  unfold opBytes
  simp only [List.length_append, List.length_cons, List.length_nil]
  have h1 : (if hasK F then [UInt8.ofNat K] else []).length ≤ 1 := by split <;> simp
  have h2 : (if hasA F then be A 2 else []).length ≤ 2 := by split <;> simp [be_len]
  have h3 : (if hasB F then be B 2 else []).length ≤ 2 := by split <;> simp [be_len]
  omega
theorem words_short (x : OpD) (ok : x.Ok) (hm : x.may = true) : ∀ q ∈ wordsOf x, q.length < 1000000 := by
  obtain ⟨h1, h2, h3, h4, h5, h6, h7⟩ := may_facts hm
  have e1 := decDigits_len5 (show x.O < 65536 by omega)
  have e2 := decDigits_len5 (show x.K < 65536 by omega)
  have e3 := decDigits_len5 ok.A
  have e4 := decDigits_len5 ok.B
  have e5 : (kName x.F).length < 1000000 := by
    rcases (show x.F = 1 ∨ x.F = 2 ∨ x.F = 3 ∨ x.F = 4 ∨ x.F = 5 ∨ x.F = 6 ∨ x.F = 7 ∨ x.F = 8 ∨ x.F = 9 ∨ x.F = 10 ∨ x.F = 11 by omega) with h | h | h | h | h | h | h | h | h | h | h <;> rw [h] <;> decide
  intro q hq
  unfold wordsOf at hq
  simp only [List.mem_cons, List.mem_append] at hq
  rcases hq with rfl | rfl | hq | hq | hq
  · omega
  · exact e5
  · split at hq
    · simp at hq; subst hq; omega
    · cases hq
  · split at hq
    · simp at hq; subst hq; omega
    · cases hq
  · split at hq
    · simp at hq; subst hq; omega
    · cases hq
set_option maxRecDepth 100000 in
set_option maxHeartbeats 4000000 in
theorem opback_c (x : OpD) (s : List UInt8) (vl : Value) (l : List (List UInt8)) (w : World) (hE : Env w) (ok : x.Ok) (hv : RdS w vl l) :
    Calls Tryd.prog 8 #[x.val, .string ⟨s.toArray⟩, vl] w fun e w' => e = .returned (.bool true) ∧ Fr w w' := by
  have hfw := fun W (f : Fr w W) => few4_c vl l W (hv.keep f)
  have hvl := fun W (f : Fr w W) => hv.keep f
  obtain ⟨la, lc, rfl, _, _⟩ := hv.form
  have hsz := size_mk s
  have hput := fun W (f : Fr w W) => opPut_c x.F x.O x.K x.A x.B W (hE.keep f) ok.F ok.O ok.K
  have HFW := Lib.hid hfw
  have HVL := Lib.hid hvl
  have HPU := Lib.hid hput
  have HE := Lib.hid hE
  have HOK := Lib.hid ok
  have hB := BoxAt.new w x.row 60
  have hf0 : Fr w (w.alloc (.cells x.row 60)) := (Fr.refl w).alloc _
  unfold OpD.row at hB hf0
  clear hfw hvl hput hE ok hv
  unfold OpD.val
  go_enter Tryd.func8, Tryd.ntmps8
  by_cases hs : 1000 < s.length
  · have hsi : (1000 : Int) < s.length := by omega
    go_wp2_with fail
    refine (works_c _ (HE.out.keep hf0)).mono ?_
    rintro e wz ⟨rfl, hbz⟩
    go_wp2_with fail
    go_ret
    exact ⟨rfl, hf0.trans hbz⟩
  · have hsi : ¬ (1000 : Int) < s.length := by omega
    go_wp2_with fail
    refine (HFW.out _ hf0).mono ?_
    rintro e w1 ⟨fb, rfl, hfb, hb1⟩
    have hf1 := hf0.trans hb1
    have hB1 := hB.fr hb1
    cases fb with
    | false =>
      go_wp2_with fail
      refine (works_c _ (HE.out.keep hf1)).mono ?_
      rintro e wz ⟨rfl, hbz⟩
      go_wp2_with fail
      go_ret
      exact ⟨rfl, hf1.trans hbz⟩
    | true =>
      obtain ⟨hl10, hl100⟩ := hfb rfl
      have hpl := fun W (f : Fr w W) => Parse_c (.slice la l.length lc) l W (HE.out.keep f) (HVL.out _ f) (fun q hq => by have := hl100 q hq; omega)
      have hts := fun W (f : Fr w W) => opTake_c s W (HE.out.keep f) (by omega)
      have hz : (parseOp l).2 = 0 ∧ (parseOp l).1.words = l ∧ 2 ≤ l.length ∨ (parseOp l).2 ≠ 0 := by
        by_cases h : (parseOp l).2 = 0
        · have h2 := parseOp_back (l := l) (x := (parseOp l).1) (by rw [← h])
          exact .inl ⟨h, by unfold OpD.words; rw [if_pos h2.1]; exact h2.2.1, h2.2.2⟩
        · exact .inr h
      have hzo := parseOp_ok l
      have hy : (takeOp s).2.2 = 0 ∧ (takeOp s).1.Ok ∧ putOp (takeOp s).1.F (takeOp s).1.O (takeOp s).1.K (takeOp s).1.A (takeOp s).1.B = (opBytes (takeOp s).1.F (takeOp s).1.O (takeOp s).1.K (takeOp s).1.A (takeOp s).1.B, 0) ∧ s = opBytes (takeOp s).1.F (takeOp s).1.O (takeOp s).1.K (takeOp s).1.A (takeOp s).1.B ++ (takeOp s).2.1 ∧ 2 ≤ (opBytes (takeOp s).1.F (takeOp s).1.O (takeOp s).1.K (takeOp s).1.A (takeOp s).1.B).length ∨ (takeOp s).2.2 ≠ 0 := by
        by_cases h : (takeOp s).2.2 = 0
        · have h2 := takeOp_back (s := s) (x := (takeOp s).1) (r := (takeOp s).2.1) (by rw [← h])
          have hmm : mayB (takeOp s).1.F (takeOp s).1.O (takeOp s).1.K (takeOp s).1.A (takeOp s).1.B = true := h2.1
          exact .inl ⟨h, takeOp_ok s, by unfold putOp; rw [if_pos hmm], h2.2, by simp [opBytes]⟩
        · exact .inr h
      have hput := HPU.out
      have htb := fun (hm : x.may = true) W (f : Fr w W) => opTake_c (opBytes x.F x.O x.K x.A x.B ++ s) W (HE.out.keep f) (by have := op_len' x.F x.O x.K x.A x.B; simp; omega)
      generalize parseOp l = Z at hpl hz hzo
      obtain ⟨z, zg⟩ := Z
      generalize takeOp s = Y at hts hy
      obtain ⟨y, rest, yf⟩ := Y
      simp only at hz hzo hy
      have HPL := Lib.hid hpl
      have HTS := Lib.hid hts
      have HZ := Lib.hid hz
      have HZO := Lib.hid hzo
      have HY := Lib.hid hy
      have hzB := hB1.lt
      clear hpl hts hz hzo hy hl100 hfb hB HPU
      by_cases hm : x.may = true
      · have hmm : mayB x.F x.O x.K x.A x.B = true := hm
        unfold putOp at hput
        rw [if_pos hmm] at hput
        have htb := htb hm
        have htbe := takeOp_more x HOK.out hm s
        rw [htbe] at htb
        have hwx := fun W (f : Fr w W) => Words_c x W (HE.out.keep f) HOK.out
        unfold OpD.words at hwx
        rw [if_pos hm] at hwx
        have hwl : ∀ q ∈ wordsOf x, q.length < 1000000 := words_short x HOK.out hm
        have hpx := fun v W (f : Fr w W) (hv : RdS W v (wordsOf x)) => Parse_c v (wordsOf x) W (HE.out.keep f) hv hwl
        rw [parseOp_words x HOK.out hm] at hpx
        have hne := fun W => opD_neq x x W
        rw [show decide (x ≠ x) = false by simp] at hne
        have hcx := mk_append (opBytes x.F x.O x.K x.A x.B) s
        have HPU := Lib.hid hput
        have HTB := Lib.hid htb
        have HWX := Lib.hid hwx
        have HPX := Lib.hid hpx
        have HCX := Lib.hid hcx
        have hxl := op_len' x.F x.O x.K x.A x.B
        generalize opBytes x.F x.O x.K x.A x.B = xb at HPU HTB HCX hxl
        have hsx := size_mk xb
        generalize wordsOf x = xw at HWX HPX
        clear hput htb htbe hwx hwl hpx hcx hmm hm
        go_wp2_with ((with_reducible refine wpList_here (.load 60 (.tmp 3)) rfl ?_); refine wpList_load_box 60 (.tmp 3) rfl _ rfl _ hB1 _ Tryd.underlying60 rfl Tryd.infoOp rfl ?_)
        refine (HPU.out _ hf1).mono ?_
        rintro e w2 ⟨rfl, hb2⟩
        have hf2 := hf1.trans hb2
        have hB2 := hB1.fr hb2
        simp only
        go_wp2_with fail
        rw [HCX.out]
        refine (HTB.out _ hf2).mono ?_
        rintro e w3 ⟨rfl, hb3⟩
        have hf3 := (hf2.trans hb3).alloc (.cells x.row 60)
        have hB3 := (hB2.fr hb3).alloc (.cells x.row 60)
        have hC3 := BoxAt.new w3 x.row 60
        have hz3 := (hB2.fr hb3).lt
        unfold OpD.val
        simp only
        go_wp2_with (first | ((with_reducible refine wpList_here (.store 60 (.tmp 9) (.tmp 42)) rfl ?_); refine wpList_store_new 60 (.tmp 9) (.tmp 42) rfl _ x.row _ rfl rfl rfl Tryd.infoOp rfl x.one rfl rfl ?_) | ((with_reducible refine wpList_here (.load 60 (.tmp 3)) rfl ?_); refine wpList_load_box 60 (.tmp 3) rfl _ rfl _ hB3 _ Tryd.underlying60 rfl Tryd.infoOp rfl ?_))
        refine (HWX.out _ hf3).mono ?_
        rintro e w4 ⟨v4, rfl, hv4, hb4⟩
        have hf4 := hf3.trans hb4
        have hB4 := hB3.fr hb4
        have hC4 := hC3.fr hb4
        go_wp2_with fail
        refine (HPX.out _ _ hf4 hv4).mono ?_
        rintro e w5 ⟨rfl, hb5⟩
        have hf5 := (hf4.trans hb5).alloc (.cells x.row 60)
        have hB5 := (hB4.fr hb5).alloc (.cells x.row 60)
        have hC5 := (hC4.fr hb5).alloc (.cells x.row 60)
        have hD5 := BoxAt.new w5 x.row 60
        have hzB5 := (hB4.fr hb5).lt
        have hzC5 := (hC4.fr hb5).lt
        unfold OpD.row at hC5 hD5
        unfold OpD.val
        simp only
        clear hB1 hB2 hB3 hB4 hC3 hC4
        go_wp2_with (first | ((with_reducible refine wpList_here (.store 60 (.tmp 12) (.tmp 49)) rfl ?_); refine wpList_store_new 60 (.tmp 12) (.tmp 49) rfl _ x.row _ rfl rfl rfl Tryd.infoOp rfl x.one rfl rfl ?_) | ((with_reducible refine wpList_here (.load 60 (.tmp 3)) rfl ?_); refine wpList_load_box 60 (.tmp 3) rfl _ rfl _ hB5 _ Tryd.underlying60 rfl Tryd.infoOp rfl ?_) | ((with_reducible refine wpList_here (.load 60 (.tmp 9)) rfl ?_); refine wpList_load_box 60 (.tmp 9) rfl _ rfl _ hC5 _ Tryd.underlying60 rfl Tryd.infoOp rfl ?_) | ((with_reducible refine wpList_here (.load 60 (.tmp 12)) rfl ?_); refine wpList_load_box 60 (.tmp 12) rfl _ rfl _ hD5 _ Tryd.underlying60 rfl Tryd.infoOp rfl ?_))
        refine (HTS.out _ hf5).mono ?_
        rintro e wb ⟨rfl, hbb⟩
        have hfb := (hf5.trans hbb).alloc (.cells y.row 60)
        have hBb := BoxAt.new wb y.row 60
        unfold OpD.row at hBb
        unfold OpD.val
        simp only
        rcases HY.out with ⟨hyf, hyo, hyp, hyc, hyl⟩ | hyf
        · subst hyf
          have hpy := fun W (f : Fr w W) => opPut_c y.F y.O y.K y.A y.B W (HE.out.keep f) hyo.F hyo.O hyo.K
          rw [hyp] at hpy
          have HPY := Lib.hid hpy
          have hyl7 := op_len' y.F y.O y.K y.A y.B
          have hyli : ¬ ((opBytes y.F y.O y.K y.A y.B).length : Int) < 2 := by omega
          generalize opBytes y.F y.O y.K y.A y.B = yb at HPY hyc hyli hyl7
          have hrl : rest.length ≤ 1000 := by have := congrArg List.length hyc; simp at this; omega
          have hcat : (⟨yb.toArray⟩ : ByteArray) ++ (⟨rest.toArray⟩ : ByteArray) = ⟨s.toArray⟩ := (mk_append yb rest).trans (by rw [← hyc])
          have hsy := size_mk yb
          clear hpy hyo hyp hyl hyc
          go_wp2_with (first | ((with_reducible refine wpList_here (.store 60 (.tmp 14) (.tmp 75)) rfl ?_); refine wpList_store_new 60 (.tmp 14) (.tmp 75) rfl _ y.row _ rfl rfl rfl Tryd.infoOp rfl y.one rfl rfl ?_) | ((with_reducible refine wpList_here (.load 60 (.tmp 14)) rfl ?_); refine wpList_load_box 60 (.tmp 14) rfl _ rfl _ hBb _ Tryd.underlying60 rfl Tryd.infoOp rfl ?_))
          refine (HPY.out _ hfb).mono ?_
          rintro e wb2 ⟨rfl, hbb2⟩
          have hfb2 := hfb.trans hbb2
          simp only
          go_wp2_with fail
          refine (HPL.out _ hfb2).mono ?_
          rintro e wc ⟨rfl, hbc⟩
          have hfc := (hfb2.trans hbc).alloc (.cells z.row 60)
          have hBc := BoxAt.new wc z.row 60
          unfold OpD.row at hBc
          unfold OpD.val
          simp only
          rcases HZ.out with ⟨hg, hz2, hl2⟩ | hg
          · subst hg
            have hwz := fun W (f : Fr w W) => Words_c z W (HE.out.keep f) HZO.out
            rw [hz2] at hwz
            have hsm := fun u W (h1 : RdS W u l) (h2 : RdS W (.slice la l.length lc) l) => sameS_c u (.slice la l.length lc) l l W h1 h2
            rw [decide_eq_true rfl] at hsm
            have HWZ := Lib.hid hwz
            have HSM := Lib.hid hsm
            have hli : (2 : Int) ≤ l.length := by omega
            clear hwz hsm hz2 hl2
            go_wp2_with (first | ((with_reducible refine wpList_here (.store 60 (.tmp 19) (.tmp 102)) rfl ?_); refine wpList_store_new 60 (.tmp 19) (.tmp 102) rfl _ z.row _ rfl rfl rfl Tryd.infoOp rfl z.one rfl rfl ?_) | ((with_reducible refine wpList_here (.load 60 (.tmp 19)) rfl ?_); refine wpList_load_box 60 (.tmp 19) rfl _ rfl _ hBc _ Tryd.underlying60 rfl Tryd.infoOp rfl ?_))
            refine (HWZ.out _ hfc).mono ?_
            rintro e wd ⟨v2, rfl, hv2, hbd⟩
            have hfd := hfc.trans hbd
            go_wp2_with fail
            refine (HSM.out _ _ hv2 (HVL.out _ hfd)).mono ?_
            rintro e we ⟨rfl, hbe⟩
            have hfe := hfd.trans hbe.fr
            go_wp2_with fail
            refine (works_c _ (HE.out.keep hfe)).mono ?_
            rintro e wz ⟨rfl, hbz⟩
            go_wp2_with fail
            go_ret
            exact ⟨rfl, hfe.trans hbz⟩
          · have hgi : ((zg : Int) != 0) = true := by simp; omega
            go_wp2_with ((with_reducible refine wpList_here (.store 60 (.tmp 19) (.tmp 102)) rfl ?_); refine wpList_store_new 60 (.tmp 19) (.tmp 102) rfl _ z.row _ rfl rfl rfl Tryd.infoOp rfl z.one rfl rfl ?_)
            refine (works_c _ (HE.out.keep hfc)).mono ?_
            rintro e wz ⟨rfl, hbz⟩
            go_wp2_with fail
            go_ret
            exact ⟨rfl, hfc.trans hbz⟩
        · have hyi : ((yf : Int) == 0) = false := by simp; omega
          go_wp2_with ((with_reducible refine wpList_here (.store 60 (.tmp 14) (.tmp 75)) rfl ?_); refine wpList_store_new 60 (.tmp 14) (.tmp 75) rfl _ y.row _ rfl rfl rfl Tryd.infoOp rfl y.one rfl rfl ?_)
          refine (HPL.out _ hfb).mono ?_
          rintro e wc ⟨rfl, hbc⟩
          have hfc := (hfb.trans hbc).alloc (.cells z.row 60)
          have hBc := BoxAt.new wc z.row 60
          unfold OpD.row at hBc
          unfold OpD.val
          simp only
          rcases HZ.out with ⟨hg, hz2, hl2⟩ | hg
          · subst hg
            have hwz := fun W (f : Fr w W) => Words_c z W (HE.out.keep f) HZO.out
            rw [hz2] at hwz
            have hsm := fun u W (h1 : RdS W u l) (h2 : RdS W (.slice la l.length lc) l) => sameS_c u (.slice la l.length lc) l l W h1 h2
            rw [decide_eq_true rfl] at hsm
            have HWZ := Lib.hid hwz
            have HSM := Lib.hid hsm
            have hli : (2 : Int) ≤ l.length := by omega
            clear hwz hsm hz2 hl2
            go_wp2_with (first | ((with_reducible refine wpList_here (.store 60 (.tmp 19) (.tmp 102)) rfl ?_); refine wpList_store_new 60 (.tmp 19) (.tmp 102) rfl _ z.row _ rfl rfl rfl Tryd.infoOp rfl z.one rfl rfl ?_) | ((with_reducible refine wpList_here (.load 60 (.tmp 19)) rfl ?_); refine wpList_load_box 60 (.tmp 19) rfl _ rfl _ hBc _ Tryd.underlying60 rfl Tryd.infoOp rfl ?_))
            refine (HWZ.out _ hfc).mono ?_
            rintro e wd ⟨v2, rfl, hv2, hbd⟩
            have hfd := hfc.trans hbd
            go_wp2_with fail
            refine (HSM.out _ _ hv2 (HVL.out _ hfd)).mono ?_
            rintro e we ⟨rfl, hbe⟩
            have hfe := hfd.trans hbe.fr
            go_wp2_with fail
            refine (works_c _ (HE.out.keep hfe)).mono ?_
            rintro e wz ⟨rfl, hbz⟩
            go_wp2_with fail
            go_ret
            exact ⟨rfl, hfe.trans hbz⟩
          · have hgi : ((zg : Int) != 0) = true := by simp; omega
            go_wp2_with ((with_reducible refine wpList_here (.store 60 (.tmp 19) (.tmp 102)) rfl ?_); refine wpList_store_new 60 (.tmp 19) (.tmp 102) rfl _ z.row _ rfl rfl rfl Tryd.infoOp rfl z.one rfl rfl ?_)
            refine (works_c _ (HE.out.keep hfc)).mono ?_
            rintro e wz ⟨rfl, hbz⟩
            go_wp2_with fail
            go_ret
            exact ⟨rfl, hfc.trans hbz⟩
      · rw [Bool.not_eq_true] at hm
        have hmm : mayB x.F x.O x.K x.A x.B = false := hm
        unfold putOp at hput
        rw [if_neg (by rw [hmm]; simp)] at hput
        have HPU := Lib.hid hput
        clear hput htb hmm hm
        go_wp2_with ((with_reducible refine wpList_here (.load 60 (.tmp 3)) rfl ?_); refine wpList_load_box 60 (.tmp 3) rfl _ rfl _ hB1 _ Tryd.underlying60 rfl Tryd.infoOp rfl ?_)
        refine (HPU.out _ hf1).mono ?_
        rintro e w2 ⟨rfl, hb2⟩
        have hf2 := hf1.trans hb2
        simp only
        go_wp2_with fail
        refine (HTS.out _ hf2).mono ?_
        rintro e wb ⟨rfl, hbb⟩
        have hfb := (hf2.trans hbb).alloc (.cells y.row 60)
        have hBb := BoxAt.new wb y.row 60
        unfold OpD.row at hBb
        unfold OpD.val
        simp only
        rcases HY.out with ⟨hyf, hyo, hyp, hyc, hyl⟩ | hyf
        · subst hyf
          have hpy := fun W (f : Fr w W) => opPut_c y.F y.O y.K y.A y.B W (HE.out.keep f) hyo.F hyo.O hyo.K
          rw [hyp] at hpy
          have HPY := Lib.hid hpy
          have hyl7 := op_len' y.F y.O y.K y.A y.B
          have hyli : ¬ ((opBytes y.F y.O y.K y.A y.B).length : Int) < 2 := by omega
          generalize opBytes y.F y.O y.K y.A y.B = yb at HPY hyc hyli hyl7
          have hrl : rest.length ≤ 1000 := by have := congrArg List.length hyc; simp at this; omega
          have hcat : (⟨yb.toArray⟩ : ByteArray) ++ (⟨rest.toArray⟩ : ByteArray) = ⟨s.toArray⟩ := (mk_append yb rest).trans (by rw [← hyc])
          have hsy := size_mk yb
          clear hpy hyo hyp hyl hyc
          go_wp2_with (first | ((with_reducible refine wpList_here (.store 60 (.tmp 14) (.tmp 75)) rfl ?_); refine wpList_store_new 60 (.tmp 14) (.tmp 75) rfl _ y.row _ rfl rfl rfl Tryd.infoOp rfl y.one rfl rfl ?_) | ((with_reducible refine wpList_here (.load 60 (.tmp 14)) rfl ?_); refine wpList_load_box 60 (.tmp 14) rfl _ rfl _ hBb _ Tryd.underlying60 rfl Tryd.infoOp rfl ?_))
          refine (HPY.out _ hfb).mono ?_
          rintro e wb2 ⟨rfl, hbb2⟩
          have hfb2 := hfb.trans hbb2
          simp only
          go_wp2_with fail
          refine (HPL.out _ hfb2).mono ?_
          rintro e wc ⟨rfl, hbc⟩
          have hfc := (hfb2.trans hbc).alloc (.cells z.row 60)
          have hBc := BoxAt.new wc z.row 60
          unfold OpD.row at hBc
          unfold OpD.val
          simp only
          rcases HZ.out with ⟨hg, hz2, hl2⟩ | hg
          · subst hg
            have hwz := fun W (f : Fr w W) => Words_c z W (HE.out.keep f) HZO.out
            rw [hz2] at hwz
            have hsm := fun u W (h1 : RdS W u l) (h2 : RdS W (.slice la l.length lc) l) => sameS_c u (.slice la l.length lc) l l W h1 h2
            rw [decide_eq_true rfl] at hsm
            have HWZ := Lib.hid hwz
            have HSM := Lib.hid hsm
            have hli : (2 : Int) ≤ l.length := by omega
            clear hwz hsm hz2 hl2
            go_wp2_with (first | ((with_reducible refine wpList_here (.store 60 (.tmp 19) (.tmp 102)) rfl ?_); refine wpList_store_new 60 (.tmp 19) (.tmp 102) rfl _ z.row _ rfl rfl rfl Tryd.infoOp rfl z.one rfl rfl ?_) | ((with_reducible refine wpList_here (.load 60 (.tmp 19)) rfl ?_); refine wpList_load_box 60 (.tmp 19) rfl _ rfl _ hBc _ Tryd.underlying60 rfl Tryd.infoOp rfl ?_))
            refine (HWZ.out _ hfc).mono ?_
            rintro e wd ⟨v2, rfl, hv2, hbd⟩
            have hfd := hfc.trans hbd
            go_wp2_with fail
            refine (HSM.out _ _ hv2 (HVL.out _ hfd)).mono ?_
            rintro e we ⟨rfl, hbe⟩
            have hfe := hfd.trans hbe.fr
            go_wp2_with fail
            refine (works_c _ (HE.out.keep hfe)).mono ?_
            rintro e wz ⟨rfl, hbz⟩
            go_wp2_with fail
            go_ret
            exact ⟨rfl, hfe.trans hbz⟩
          · have hgi : ((zg : Int) != 0) = true := by simp; omega
            go_wp2_with ((with_reducible refine wpList_here (.store 60 (.tmp 19) (.tmp 102)) rfl ?_); refine wpList_store_new 60 (.tmp 19) (.tmp 102) rfl _ z.row _ rfl rfl rfl Tryd.infoOp rfl z.one rfl rfl ?_)
            refine (works_c _ (HE.out.keep hfc)).mono ?_
            rintro e wz ⟨rfl, hbz⟩
            go_wp2_with fail
            go_ret
            exact ⟨rfl, hfc.trans hbz⟩
        · have hyi : ((yf : Int) == 0) = false := by simp; omega
          go_wp2_with ((with_reducible refine wpList_here (.store 60 (.tmp 14) (.tmp 75)) rfl ?_); refine wpList_store_new 60 (.tmp 14) (.tmp 75) rfl _ y.row _ rfl rfl rfl Tryd.infoOp rfl y.one rfl rfl ?_)
          refine (HPL.out _ hfb).mono ?_
          rintro e wc ⟨rfl, hbc⟩
          have hfc := (hfb.trans hbc).alloc (.cells z.row 60)
          have hBc := BoxAt.new wc z.row 60
          unfold OpD.row at hBc
          unfold OpD.val
          simp only
          rcases HZ.out with ⟨hg, hz2, hl2⟩ | hg
          · subst hg
            have hwz := fun W (f : Fr w W) => Words_c z W (HE.out.keep f) HZO.out
            rw [hz2] at hwz
            have hsm := fun u W (h1 : RdS W u l) (h2 : RdS W (.slice la l.length lc) l) => sameS_c u (.slice la l.length lc) l l W h1 h2
            rw [decide_eq_true rfl] at hsm
            have HWZ := Lib.hid hwz
            have HSM := Lib.hid hsm
            have hli : (2 : Int) ≤ l.length := by omega
            clear hwz hsm hz2 hl2
            go_wp2_with (first | ((with_reducible refine wpList_here (.store 60 (.tmp 19) (.tmp 102)) rfl ?_); refine wpList_store_new 60 (.tmp 19) (.tmp 102) rfl _ z.row _ rfl rfl rfl Tryd.infoOp rfl z.one rfl rfl ?_) | ((with_reducible refine wpList_here (.load 60 (.tmp 19)) rfl ?_); refine wpList_load_box 60 (.tmp 19) rfl _ rfl _ hBc _ Tryd.underlying60 rfl Tryd.infoOp rfl ?_))
            refine (HWZ.out _ hfc).mono ?_
            rintro e wd ⟨v2, rfl, hv2, hbd⟩
            have hfd := hfc.trans hbd
            go_wp2_with fail
            refine (HSM.out _ _ hv2 (HVL.out _ hfd)).mono ?_
            rintro e we ⟨rfl, hbe⟩
            have hfe := hfd.trans hbe.fr
            go_wp2_with fail
            refine (works_c _ (HE.out.keep hfe)).mono ?_
            rintro e wz ⟨rfl, hbz⟩
            go_wp2_with fail
            go_ret
            exact ⟨rfl, hfe.trans hbz⟩
          · have hgi : ((zg : Int) != 0) = true := by simp; omega
            go_wp2_with ((with_reducible refine wpList_here (.store 60 (.tmp 19) (.tmp 102)) rfl ?_); refine wpList_store_new 60 (.tmp 19) (.tmp 102) rfl _ z.row _ rfl rfl rfl Tryd.infoOp rfl z.one rfl rfl ?_)
            refine (works_c _ (HE.out.keep hfc)).mono ?_
            rintro e wz ⟨rfl, hbz⟩
            go_wp2_with fail
            go_ret
            exact ⟨rfl, hfc.trans hbz⟩
end Go.Proofs.YthaocbmkkgeomaaDoor
