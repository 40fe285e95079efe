/- The document's Parse answers what parseD says. Of any text of at most 20000 bytes. Printed by gen_refparse6.py. -/
import Derived.Test.YtfklgaeejmeipaaGreatDoorPTxtRefQ
import Derived.Test.YtfklgaeejmeipaaGreatDoorPTxtRefL5
import Derived.Test.YtfklgaeejmeipaaGreatDoorPTxtPar
import Derived.Test.YtfklgaeejmeipaaGreatDoorPRefParse
import Derived.Test.YtfklgaeejmeipaaGreatDoorPResRefParse
set_option linter.all false
set_option linter.unusedVariables false
set_option linter.unusedSimpArgs false
set_option linter.unnecessarySimpa false
/- The document's Parse answers what parseD says. Of any text of at most 20000 bytes. Printed by gen_refparse6.py. -/
namespace Go.Proofs.YtfklgaeejmeipaaGreatDoor
open Go.RowKit
attribute [local go_sem] Oper.semAt_some

set_option maxRecDepth 100000 in
set_option maxHeartbeats 8000000 in
theorem rp_2 (s : W8) (w : World) (hs : s.length ≤ 20000) {a b : W8} {r : List W8} (hal : splitS 32 s = [105, 110, 118, 111, 107, 101] :: a :: b :: r) (h : (0 ≤ smallD a ∧ smallD a < 16) ∧ 0 ≤ smallD b) :
    Calls Tryz.prog 14 #[.string ⟨s.toArray⟩] w (ParseRet w (parseD s)) := by
  obtain ⟨na, hna⟩ := Int.eq_ofNat_of_zero_le h.1.1
  obtain ⟨nb, hnb⟩ := Int.eq_ofNat_of_zero_le h.2
  have hnb2 := smallD_ge b
  have hrl : r.length ≤ 100000 := by
    have h1 := splitS_len 32 s
    have h2 : s.count 32 ≤ s.length := List.count_le_length
    rw [hal] at h1
    simp only [List.length_cons] at h1
    omega
  obtain ⟨op, er, hpo⟩ : ∃ o e, parseOp r = (o, e) := ⟨_, _, rfl⟩
  obtain ⟨ei, hei⟩ : ∃ e : Int, (er : Int) = e := ⟨_, rfl⟩
  have HPO : Hid (∀ W v, RdS W v r → Calls Tryz.prog 49 #[v] W fun e w' => e = .returned (.tuple #[.agg #[.int .u8 op.F, .int .u8 op.O, .int .u8 op.K, .int .u16 op.A, .int .u16 op.B], .int .i64 ei]) ∧ Fr W w') := Lib.hid (fun W v hv => by
    have := rParse4T v r W hv (by omega)
    rw [hpo] at this
    unfold OpRet at this
    rw [← hei]
    exact this)
  have HEI := Lib.hid hei
  clear hrl
  have hcd : candD (splitS 32 s) = ({ ({ Ev.zero with client := na, id := nb } : Ev) with kind := 2, op := op }, (er == 0)) := by
    rw [hal, candD_cons, if_neg (by decide)]
    simp only
    rw [if_pos h]
    unfold bodyD
    rw [if_pos (show ([105, 110, 118, 111, 107, 101] : W8) = kindW 2 from rfl), hna, hnb, hpo]
    first | done | rfl
  have ok : (candD (splitS 32 s)).1.Ok := candD_ok _
  rw [hcd] at ok
  simp only at ok
  obtain ⟨x, hx⟩ : ∃ x : Ev, x = { ({ Ev.zero with client := na, id := nb } : Ev) with kind := 2, op := op } := ⟨_, rfl⟩
  rw [← hx] at hcd ok
  have OKX := Lib.hid ok
  have HX := Lib.hid hx
  have HYY := Lib.hid (fun (hb : ((er == 0)) = true) (h : x.said = (s, 0)) => parseD_yes (by rw [← hb]; exact hcd) h)
  have HYN := Lib.hid (fun h => parseD_no hcd h)
  have h16 : na < 16 := by omega
  have h65 : nb ≤ 65535 := by omega
  have hwA : IntKind.u8.wrap (na : Int) = na := by simp [IntKind.wrap, IntKind.bits, IntKind.signed]; omega
  have hwB : IntKind.u16.wrap (nb : Int) = nb := by simp [IntKind.wrap, IntKind.bits, IntKind.signed]; omega
  have HA := Lib.hid (fun W => small06_c a W)
  have HB := Lib.hid (fun W => small06_c b W)
  rw [hna] at HA
  rw [hnb] at HB
  generalize parseD s = Y at HYY HYN ⊢
  clear hcd ok hx hna hnb h hnb2
  have hwn := splitS_len 32 s
  have hwc : s.count 32 ≤ s.length := List.count_le_length
  have hWS : ∀ v ∈ splitS 32 s, v.length < 1000000 := fun v hv => by have := splitS_short hv; omega
  have HCUT : Hid (∀ W, Calls Tryz.prog 46 #[.string ⟨s.toArray⟩, .int .u8 32] W fun e w' => ∃ v, e = .returned v ∧ RowS W w' v (splitS 32 s)) := Lib.hid (fun W => cut06_c s 32 W (by omega))
  rw [hal] at hwn hWS HCUT
  have HWS := Lib.hid hWS
  have hwb : ([105, 110, 118, 111, 107, 101] :: (a :: b :: r)).length ≤ 100000 := by omega
  clear hwn hwc hWS hal hs
  go_enter Tryz.func14, Tryz.ntmps14
  go_wp2_with fail
  refine (HCUT.out _).mono ?_
  rintro e w1 ⟨v1, rfl, hrow⟩
  have FP := Lib.hid (((Fr.refl w).alloc (.cells (Ev.zero.cells nil0 nil0) 32)).trans hrow.frm)
  have HP1 : Hid (BoxAt w1 w.heap.size (Ev.zero.cells nil0 nil0) 32) := Lib.hid ((BoxAt.new w (Ev.zero.cells nil0 nil0) 32).fr hrow.frm)
  have hzp := HP1.out.lt
  have hrd := hrow.rd
  obtain ⟨bb, off, cap, rfl, hcap, hmax, hb, hc⟩ := hrd.at (k := 0) (by simp)
  have HSUB := Lib.hid (fun m n c h1 h2 => RdS.sub (w := w1) m hcap hmax hb hc n c h1 h2)
  have HC := Lib.hid (fun W (f : Fr w1 W) j u (h : ([105, 110, 118, 111, 107, 101] :: (a :: b :: r))[j]? = some u) => f.keep (hc j u h))
  simp only [List.length_cons] at hcap hwb
  unfold maxLen at hmax
  have HD1 := Lib.hid (DSt.new w1)
  have c0 : (w1.alloc (.cells (Ev.zero.cells nil0 nil0) 32)).cell? ⟨bb, off + 0, none⟩ = some (.string ⟨([105, 110, 118, 111, 107, 101] : W8).toArray⟩) := HC.out _ HD1.out.frm 0 _ rfl
  have c1 : (w1.alloc (.cells (Ev.zero.cells nil0 nil0) 32)).cell? ⟨bb, off + 1, none⟩ = some (.string ⟨(a : W8).toArray⟩) := HC.out _ HD1.out.frm 1 _ rfl
  have c2 : (w1.alloc (.cells (Ev.zero.cells nil0 nil0) 32)).cell? ⟨bb, off + 2, none⟩ = some (.string ⟨(b : W8).toArray⟩) := HC.out _ HD1.out.frm 2 _ rfl
  rw [Nat.add_zero] at c0
  have q0 : (w1.alloc (.cells (Ev.zero.cells nil0 nil0) 32)).cell? ⟨w1.heap.size, 0, none⟩ = some (.int .u8 0) := HD1.out.box.at 0 rfl
  have g0 := HD1.out.box.free 0
  clear hrow hrd hc HCUT
  have hbq : bb ≠ w1.heap.size := by omega
  clear g0 q0
  go_wp2_with (first | ((with_reducible refine wpList_here (.store 32 (.tmp 5) (.tmp 12)) rfl ?_); refine wpList_store_new 32 (.tmp 5) (.tmp 12) rfl _ (Ev.zero.cells nil0 nil0) _ rfl rfl rfl Tryz.infoEv rfl (Ev.oneCell Ev.zero none none 0 0 0 0) rfl rfl ?_))
  refine (HA.out _).mono ?_
  rintro e w2 ⟨rfl, f2⟩
  have HD2 := Lib.hid (HD1.out.fr f2)
  have d1 := HC.out w2 HD2.out.frm 1 _ rfl
  have d2 := HC.out w2 HD2.out.frm 2 _ rfl
  clear f2 c0 c1 c2
  go_wp2_with fail
  refine (HA.out _).mono ?_
  rintro e w3 ⟨rfl, f3⟩
  have HD3 := Lib.hid (HD2.out.fr f3)
  have d2 := HC.out w3 HD3.out.frm 2 _ rfl
  clear f3 d1
  go_wp2_with fail
  refine (HB.out _).mono ?_
  rintro e w4 ⟨rfl, f4⟩
  have HD4 := Lib.hid (HD3.out.fr f4)
  have d1 := HC.out w4 HD4.out.frm 1 _ rfl
  clear f4 d2
  go_wp2_with fail
  refine (HA.out _).mono ?_
  rintro e w5 ⟨rfl, f5⟩
  have HD5 := Lib.hid (HD4.out.fr f5)
  have b1 : w5.cell? ⟨w1.heap.size, 1, none⟩ = some (.int .u8 0) := HD5.out.box.at 1 rfl
  have g1 := HD5.out.box.free 1
  have z5 := HD5.out.box.lt
  have d2 := HC.out w5 HD5.out.frm 2 _ rfl
  have HD5s : Hid (DSt w1 { Ev.zero with client := na } nil0 nil0 (w5.setCell ⟨w1.heap.size, 1, none⟩ (.int .u8 na))) := Lib.hid (HD5.out.set 1 _ rfl)
  clear f5 d1
  go_wp2_with fail
  refine (HB.out _).mono ?_
  rintro e w6 ⟨rfl, f6⟩
  have HD6 := Lib.hid (HD5s.out.fr f6)
  have b2 : w6.cell? ⟨w1.heap.size, 2, none⟩ = some (.int .u16 0) := HD6.out.box.at 2 rfl
  have b0 : w6.cell? ⟨w1.heap.size, 0, none⟩ = some (.int .u8 0) := HD6.out.box.at 0 rfl
  have g2 := HD6.out.box.free 2
  have g0 := HD6.out.box.free 0
  have z6 := HD6.out.box.lt
  have d0 := HC.out w6 HD6.out.frm 0 _ rfl
  rw [Nat.add_zero] at d0
  have HD6s : Hid (DSt w1 { Ev.zero with client := na, id := nb } nil0 nil0 (w6.setCell ⟨w1.heap.size, 2, none⟩ (.int .u16 nb))) := Lib.hid (HD6.out.set 2 _ rfl)
  clear f6 d2 b1 g1 z5 HD1 HD2 HD3 HD4 HD5 HD5s HD6 HA HB
  have HD7 : Hid (DSt w1 { Ev.zero with kind := 2, client := na, id := nb } nil0 nil0 ((w6.setCell ⟨w1.heap.size, 2, none⟩ (.int .u16 nb)).setCell ⟨w1.heap.size, 0, none⟩ (.int .u8 2))) := Lib.hid (HD6s.out.set 0 _ rfl)
  have hcc : cap = 3 ∨ 3 < cap := by omega
  rcases hcc with rfl | hcc
  all_goals
    go_wp2_with fail
    refine (HPO.out _ _ (by first | exact (HSUB.out 3 _ _ (by simp) (by omega)).keep HD7.out.frm | exact RdS.none (by omega) (by omega) (by unfold maxLen; omega))).mono ?_
    rintro e w8 ⟨rfl, f8⟩
    have HD8 := Lib.hid (HD7.out.fr f8)
    clear f8 d0 b0 g0 b2 g2
    have q3 : w8.cell? ⟨w1.heap.size, 3, none⟩ = some (.int .u8 0) := HD8.out.box.at 3 rfl
    have gg3 := HD8.out.box.free 3
    have q4 : w8.cell? ⟨w1.heap.size, 4, none⟩ = some (.int .u8 0) := HD8.out.box.at 4 rfl
    have gg4 := HD8.out.box.free 4
    have q5 : w8.cell? ⟨w1.heap.size, 5, none⟩ = some (.int .u8 0) := HD8.out.box.at 5 rfl
    have gg5 := HD8.out.box.free 5
    have q6 : w8.cell? ⟨w1.heap.size, 6, none⟩ = some (.int .u16 0) := HD8.out.box.at 6 rfl
    have gg6 := HD8.out.box.free 6
    have q7 : w8.cell? ⟨w1.heap.size, 7, none⟩ = some (.int .u16 0) := HD8.out.box.at 7 rfl
    have gg7 := HD8.out.box.free 7
    have z8 := HD8.out.box.lt
    have HD9a : Hid (DSt w1 x nil0 nil0 (((((w8.setCell ⟨w1.heap.size, 3, none⟩ (.int .u8 op.F)).setCell ⟨w1.heap.size, 4, none⟩ (.int .u8 op.O)).setCell ⟨w1.heap.size, 5, none⟩ (.int .u8 op.K)).setCell ⟨w1.heap.size, 6, none⟩ (.int .u16 op.A)).setCell ⟨w1.heap.size, 7, none⟩ (.int .u16 op.B))) := Lib.hid (by
      rw [HX.out]
      exact ((((HD8.out.set (x' := { Ev.zero with kind := 2, client := na, id := nb, op := { OpD.zero with F := op.F } }) (t' := nil0) (r' := nil0) 3 _ rfl).set (x' := { Ev.zero with kind := 2, client := na, id := nb, op := { OpD.zero with F := op.F, O := op.O } }) (t' := nil0) (r' := nil0) 4 _ rfl).set (x' := { Ev.zero with kind := 2, client := na, id := nb, op := { OpD.zero with F := op.F, O := op.O, K := op.K } }) (t' := nil0) (r' := nil0) 5 _ rfl).set (x' := { Ev.zero with kind := 2, client := na, id := nb, op := { OpD.zero with F := op.F, O := op.O, K := op.K, A := op.A } }) (t' := nil0) (r' := nil0) 6 _ rfl).set 7 _ rfl)
    by_cases he : er = 0
    · have hei := HEI.out
      have hfl : (er == 0) = true := by simp [he]
      rw [he] at hei
      have hei : (0 : Int) = ei := hei
      subst hei
      have HYY : Hid (∀ _ : x.said = (s, 0), Y = (x, 0)) := Lib.hid (fun h => HYY.out hfl h)
      have HYN : Hid (∀ _ : x.said ≠ (s, 0), Y = (Ev.zero, 4)) := Lib.hid (fun h => HYN.out (.inr h))
      clear he hfl HEI
      go_upto_region 31 with (fail)
      refine wp_genT fun W9 hW9 => ?_
      have HD9 : Hid (DSt w1 (x) nil0 nil0 W9) := Lib.hid (by rw [hW9]; exact HD9a.out)
      have HT9 : Hid (RdMZ (w1.heap.size < ·) W9 nil0 (x).txn) := Lib.hid (by rw [hW9]; exact (by rw [HX.out]; exact RdMZ.nil _ _))
      have HR9 : Hid (RdRZ (w1.heap.size < ·) W9 nil0 (x).reads) := Lib.hid (by rw [hW9]; exact (by rw [HX.out]; exact RdRZ.nil _ _))
      clear hW9
      obtain ⟨ax, nx, HSX⟩ : ∃ a, ∃ n : Int, Hid ((x).said.1 = a ∧ ((x).said.2 : Int) = n) := ⟨_, _, Lib.hid ⟨rfl, rfl⟩⟩
      have HLX : Hid (Calls Tryz.prog 12 #[(x).val nil0 nil0] W9 fun e w' => e = .returned (.tuple #[.string ⟨ax.toArray⟩, .int .i64 nx]) ∧ Fr W9 w') := Lib.hid (by
        have := rLine_c (x) ((x).val nil0 nil0) W9 ⟨nil0, nil0, rfl, HT9.out.rd, HR9.out.rd⟩ OKX.out
        unfold StrRet at this
        rw [HSX.out.1, HSX.out.2] at this
        exact this)
      have hBX := HD9.out.box
      go_wp2_with ((with_reducible refine wpList_here (.load 32 (.tmp 5)) rfl ?_); refine wpList_load_box 32 (.tmp 5) rfl _ rfl _ hBX _ Tryz.underlying32 rfl Tryz.infoEv rfl ?_)
      refine HLX.out.mono ?_
      rintro e w10 ⟨rfl, f10⟩
      have HD10 := Lib.hid (HD9.out.fr f10)
      have HT10 := Lib.hid (HT9.out.fr f10)
      have HR10 := Lib.hid (HR9.out.fr f10)
      have F10 := Lib.hid (FP.out.trans HD10.out.frm)
      have hP10 := HP1.out.fr HD10.out.frm
      have hB10 := HD10.out.box
      clear f10 hBX HLX
      by_cases hsd : (x).said = (s, 0)
      · have hY : Y = ((x), 0) := by first | exact HYY.out hsd | exact HYY.out trivial hsd | exact HYY.out rfl hsd
        subst hY
        have hsx := HSX.out
        rw [hsd] at hsx
        obtain ⟨h1, h2⟩ : s = ax ∧ (0 : Int) = nx := hsx
        subst h1 h2
        clear hsd HSX HYN HYY
        go_wp2_with (first | ((with_reducible refine wpList_here (.load 32 (.tmp 5)) rfl ?_); refine wpList_load_box 32 (.tmp 5) rfl _ rfl _ hB10 _ Tryz.underlying32 rfl Tryz.infoEv rfl ?_) | ((with_reducible refine wpList_here (.store 32 (.tmp 2) (.tmp 132)) rfl ?_); refine wpList_store_old 32 (.tmp 2) (.tmp 132) rfl w.heap.size _ _ rfl rfl hP10 Tryz.infoEv rfl (Ev.oneCell (x) _ _ _ _ _ _) rfl rfl ?_; intro wA hrl))
        have hK : ∀ b, w1.heap.size < b → b < w10.heap.size → wA.heap[b]? = w10.heap[b]? := fun b hz _ => hrl.other b (by omega)
        exact bodyPost_ret (v := .tuple #[.agg ((x).cells nil0 nil0), .int .i64 0]) (results_ev2T rfl _ _ w.heap.size _ _ rfl rfl hrl.box rfl) rfl ⟨_, _, rfl, (HT10.out.keep (Nat.le_of_eq hrl.size.symm) hK).mono fun b (hz : w1.heap.size < b) => (by have := FP.out.size; show w.heap.size ≤ b; omega), (HR10.out.keep (Nat.le_of_eq hrl.size.symm) hK).mono fun b (hz : w1.heap.size < b) => (by have := FP.out.size; show w.heap.size ≤ b; omega), hrl.fr F10.out (Nat.le_refl _)⟩
      · have hY : Y = (Ev.zero, 4) := by first | exact HYN.out hsd | exact HYN.out (.inr hsd) | exact HYN.out (by simp [hsd])
        subst hY
        have hsx := HSX.out
        clear HYN HYY hB10
        unfold Ev.said at hsd hsx
        cases hmy : (x).may
        · rw [hmy] at hsx
          obtain ⟨h1, h2⟩ : [] = ax ∧ (4 : Int) = nx := hsx
          subst h1 h2
          clear hsd hmy HSX
          go_wp2_with ((with_reducible refine wpList_here (.store 32 (.tmp 2) (.tmp 131)) rfl ?_); refine wpList_store_old 32 (.tmp 2) (.tmp 131) rfl w.heap.size _ (Ev.zero.cells nil0 nil0) rfl rfl hP10 Tryz.infoEv rfl (Ev.oneCell Ev.zero none none 0 0 0 0) rfl rfl ?_; intro wA hrl)
          exact bodyPost_ret (v := .tuple #[.agg (Ev.zero.cells nil0 nil0), .int .i64 4]) (results_ev2T rfl _ _ w.heap.size _ _ rfl rfl hrl.box rfl) rfl ⟨nil0, nil0, rfl, RdMZ.nil _ _, RdRZ.nil _ _, hrl.fr F10.out (Nat.le_refl _)⟩
        · rw [hmy] at hsx hsd
          obtain ⟨h1, h2⟩ : (x).line = ax ∧ (0 : Int) = nx := hsx
          subst h1 h2
          have hne : ¬ (x).line = s := fun e => hsd (by rw [e]; rfl)
          clear hsd hmy HSX
          generalize (x).line = q at hne ⊢
          have n1 : (q == s) = false := by simpa using hne
          have n2 : (q != s) = true := by simpa using hne
          clear hne
          go_wp2_with ((with_reducible refine wpList_here (.store 32 (.tmp 2) (.tmp 131)) rfl ?_); refine wpList_store_old 32 (.tmp 2) (.tmp 131) rfl w.heap.size _ (Ev.zero.cells nil0 nil0) rfl rfl hP10 Tryz.infoEv rfl (Ev.oneCell Ev.zero none none 0 0 0 0) rfl rfl ?_; intro wA hrl)
          exact bodyPost_ret (v := .tuple #[.agg (Ev.zero.cells nil0 nil0), .int .i64 4]) (results_ev2T rfl _ _ w.heap.size _ _ rfl rfl hrl.box rfl) rfl ⟨nil0, nil0, rfl, RdMZ.nil _ _, RdRZ.nil _ _, hrl.fr F10.out (Nat.le_refl _)⟩
    · have HYN : Hid (∀ _ : True, Y = (Ev.zero, 4)) := Lib.hid (fun _ => HYN.out (.inl (by simp [he])))
      have hei2 : (ei == 0) = false := by rw [← HEI.out]; simpa using he
      clear he HEI
      go_upto_region 31 with (fail)
      refine wp_genT fun W9 hW9 => ?_
      have HD9 : Hid (DSt w1 (x) nil0 nil0 W9) := Lib.hid (by rw [hW9]; exact HD9a.out)
      have HT9 : Hid (RdMZ (w1.heap.size < ·) W9 nil0 (x).txn) := Lib.hid (by rw [hW9]; exact (by rw [HX.out]; exact RdMZ.nil _ _))
      have HR9 : Hid (RdRZ (w1.heap.size < ·) W9 nil0 (x).reads) := Lib.hid (by rw [hW9]; exact (by rw [HX.out]; exact RdRZ.nil _ _))
      clear hW9
      obtain ⟨ax, nx, HSX⟩ : ∃ a, ∃ n : Int, Hid ((x).said.1 = a ∧ ((x).said.2 : Int) = n) := ⟨_, _, Lib.hid ⟨rfl, rfl⟩⟩
      have HLX : Hid (Calls Tryz.prog 12 #[(x).val nil0 nil0] W9 fun e w' => e = .returned (.tuple #[.string ⟨ax.toArray⟩, .int .i64 nx]) ∧ Fr W9 w') := Lib.hid (by
        have := rLine_c (x) ((x).val nil0 nil0) W9 ⟨nil0, nil0, rfl, HT9.out.rd, HR9.out.rd⟩ OKX.out
        unfold StrRet at this
        rw [HSX.out.1, HSX.out.2] at this
        exact this)
      have hBX := HD9.out.box
      have HY0 : Y = (Ev.zero, 4) := by first | exact HYN.out trivial | exact HYN.out trivial | exact HYN.out (by simp)
      subst HY0
      go_wp2_with ((with_reducible refine wpList_here (.load 32 (.tmp 5)) rfl ?_); refine wpList_load_box 32 (.tmp 5) rfl _ rfl _ hBX _ Tryz.underlying32 rfl Tryz.infoEv rfl ?_)
      refine HLX.out.mono ?_
      rintro e w9 ⟨rfl, f9⟩
      have F9 := Lib.hid (FP.out.trans (HD9.out.frm.trans f9))
      have hP9 := HP1.out.fr (HD9.out.frm.trans f9)
      clear f9 hBX
      go_wp2_with ((with_reducible refine wpList_here (.store 32 (.tmp 2) (.tmp 131)) rfl ?_); refine wpList_store_old 32 (.tmp 2) (.tmp 131) rfl w.heap.size _ (Ev.zero.cells nil0 nil0) rfl rfl hP9 Tryz.infoEv rfl (Ev.oneCell Ev.zero none none 0 0 0 0) rfl rfl ?_; intro wA hrl)
      exact bodyPost_ret (v := .tuple #[.agg (Ev.zero.cells nil0 nil0), .int .i64 4]) (results_ev2T rfl _ _ w.heap.size _ _ rfl rfl hrl.box rfl) rfl ⟨nil0, nil0, rfl, RdMZ.nil _ _, RdRZ.nil _ _, hrl.fr F9.out (Nat.le_refl _)⟩
set_option maxRecDepth 100000 in
set_option maxHeartbeats 8000000 in
theorem rp_3 (s : W8) (w : World) (hs : s.length ≤ 20000) {a b : W8} {r : List W8} (hal : splitS 32 s = [114, 101, 116, 117, 114, 110] :: a :: b :: r) (h : (0 ≤ smallD a ∧ smallD a < 16) ∧ 0 ≤ smallD b) :
    Calls Tryz.prog 14 #[.string ⟨s.toArray⟩] w (ParseRet w (parseD s)) := by
  obtain ⟨na, hna⟩ := Int.eq_ofNat_of_zero_le h.1.1
  obtain ⟨nb, hnb⟩ := Int.eq_ofNat_of_zero_le h.2
  have hnb2 := smallD_ge b
  obtain ⟨rk, rv, er, hpr⟩ : ∃ a b c, parseRes (joinS 32 r) = (a, b, c) := ⟨_, _, _, rfl⟩
  obtain ⟨ei, hei⟩ : ∃ e : Int, (er : Int) = e := ⟨_, rfl⟩
  have hjl : (joinS 32 r).length < 1000000 := by rw [← join_is]; exact (parts_short hs hal).2.2 [a, b] r rfl
  have HBH : Hid (∀ W, Calls Tryz.prog 51 #[.string ⟨s.toArray⟩] W fun e w' => e = .returned (.string ⟨(joinS 32 r).toArray⟩) ∧ Fr W w') := Lib.hid (fun W => by
    have := behind06_c s W (by omega)
    rw [show behindD s = joinS 32 r by unfold behindD; rw [hal]; rfl] at this
    exact this)
  have HPR : Hid (∀ W, Calls Tryz.prog 50 #[.string ⟨(joinS 32 r).toArray⟩] W fun e w' => e = .returned (.tuple #[.agg #[.int .u8 rk, .int .u16 rv], .int .i64 ei]) ∧ Fr W w') := Lib.hid (fun W => by
    have := rParse3_c (joinS 32 r) W hjl
    rw [hpr] at this
    unfold ResRet at this
    rw [← hei]
    exact this)
  have HEI := Lib.hid hei
  clear hjl
  have hcd : candD (splitS 32 s) = ({ ({ Ev.zero with client := na, id := nb } : Ev) with kind := 3, rk := rk, rv := rv }, (er == 0)) := by
    rw [hal, candD_cons, if_neg (by decide)]
    simp only
    rw [if_pos h]
    unfold bodyD
    rw [if_neg (by decide), if_pos (show ([114, 101, 116, 117, 114, 110] : W8) = kindW 3 from rfl), hna, hnb, hpr]
    first | done | rfl
  have ok : (candD (splitS 32 s)).1.Ok := candD_ok _
  rw [hcd] at ok
  simp only at ok
  obtain ⟨x, hx⟩ : ∃ x : Ev, x = { ({ Ev.zero with client := na, id := nb } : Ev) with kind := 3, rk := rk, rv := rv } := ⟨_, rfl⟩
  rw [← hx] at hcd ok
  have OKX := Lib.hid ok
  have HX := Lib.hid hx
  have HYY := Lib.hid (fun (hb : ((er == 0)) = true) (h : x.said = (s, 0)) => parseD_yes (by rw [← hb]; exact hcd) h)
  have HYN := Lib.hid (fun h => parseD_no hcd h)
  have h16 : na < 16 := by omega
  have h65 : nb ≤ 65535 := by omega
  have hwA : IntKind.u8.wrap (na : Int) = na := by simp [IntKind.wrap, IntKind.bits, IntKind.signed]; omega
  have hwB : IntKind.u16.wrap (nb : Int) = nb := by simp [IntKind.wrap, IntKind.bits, IntKind.signed]; omega
  have HA := Lib.hid (fun W => small06_c a W)
  have HB := Lib.hid (fun W => small06_c b W)
  rw [hna] at HA
  rw [hnb] at HB
  generalize parseD s = Y at HYY HYN ⊢
  clear hcd ok hx hna hnb h hnb2
  have hwn := splitS_len 32 s
  have hwc : s.count 32 ≤ s.length := List.count_le_length
  have hWS : ∀ v ∈ splitS 32 s, v.length < 1000000 := fun v hv => by have := splitS_short hv; omega
  have HCUT : Hid (∀ W, Calls Tryz.prog 46 #[.string ⟨s.toArray⟩, .int .u8 32] W fun e w' => ∃ v, e = .returned v ∧ RowS W w' v (splitS 32 s)) := Lib.hid (fun W => cut06_c s 32 W (by omega))
  rw [hal] at hwn hWS HCUT
  have HWS := Lib.hid hWS
  have hwb : ([114, 101, 116, 117, 114, 110] :: (a :: b :: r)).length ≤ 100000 := by omega
  clear hwn hwc hWS hal hs
  go_enter Tryz.func14, Tryz.ntmps14
  go_wp2_with fail
  refine (HCUT.out _).mono ?_
  rintro e w1 ⟨v1, rfl, hrow⟩
  have FP := Lib.hid (((Fr.refl w).alloc (.cells (Ev.zero.cells nil0 nil0) 32)).trans hrow.frm)
  have HP1 : Hid (BoxAt w1 w.heap.size (Ev.zero.cells nil0 nil0) 32) := Lib.hid ((BoxAt.new w (Ev.zero.cells nil0 nil0) 32).fr hrow.frm)
  have hzp := HP1.out.lt
  have hrd := hrow.rd
  obtain ⟨bb, off, cap, rfl, hcap, hmax, hb, hc⟩ := hrd.at (k := 0) (by simp)
  have HSUB := Lib.hid (fun m n c h1 h2 => RdS.sub (w := w1) m hcap hmax hb hc n c h1 h2)
  have HC := Lib.hid (fun W (f : Fr w1 W) j u (h : ([114, 101, 116, 117, 114, 110] :: (a :: b :: r))[j]? = some u) => f.keep (hc j u h))
  simp only [List.length_cons] at hcap hwb
  unfold maxLen at hmax
  have HD1 := Lib.hid (DSt.new w1)
  have c0 : (w1.alloc (.cells (Ev.zero.cells nil0 nil0) 32)).cell? ⟨bb, off + 0, none⟩ = some (.string ⟨([114, 101, 116, 117, 114, 110] : W8).toArray⟩) := HC.out _ HD1.out.frm 0 _ rfl
  have c1 : (w1.alloc (.cells (Ev.zero.cells nil0 nil0) 32)).cell? ⟨bb, off + 1, none⟩ = some (.string ⟨(a : W8).toArray⟩) := HC.out _ HD1.out.frm 1 _ rfl
  have c2 : (w1.alloc (.cells (Ev.zero.cells nil0 nil0) 32)).cell? ⟨bb, off + 2, none⟩ = some (.string ⟨(b : W8).toArray⟩) := HC.out _ HD1.out.frm 2 _ rfl
  rw [Nat.add_zero] at c0
  have q0 : (w1.alloc (.cells (Ev.zero.cells nil0 nil0) 32)).cell? ⟨w1.heap.size, 0, none⟩ = some (.int .u8 0) := HD1.out.box.at 0 rfl
  have g0 := HD1.out.box.free 0
  clear hrow hrd hc HCUT
  have hbq : bb ≠ w1.heap.size := by omega
  clear g0 q0
  go_wp2_with (first | ((with_reducible refine wpList_here (.store 32 (.tmp 5) (.tmp 12)) rfl ?_); refine wpList_store_new 32 (.tmp 5) (.tmp 12) rfl _ (Ev.zero.cells nil0 nil0) _ rfl rfl rfl Tryz.infoEv rfl (Ev.oneCell Ev.zero none none 0 0 0 0) rfl rfl ?_))
  refine (HA.out _).mono ?_
  rintro e w2 ⟨rfl, f2⟩
  have HD2 := Lib.hid (HD1.out.fr f2)
  have d1 := HC.out w2 HD2.out.frm 1 _ rfl
  have d2 := HC.out w2 HD2.out.frm 2 _ rfl
  clear f2 c0 c1 c2
  go_wp2_with fail
  refine (HA.out _).mono ?_
  rintro e w3 ⟨rfl, f3⟩
  have HD3 := Lib.hid (HD2.out.fr f3)
  have d2 := HC.out w3 HD3.out.frm 2 _ rfl
  clear f3 d1
  go_wp2_with fail
  refine (HB.out _).mono ?_
  rintro e w4 ⟨rfl, f4⟩
  have HD4 := Lib.hid (HD3.out.fr f4)
  have d1 := HC.out w4 HD4.out.frm 1 _ rfl
  clear f4 d2
  go_wp2_with fail
  refine (HA.out _).mono ?_
  rintro e w5 ⟨rfl, f5⟩
  have HD5 := Lib.hid (HD4.out.fr f5)
  have b1 : w5.cell? ⟨w1.heap.size, 1, none⟩ = some (.int .u8 0) := HD5.out.box.at 1 rfl
  have g1 := HD5.out.box.free 1
  have z5 := HD5.out.box.lt
  have d2 := HC.out w5 HD5.out.frm 2 _ rfl
  have HD5s : Hid (DSt w1 { Ev.zero with client := na } nil0 nil0 (w5.setCell ⟨w1.heap.size, 1, none⟩ (.int .u8 na))) := Lib.hid (HD5.out.set 1 _ rfl)
  clear f5 d1
  go_wp2_with fail
  refine (HB.out _).mono ?_
  rintro e w6 ⟨rfl, f6⟩
  have HD6 := Lib.hid (HD5s.out.fr f6)
  have b2 : w6.cell? ⟨w1.heap.size, 2, none⟩ = some (.int .u16 0) := HD6.out.box.at 2 rfl
  have b0 : w6.cell? ⟨w1.heap.size, 0, none⟩ = some (.int .u8 0) := HD6.out.box.at 0 rfl
  have g2 := HD6.out.box.free 2
  have g0 := HD6.out.box.free 0
  have z6 := HD6.out.box.lt
  have d0 := HC.out w6 HD6.out.frm 0 _ rfl
  rw [Nat.add_zero] at d0
  have HD6s : Hid (DSt w1 { Ev.zero with client := na, id := nb } nil0 nil0 (w6.setCell ⟨w1.heap.size, 2, none⟩ (.int .u16 nb))) := Lib.hid (HD6.out.set 2 _ rfl)
  clear f6 d2 b1 g1 z5 HD1 HD2 HD3 HD4 HD5 HD5s HD6 HA HB
  have HD7 : Hid (DSt w1 { Ev.zero with kind := 3, client := na, id := nb } nil0 nil0 ((w6.setCell ⟨w1.heap.size, 2, none⟩ (.int .u16 nb)).setCell ⟨w1.heap.size, 0, none⟩ (.int .u8 3))) := Lib.hid (HD6s.out.set 0 _ rfl)
  go_wp2_with fail
  refine (HBH.out _).mono ?_
  rintro e w7 ⟨rfl, f7⟩
  have HD7b := Lib.hid (HD7.out.fr f7)
  clear f7 d0 b0 g0 b2 g2
  go_wp2_with fail
  refine (HPR.out _).mono ?_
  rintro e w8 ⟨rfl, f8⟩
  have HD8 := Lib.hid (HD7b.out.fr f8)
  clear f8
  have q8 : w8.cell? ⟨w1.heap.size, 8, none⟩ = some (.int .u8 0) := HD8.out.box.at 8 rfl
  have gg8 := HD8.out.box.free 8
  have q9 : w8.cell? ⟨w1.heap.size, 9, none⟩ = some (.int .u16 0) := HD8.out.box.at 9 rfl
  have gg9 := HD8.out.box.free 9
  have z8 := HD8.out.box.lt
  have HD9a : Hid (DSt w1 x nil0 nil0 ((w8.setCell ⟨w1.heap.size, 8, none⟩ (.int .u8 rk)).setCell ⟨w1.heap.size, 9, none⟩ (.int .u16 rv))) := Lib.hid (by
    rw [HX.out]
    exact (HD8.out.set (x' := { Ev.zero with kind := 3, client := na, id := nb, rk := rk }) (t' := nil0) (r' := nil0) 8 _ rfl).set 9 _ rfl)
  by_cases he : er = 0
  · have hei := HEI.out
    have hfl : (er == 0) = true := by simp [he]
    rw [he] at hei
    have hei : (0 : Int) = ei := hei
    subst hei
    have HYY : Hid (∀ _ : x.said = (s, 0), Y = (x, 0)) := Lib.hid (fun h => HYY.out hfl h)
    have HYN : Hid (∀ _ : x.said ≠ (s, 0), Y = (Ev.zero, 4)) := Lib.hid (fun h => HYN.out (.inr h))
    clear he hfl HEI
    go_upto_region 31 with (fail)
    refine wp_genT fun W9 hW9 => ?_
    have HD9 : Hid (DSt w1 (x) nil0 nil0 W9) := Lib.hid (by rw [hW9]; exact HD9a.out)
    have HT9 : Hid (RdMZ (w1.heap.size < ·) W9 nil0 (x).txn) := Lib.hid (by rw [hW9]; exact (by rw [HX.out]; exact RdMZ.nil _ _))
    have HR9 : Hid (RdRZ (w1.heap.size < ·) W9 nil0 (x).reads) := Lib.hid (by rw [hW9]; exact (by rw [HX.out]; exact RdRZ.nil _ _))
    clear hW9
    obtain ⟨ax, nx, HSX⟩ : ∃ a, ∃ n : Int, Hid ((x).said.1 = a ∧ ((x).said.2 : Int) = n) := ⟨_, _, Lib.hid ⟨rfl, rfl⟩⟩
    have HLX : Hid (Calls Tryz.prog 12 #[(x).val nil0 nil0] W9 fun e w' => e = .returned (.tuple #[.string ⟨ax.toArray⟩, .int .i64 nx]) ∧ Fr W9 w') := Lib.hid (by
      have := rLine_c (x) ((x).val nil0 nil0) W9 ⟨nil0, nil0, rfl, HT9.out.rd, HR9.out.rd⟩ OKX.out
      unfold StrRet at this
      rw [HSX.out.1, HSX.out.2] at this
      exact this)
    have hBX := HD9.out.box
    go_wp2_with ((with_reducible refine wpList_here (.load 32 (.tmp 5)) rfl ?_); refine wpList_load_box 32 (.tmp 5) rfl _ rfl _ hBX _ Tryz.underlying32 rfl Tryz.infoEv rfl ?_)
    refine HLX.out.mono ?_
    rintro e w10 ⟨rfl, f10⟩
    have HD10 := Lib.hid (HD9.out.fr f10)
    have HT10 := Lib.hid (HT9.out.fr f10)
    have HR10 := Lib.hid (HR9.out.fr f10)
    have F10 := Lib.hid (FP.out.trans HD10.out.frm)
    have hP10 := HP1.out.fr HD10.out.frm
    have hB10 := HD10.out.box
    clear f10 hBX HLX
    by_cases hsd : (x).said = (s, 0)
    · have hY : Y = ((x), 0) := by first | exact HYY.out hsd | exact HYY.out trivial hsd | exact HYY.out rfl hsd
      subst hY
      have hsx := HSX.out
      rw [hsd] at hsx
      obtain ⟨h1, h2⟩ : s = ax ∧ (0 : Int) = nx := hsx
      subst h1 h2
      clear hsd HSX HYN HYY
      go_wp2_with (first | ((with_reducible refine wpList_here (.load 32 (.tmp 5)) rfl ?_); refine wpList_load_box 32 (.tmp 5) rfl _ rfl _ hB10 _ Tryz.underlying32 rfl Tryz.infoEv rfl ?_) | ((with_reducible refine wpList_here (.store 32 (.tmp 2) (.tmp 132)) rfl ?_); refine wpList_store_old 32 (.tmp 2) (.tmp 132) rfl w.heap.size _ _ rfl rfl hP10 Tryz.infoEv rfl (Ev.oneCell (x) _ _ _ _ _ _) rfl rfl ?_; intro wA hrl))
      have hK : ∀ b, w1.heap.size < b → b < w10.heap.size → wA.heap[b]? = w10.heap[b]? := fun b hz _ => hrl.other b (by omega)
      exact bodyPost_ret (v := .tuple #[.agg ((x).cells nil0 nil0), .int .i64 0]) (results_ev2T rfl _ _ w.heap.size _ _ rfl rfl hrl.box rfl) rfl ⟨_, _, rfl, (HT10.out.keep (Nat.le_of_eq hrl.size.symm) hK).mono fun b (hz : w1.heap.size < b) => (by have := FP.out.size; show w.heap.size ≤ b; omega), (HR10.out.keep (Nat.le_of_eq hrl.size.symm) hK).mono fun b (hz : w1.heap.size < b) => (by have := FP.out.size; show w.heap.size ≤ b; omega), hrl.fr F10.out (Nat.le_refl _)⟩
    · have hY : Y = (Ev.zero, 4) := by first | exact HYN.out hsd | exact HYN.out (.inr hsd) | exact HYN.out (by simp [hsd])
      subst hY
      have hsx := HSX.out
      clear HYN HYY hB10
      unfold Ev.said at hsd hsx
      cases hmy : (x).may
      · rw [hmy] at hsx
        obtain ⟨h1, h2⟩ : [] = ax ∧ (4 : Int) = nx := hsx
        subst h1 h2
        clear hsd hmy HSX
        go_wp2_with ((with_reducible refine wpList_here (.store 32 (.tmp 2) (.tmp 131)) rfl ?_); refine wpList_store_old 32 (.tmp 2) (.tmp 131) rfl w.heap.size _ (Ev.zero.cells nil0 nil0) rfl rfl hP10 Tryz.infoEv rfl (Ev.oneCell Ev.zero none none 0 0 0 0) rfl rfl ?_; intro wA hrl)
        exact bodyPost_ret (v := .tuple #[.agg (Ev.zero.cells nil0 nil0), .int .i64 4]) (results_ev2T rfl _ _ w.heap.size _ _ rfl rfl hrl.box rfl) rfl ⟨nil0, nil0, rfl, RdMZ.nil _ _, RdRZ.nil _ _, hrl.fr F10.out (Nat.le_refl _)⟩
      · rw [hmy] at hsx hsd
        obtain ⟨h1, h2⟩ : (x).line = ax ∧ (0 : Int) = nx := hsx
        subst h1 h2
        have hne : ¬ (x).line = s := fun e => hsd (by rw [e]; rfl)
        clear hsd hmy HSX
        generalize (x).line = q at hne ⊢
        have n1 : (q == s) = false := by simpa using hne
        have n2 : (q != s) = true := by simpa using hne
        clear hne
        go_wp2_with ((with_reducible refine wpList_here (.store 32 (.tmp 2) (.tmp 131)) rfl ?_); refine wpList_store_old 32 (.tmp 2) (.tmp 131) rfl w.heap.size _ (Ev.zero.cells nil0 nil0) rfl rfl hP10 Tryz.infoEv rfl (Ev.oneCell Ev.zero none none 0 0 0 0) rfl rfl ?_; intro wA hrl)
        exact bodyPost_ret (v := .tuple #[.agg (Ev.zero.cells nil0 nil0), .int .i64 4]) (results_ev2T rfl _ _ w.heap.size _ _ rfl rfl hrl.box rfl) rfl ⟨nil0, nil0, rfl, RdMZ.nil _ _, RdRZ.nil _ _, hrl.fr F10.out (Nat.le_refl _)⟩
  · have HYN : Hid (∀ _ : True, Y = (Ev.zero, 4)) := Lib.hid (fun _ => HYN.out (.inl (by simp [he])))
    have hei2 : (ei == 0) = false := by rw [← HEI.out]; simpa using he
    clear he HEI
    go_upto_region 31 with (fail)
    refine wp_genT fun W9 hW9 => ?_
    have HD9 : Hid (DSt w1 (x) nil0 nil0 W9) := Lib.hid (by rw [hW9]; exact HD9a.out)
    have HT9 : Hid (RdMZ (w1.heap.size < ·) W9 nil0 (x).txn) := Lib.hid (by rw [hW9]; exact (by rw [HX.out]; exact RdMZ.nil _ _))
    have HR9 : Hid (RdRZ (w1.heap.size < ·) W9 nil0 (x).reads) := Lib.hid (by rw [hW9]; exact (by rw [HX.out]; exact RdRZ.nil _ _))
    clear hW9
    obtain ⟨ax, nx, HSX⟩ : ∃ a, ∃ n : Int, Hid ((x).said.1 = a ∧ ((x).said.2 : Int) = n) := ⟨_, _, Lib.hid ⟨rfl, rfl⟩⟩
    have HLX : Hid (Calls Tryz.prog 12 #[(x).val nil0 nil0] W9 fun e w' => e = .returned (.tuple #[.string ⟨ax.toArray⟩, .int .i64 nx]) ∧ Fr W9 w') := Lib.hid (by
      have := rLine_c (x) ((x).val nil0 nil0) W9 ⟨nil0, nil0, rfl, HT9.out.rd, HR9.out.rd⟩ OKX.out
      unfold StrRet at this
      rw [HSX.out.1, HSX.out.2] at this
      exact this)
    have hBX := HD9.out.box
    have HY0 : Y = (Ev.zero, 4) := by first | exact HYN.out trivial | exact HYN.out trivial | exact HYN.out (by simp)
    subst HY0
    go_wp2_with ((with_reducible refine wpList_here (.load 32 (.tmp 5)) rfl ?_); refine wpList_load_box 32 (.tmp 5) rfl _ rfl _ hBX _ Tryz.underlying32 rfl Tryz.infoEv rfl ?_)
    refine HLX.out.mono ?_
    rintro e w9 ⟨rfl, f9⟩
    have F9 := Lib.hid (FP.out.trans (HD9.out.frm.trans f9))
    have hP9 := HP1.out.fr (HD9.out.frm.trans f9)
    clear f9 hBX
    go_wp2_with ((with_reducible refine wpList_here (.store 32 (.tmp 2) (.tmp 131)) rfl ?_); refine wpList_store_old 32 (.tmp 2) (.tmp 131) rfl w.heap.size _ (Ev.zero.cells nil0 nil0) rfl rfl hP9 Tryz.infoEv rfl (Ev.oneCell Ev.zero none none 0 0 0 0) rfl rfl ?_; intro wA hrl)
    exact bodyPost_ret (v := .tuple #[.agg (Ev.zero.cells nil0 nil0), .int .i64 4]) (results_ev2T rfl _ _ w.heap.size _ _ rfl rfl hrl.box rfl) rfl ⟨nil0, nil0, rfl, RdMZ.nil _ _, RdRZ.nil _ _, hrl.fr F9.out (Nat.le_refl _)⟩
end Go.Proofs.YtfklgaeejmeipaaGreatDoor
