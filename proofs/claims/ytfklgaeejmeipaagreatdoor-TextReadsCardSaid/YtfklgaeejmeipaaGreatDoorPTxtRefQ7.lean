/- The document's Parse answers what parseD says. Of any text of at most 20000 bytes. Printed by gen_refparse6.py. -/
import Derived.Test.YtfklgaeejmeipaaGreatDoorPTxtRefQ
import Derived.Test.YtfklgaeejmeipaaGreatDoorPTxtRefL5
import Derived.Test.YtfklgaeejmeipaaGreatDoorPTxtPar
import Derived.Test.YtfklgaeejmeipaaGreatDoorPRefParse
import Derived.Test.YtfklgaeejmeipaaGreatDoorPResRefParse
import Derived.Test.YtfklgaeejmeipaaGreatDoorPTxtRefQ3
import Derived.Test.YtfklgaeejmeipaaGreatDoorPTxtRefQ5
import Derived.Test.YtfklgaeejmeipaaGreatDoorPEvSame
set_option linter.all false
set_option linter.unusedVariables false
set_option linter.unusedSimpArgs false
set_option linter.unnecessarySimpa false
/- The document's Parse answers what parseD says. Of any text of at most 20000 bytes. Printed by gen_refparse6.py. -/
namespace Go.Proofs.YtfklgaeejmeipaaGreatDoor
open Go.RowKit
attribute [local go_sem] Oper.semAt_some

set_option maxRecDepth 100000 in
set_option maxHeartbeats 8000000 in
theorem rp_5 (s : W8) (w : World) (hs : s.length ≤ 20000) {a b : W8} {r : List W8} (hal : splitS 32 s = [98, 101, 103, 105, 110] :: a :: b :: r) (h : (0 ≤ smallD a ∧ smallD a < 16) ∧ 0 ≤ smallD b) :
    Calls Tryz.prog 14 #[.string ⟨s.toArray⟩] w (ParseRet w (parseD s)) := by
  obtain ⟨na, hna⟩ := Int.eq_ofNat_of_zero_le h.1.1
  obtain ⟨nb, hnb⟩ := Int.eq_ofNat_of_zero_le h.2
  have hnb2 := smallD_ge b
  have hrl : r.length ≤ 100000 := by
    have h1 := splitS_len 32 s
    have h2 : s.count 32 ≤ s.length := List.count_le_length
    rw [hal] at h1
    simp only [List.length_cons] at h1
    omega
  obtain ⟨mo, hmo⟩ : ∃ o, micsD r = o := ⟨_, rfl⟩
  obtain ⟨bo, hbo⟩ : ∃ b, mo.isSome = b := ⟨_, rfl⟩
  have HMI : Hid (∀ W v, RdS W v r → Calls Tryz.prog 52 #[v] W fun e w' => ∃ u, e = .returned (.tuple #[u, .bool bo]) ∧ RdMZ (W.heap.size ≤ ·) w' u (mo.getD []) ∧ Fr W w') := Lib.hid (fun W v hv => by
    have := micros06_c v r W hv (by omega)
    rw [hmo] at this
    unfold MicsRet at this
    rw [hbo] at this
    exact this)
  clear hrl
  have hcd : candD (splitS 32 s) = ({ ({ Ev.zero with client := na, id := nb } : Ev) with kind := 5, txn := mo.getD [] }, bo) := by
    rw [hal, candD_cons, if_neg (by decide)]
    simp only
    rw [if_pos h]
    unfold bodyD
    rw [if_neg (by decide), if_neg (by decide), if_neg (by decide), if_pos (show ([98, 101, 103, 105, 110] : W8) = kindW 5 from rfl), hna, hnb, hmo, hbo]
    first | done | rfl
  have ok : (candD (splitS 32 s)).1.Ok := candD_ok _
  rw [hcd] at ok
  simp only at ok
  obtain ⟨x, hx⟩ : ∃ x : Ev, x = { ({ Ev.zero with client := na, id := nb } : Ev) with kind := 5, txn := mo.getD [] } := ⟨_, rfl⟩
  rw [← hx] at hcd ok
  have OKX := Lib.hid ok
  have HX := Lib.hid hx
  have HYY := Lib.hid (fun (hb : (bo) = true) (h : x.said = (s, 0)) => parseD_yes (by rw [← hb]; exact hcd) h)
  have HYN := Lib.hid (fun h => parseD_no hcd h)
  have h16 : na < 16 := by omega
  have h65 : nb ≤ 65535 := by omega
  have hwA : IntKind.u8.wrap (na : Int) = na := by simp [IntKind.wrap, IntKind.bits, IntKind.signed]; omega
  have hwB : IntKind.u16.wrap (nb : Int) = nb := by simp [IntKind.wrap, IntKind.bits, IntKind.signed]; omega
  have HA := Lib.hid (fun W => small06_c a W)
  have HB := Lib.hid (fun W => small06_c b W)
  rw [hna] at HA
  rw [hnb] at HB
  generalize parseD s = Y at HYY HYN ⊢
  clear hcd ok hx hna hnb h hnb2
  have hwn := splitS_len 32 s
  have hwc : s.count 32 ≤ s.length := List.count_le_length
  have hWS : ∀ v ∈ splitS 32 s, v.length < 1000000 := fun v hv => by have := splitS_short hv; omega
  have HCUT : Hid (∀ W, Calls Tryz.prog 46 #[.string ⟨s.toArray⟩, .int .u8 32] W fun e w' => ∃ v, e = .returned v ∧ RowS W w' v (splitS 32 s)) := Lib.hid (fun W => cut06_c s 32 W (by omega))
  rw [hal] at hwn hWS HCUT
  have HWS := Lib.hid hWS
  have hwb : ([98, 101, 103, 105, 110] :: (a :: b :: r)).length ≤ 100000 := by omega
  clear hwn hwc hWS hal hs
  go_enter Tryz.func14, Tryz.ntmps14
  go_wp2_with fail
  refine (HCUT.out _).mono ?_
  rintro e w1 ⟨v1, rfl, hrow⟩
  have FP := Lib.hid (((Fr.refl w).alloc (.cells (Ev.zero.cells nil0 nil0) 32)).trans hrow.frm)
  have HP1 : Hid (BoxAt w1 w.heap.size (Ev.zero.cells nil0 nil0) 32) := Lib.hid ((BoxAt.new w (Ev.zero.cells nil0 nil0) 32).fr hrow.frm)
  have hzp := HP1.out.lt
  have hrd := hrow.rd
  obtain ⟨bb, off, cap, rfl, hcap, hmax, hb, hc⟩ := hrd.at (k := 0) (by simp)
  have HSUB := Lib.hid (fun m n c h1 h2 => RdS.sub (w := w1) m hcap hmax hb hc n c h1 h2)
  have HC := Lib.hid (fun W (f : Fr w1 W) j u (h : ([98, 101, 103, 105, 110] :: (a :: b :: r))[j]? = some u) => f.keep (hc j u h))
  simp only [List.length_cons] at hcap hwb
  unfold maxLen at hmax
  have HD1 := Lib.hid (DSt.new w1)
  have c0 : (w1.alloc (.cells (Ev.zero.cells nil0 nil0) 32)).cell? ⟨bb, off + 0, none⟩ = some (.string ⟨([98, 101, 103, 105, 110] : W8).toArray⟩) := HC.out _ HD1.out.frm 0 _ rfl
  have c1 : (w1.alloc (.cells (Ev.zero.cells nil0 nil0) 32)).cell? ⟨bb, off + 1, none⟩ = some (.string ⟨(a : W8).toArray⟩) := HC.out _ HD1.out.frm 1 _ rfl
  have c2 : (w1.alloc (.cells (Ev.zero.cells nil0 nil0) 32)).cell? ⟨bb, off + 2, none⟩ = some (.string ⟨(b : W8).toArray⟩) := HC.out _ HD1.out.frm 2 _ rfl
  rw [Nat.add_zero] at c0
  have q0 : (w1.alloc (.cells (Ev.zero.cells nil0 nil0) 32)).cell? ⟨w1.heap.size, 0, none⟩ = some (.int .u8 0) := HD1.out.box.at 0 rfl
  have g0 := HD1.out.box.free 0
  clear hrow hrd hc HCUT
  have hbq : bb ≠ w1.heap.size := by omega
  clear g0 q0
  go_wp2_with (first | ((with_reducible refine wpList_here (.store 32 (.tmp 5) (.tmp 12)) rfl ?_); refine wpList_store_new 32 (.tmp 5) (.tmp 12) rfl _ (Ev.zero.cells nil0 nil0) _ rfl rfl rfl Tryz.infoEv rfl (Ev.oneCell Ev.zero none none 0 0 0 0) rfl rfl ?_))
  refine (HA.out _).mono ?_
  rintro e w2 ⟨rfl, f2⟩
  have HD2 := Lib.hid (HD1.out.fr f2)
  have d1 := HC.out w2 HD2.out.frm 1 _ rfl
  have d2 := HC.out w2 HD2.out.frm 2 _ rfl
  clear f2 c0 c1 c2
  go_wp2_with fail
  refine (HA.out _).mono ?_
  rintro e w3 ⟨rfl, f3⟩
  have HD3 := Lib.hid (HD2.out.fr f3)
  have d2 := HC.out w3 HD3.out.frm 2 _ rfl
  clear f3 d1
  go_wp2_with fail
  refine (HB.out _).mono ?_
  rintro e w4 ⟨rfl, f4⟩
  have HD4 := Lib.hid (HD3.out.fr f4)
  have d1 := HC.out w4 HD4.out.frm 1 _ rfl
  clear f4 d2
  go_wp2_with fail
  refine (HA.out _).mono ?_
  rintro e w5 ⟨rfl, f5⟩
  have HD5 := Lib.hid (HD4.out.fr f5)
  have b1 : w5.cell? ⟨w1.heap.size, 1, none⟩ = some (.int .u8 0) := HD5.out.box.at 1 rfl
  have g1 := HD5.out.box.free 1
  have z5 := HD5.out.box.lt
  have d2 := HC.out w5 HD5.out.frm 2 _ rfl
  have HD5s : Hid (DSt w1 { Ev.zero with client := na } nil0 nil0 (w5.setCell ⟨w1.heap.size, 1, none⟩ (.int .u8 na))) := Lib.hid (HD5.out.set 1 _ rfl)
  clear f5 d1
  go_wp2_with fail
  refine (HB.out _).mono ?_
  rintro e w6 ⟨rfl, f6⟩
  have HD6 := Lib.hid (HD5s.out.fr f6)
  have b2 : w6.cell? ⟨w1.heap.size, 2, none⟩ = some (.int .u16 0) := HD6.out.box.at 2 rfl
  have b0 : w6.cell? ⟨w1.heap.size, 0, none⟩ = some (.int .u8 0) := HD6.out.box.at 0 rfl
  have g2 := HD6.out.box.free 2
  have g0 := HD6.out.box.free 0
  have z6 := HD6.out.box.lt
  have d0 := HC.out w6 HD6.out.frm 0 _ rfl
  rw [Nat.add_zero] at d0
  have HD6s : Hid (DSt w1 { Ev.zero with client := na, id := nb } nil0 nil0 (w6.setCell ⟨w1.heap.size, 2, none⟩ (.int .u16 nb))) := Lib.hid (HD6.out.set 2 _ rfl)
  clear f6 d2 b1 g1 z5 HD1 HD2 HD3 HD4 HD5 HD5s HD6 HA HB
  have HD7 : Hid (DSt w1 { Ev.zero with kind := 5, client := na, id := nb } nil0 nil0 ((w6.setCell ⟨w1.heap.size, 2, none⟩ (.int .u16 nb)).setCell ⟨w1.heap.size, 0, none⟩ (.int .u8 5))) := Lib.hid (HD6s.out.set 0 _ rfl)
  have hcc : cap = 3 ∨ 3 < cap := by omega
  rcases hcc with rfl | hcc
  all_goals
    go_wp2_with fail
    refine (HMI.out _ _ (by first | exact (HSUB.out 3 _ _ (by simp) (by omega)).keep HD7.out.frm | exact RdS.none (by omega) (by omega) (by unfold maxLen; omega))).mono ?_
    rintro e w8 ⟨u8, rfl, hm8, f8⟩
    have HD8 := Lib.hid (HD7.out.fr f8)
    have hz7 := HD7.out.box.lt
    have HV8 := Lib.hid (hm8.mono fun b (hz : _ ≤ b) => (show w1.heap.size < b from Nat.lt_of_lt_of_le hz7 hz))
    obtain ⟨va, vn, vc, rfl⟩ := hm8.rd.slice
    clear f8 d0 b0 g0 b2 g2 hm8 hz7
    have q10 : w8.cell? ⟨w1.heap.size, 10, none⟩ = some (nil0) := HD8.out.box.at 10 rfl
    have gg10 := HD8.out.box.free 10
    have z8 := HD8.out.box.lt
    unfold nil0 at q10
    have HD9a : Hid (DSt w1 x (.slice va vn vc) nil0 (w8.setCell ⟨w1.heap.size, 10, none⟩ (.slice va vn vc))) := Lib.hid (by
      rw [HX.out]
      exact HD8.out.set 10 _ rfl)
    have HVB := Lib.hid (RdMZ.setBox HV8.out 10 (.slice va vn vc))
    cases bo
    · have HYN : Hid (∀ _ : True, Y = (Ev.zero, 4)) := Lib.hid (fun _ => by first | exact HYN.out (.inl rfl) | exact HYN.out trivial | exact HYN.out (by simp))
      go_upto_region 31 with (fail)
      refine wp_genT fun W9 hW9 => ?_
      have HD9 : Hid (DSt w1 (x) (.slice va vn vc) nil0 W9) := Lib.hid (by rw [hW9]; exact HD9a.out)
      have HT9 : Hid (RdMZ (w1.heap.size < ·) W9 (.slice va vn vc) (x).txn) := Lib.hid (by rw [hW9]; exact (by rw [HX.out]; exact HVB.out))
      have HR9 : Hid (RdRZ (w1.heap.size < ·) W9 nil0 (x).reads) := Lib.hid (by rw [hW9]; exact (by rw [HX.out]; exact RdRZ.nil _ _))
      clear hW9
      obtain ⟨ax, nx, HSX⟩ : ∃ a, ∃ n : Int, Hid ((x).said.1 = a ∧ ((x).said.2 : Int) = n) := ⟨_, _, Lib.hid ⟨rfl, rfl⟩⟩
      have HLX : Hid (Calls Tryz.prog 12 #[(x).val (.slice va vn vc) nil0] W9 fun e w' => e = .returned (.tuple #[.string ⟨ax.toArray⟩, .int .i64 nx]) ∧ Fr W9 w') := Lib.hid (by
        have := rLine_c (x) ((x).val (.slice va vn vc) nil0) W9 ⟨(.slice va vn vc), nil0, rfl, HT9.out.rd, HR9.out.rd⟩ OKX.out
        unfold StrRet at this
        rw [HSX.out.1, HSX.out.2] at this
        exact this)
      have hBX := HD9.out.box
      have HY0 : Y = (Ev.zero, 4) := by first | exact HYN.out trivial | exact HYN.out trivial | exact HYN.out (by simp)
      subst HY0
      go_wp2_with ((with_reducible refine wpList_here (.load 32 (.tmp 5)) rfl ?_); refine wpList_load_box 32 (.tmp 5) rfl _ rfl _ hBX _ Tryz.underlying32 rfl Tryz.infoEv rfl ?_)
      refine HLX.out.mono ?_
      rintro e w9 ⟨rfl, f9⟩
      have F9 := Lib.hid (FP.out.trans (HD9.out.frm.trans f9))
      have hP9 := HP1.out.fr (HD9.out.frm.trans f9)
      clear f9 hBX
      go_wp2_with ((with_reducible refine wpList_here (.store 32 (.tmp 2) (.tmp 131)) rfl ?_); refine wpList_store_old 32 (.tmp 2) (.tmp 131) rfl w.heap.size _ (Ev.zero.cells nil0 nil0) rfl rfl hP9 Tryz.infoEv rfl (Ev.oneCell Ev.zero none none 0 0 0 0) rfl rfl ?_; intro wA hrl)
      exact bodyPost_ret (v := .tuple #[.agg (Ev.zero.cells nil0 nil0), .int .i64 4]) (results_ev2T rfl _ _ w.heap.size _ _ rfl rfl hrl.box rfl) rfl ⟨nil0, nil0, rfl, RdMZ.nil _ _, RdRZ.nil _ _, hrl.fr F9.out (Nat.le_refl _)⟩
    · go_upto_region 31 with (fail)
      refine wp_genT fun W9 hW9 => ?_
      have HD9 : Hid (DSt w1 (x) (.slice va vn vc) nil0 W9) := Lib.hid (by rw [hW9]; exact HD9a.out)
      have HT9 : Hid (RdMZ (w1.heap.size < ·) W9 (.slice va vn vc) (x).txn) := Lib.hid (by rw [hW9]; exact (by rw [HX.out]; exact HVB.out))
      have HR9 : Hid (RdRZ (w1.heap.size < ·) W9 nil0 (x).reads) := Lib.hid (by rw [hW9]; exact (by rw [HX.out]; exact RdRZ.nil _ _))
      clear hW9
      obtain ⟨ax, nx, HSX⟩ : ∃ a, ∃ n : Int, Hid ((x).said.1 = a ∧ ((x).said.2 : Int) = n) := ⟨_, _, Lib.hid ⟨rfl, rfl⟩⟩
      have HLX : Hid (Calls Tryz.prog 12 #[(x).val (.slice va vn vc) nil0] W9 fun e w' => e = .returned (.tuple #[.string ⟨ax.toArray⟩, .int .i64 nx]) ∧ Fr W9 w') := Lib.hid (by
        have := rLine_c (x) ((x).val (.slice va vn vc) nil0) W9 ⟨(.slice va vn vc), nil0, rfl, HT9.out.rd, HR9.out.rd⟩ OKX.out
        unfold StrRet at this
        rw [HSX.out.1, HSX.out.2] at this
        exact this)
      have hBX := HD9.out.box
      go_wp2_with ((with_reducible refine wpList_here (.load 32 (.tmp 5)) rfl ?_); refine wpList_load_box 32 (.tmp 5) rfl _ rfl _ hBX _ Tryz.underlying32 rfl Tryz.infoEv rfl ?_)
      refine HLX.out.mono ?_
      rintro e w10 ⟨rfl, f10⟩
      have HD10 := Lib.hid (HD9.out.fr f10)
      have HT10 := Lib.hid (HT9.out.fr f10)
      have HR10 := Lib.hid (HR9.out.fr f10)
      have F10 := Lib.hid (FP.out.trans HD10.out.frm)
      have hP10 := HP1.out.fr HD10.out.frm
      have hB10 := HD10.out.box
      clear f10 hBX HLX
      by_cases hsd : (x).said = (s, 0)
      · have hY : Y = ((x), 0) := by first | exact HYY.out hsd | exact HYY.out trivial hsd | exact HYY.out rfl hsd
        subst hY
        have hsx := HSX.out
        rw [hsd] at hsx
        obtain ⟨h1, h2⟩ : s = ax ∧ (0 : Int) = nx := hsx
        subst h1 h2
        clear hsd HSX HYN HYY
        go_wp2_with (first | ((with_reducible refine wpList_here (.load 32 (.tmp 5)) rfl ?_); refine wpList_load_box 32 (.tmp 5) rfl _ rfl _ hB10 _ Tryz.underlying32 rfl Tryz.infoEv rfl ?_) | ((with_reducible refine wpList_here (.store 32 (.tmp 2) (.tmp 132)) rfl ?_); refine wpList_store_old 32 (.tmp 2) (.tmp 132) rfl w.heap.size _ _ rfl rfl hP10 Tryz.infoEv rfl (Ev.oneCell (x) _ _ _ _ _ _) rfl rfl ?_; intro wA hrl))
        have hK : ∀ b, w1.heap.size < b → b < w10.heap.size → wA.heap[b]? = w10.heap[b]? := fun b hz _ => hrl.other b (by omega)
        exact bodyPost_ret (v := .tuple #[.agg ((x).cells (.slice va vn vc) nil0), .int .i64 0]) (results_ev2T rfl _ _ w.heap.size _ _ rfl rfl hrl.box rfl) rfl ⟨_, _, rfl, (HT10.out.keep (Nat.le_of_eq hrl.size.symm) hK).mono fun b (hz : w1.heap.size < b) => (by have := FP.out.size; show w.heap.size ≤ b; omega), (HR10.out.keep (Nat.le_of_eq hrl.size.symm) hK).mono fun b (hz : w1.heap.size < b) => (by have := FP.out.size; show w.heap.size ≤ b; omega), hrl.fr F10.out (Nat.le_refl _)⟩
      · have hY : Y = (Ev.zero, 4) := by first | exact HYN.out hsd | exact HYN.out (.inr hsd) | exact HYN.out (by simp [hsd])
        subst hY
        have hsx := HSX.out
        clear HYN HYY hB10
        unfold Ev.said at hsd hsx
        cases hmy : (x).may
        · rw [hmy] at hsx
          obtain ⟨h1, h2⟩ : [] = ax ∧ (4 : Int) = nx := hsx
          subst h1 h2
          clear hsd hmy HSX
          go_wp2_with ((with_reducible refine wpList_here (.store 32 (.tmp 2) (.tmp 131)) rfl ?_); refine wpList_store_old 32 (.tmp 2) (.tmp 131) rfl w.heap.size _ (Ev.zero.cells nil0 nil0) rfl rfl hP10 Tryz.infoEv rfl (Ev.oneCell Ev.zero none none 0 0 0 0) rfl rfl ?_; intro wA hrl)
          exact bodyPost_ret (v := .tuple #[.agg (Ev.zero.cells nil0 nil0), .int .i64 4]) (results_ev2T rfl _ _ w.heap.size _ _ rfl rfl hrl.box rfl) rfl ⟨nil0, nil0, rfl, RdMZ.nil _ _, RdRZ.nil _ _, hrl.fr F10.out (Nat.le_refl _)⟩
        · rw [hmy] at hsx hsd
          obtain ⟨h1, h2⟩ : (x).line = ax ∧ (0 : Int) = nx := hsx
          subst h1 h2
          have hne : ¬ (x).line = s := fun e => hsd (by rw [e]; rfl)
          clear hsd hmy HSX
          generalize (x).line = q at hne ⊢
          have n1 : (q == s) = false := by simpa using hne
          have n2 : (q != s) = true := by simpa using hne
          clear hne
          go_wp2_with ((with_reducible refine wpList_here (.store 32 (.tmp 2) (.tmp 131)) rfl ?_); refine wpList_store_old 32 (.tmp 2) (.tmp 131) rfl w.heap.size _ (Ev.zero.cells nil0 nil0) rfl rfl hP10 Tryz.infoEv rfl (Ev.oneCell Ev.zero none none 0 0 0 0) rfl rfl ?_; intro wA hrl)
          exact bodyPost_ret (v := .tuple #[.agg (Ev.zero.cells nil0 nil0), .int .i64 4]) (results_ev2T rfl _ _ w.heap.size _ _ rfl rfl hrl.box rfl) rfl ⟨nil0, nil0, rfl, RdMZ.nil _ _, RdRZ.nil _ _, hrl.fr F10.out (Nat.le_refl _)⟩
set_option maxRecDepth 100000 in
set_option maxHeartbeats 8000000 in
theorem rp_6 (s : W8) (w : World) (hs : s.length ≤ 20000) {a b : W8} {r : List W8} (hal : splitS 32 s = [99, 111, 109, 109, 105, 116] :: a :: b :: r) (h : (0 ≤ smallD a ∧ smallD a < 16) ∧ 0 ≤ smallD b) :
    Calls Tryz.prog 14 #[.string ⟨s.toArray⟩] w (ParseRet w (parseD s)) := by
  obtain ⟨na, hna⟩ := Int.eq_ofNat_of_zero_le h.1.1
  obtain ⟨nb, hnb⟩ := Int.eq_ofNat_of_zero_le h.2
  have hnb2 := smallD_ge b
  have hrl : r.length ≤ 100000 := by
    have h1 := splitS_len 32 s
    have h2 : s.count 32 ≤ s.length := List.count_le_length
    rw [hal] at h1
    simp only [List.length_cons] at h1
    omega
  obtain ⟨mo, hmo⟩ : ∃ o, listsD r = o := ⟨_, rfl⟩
  obtain ⟨bo, hbo⟩ : ∃ b, mo.isSome = b := ⟨_, rfl⟩
  have HMI : Hid (∀ W v, RdS W v r → Calls Tryz.prog 53 #[v] W fun e w' => ∃ u, e = .returned (.tuple #[u, .bool bo]) ∧ RdRZ (W.heap.size ≤ ·) w' u (mo.getD []) ∧ Fr W w') := Lib.hid (fun W v hv => by
    have := lists06_c v r W hv (by omega) (fun q hq => by have := splitS_short (c := 32) (s := s) (w := q) (by rw [hal]; simp [hq]); omega)
    rw [hmo] at this
    unfold ListsRet at this
    rw [hbo] at this
    exact this)
  clear hrl
  have hcd : candD (splitS 32 s) = ({ ({ Ev.zero with client := na, id := nb } : Ev) with kind := 6, reads := mo.getD [] }, bo) := by
    rw [hal, candD_cons, if_neg (by decide)]
    simp only
    rw [if_pos h]
    unfold bodyD
    rw [if_neg (by decide), if_neg (by decide), if_neg (by decide), if_neg (by decide), if_pos (show ([99, 111, 109, 109, 105, 116] : W8) = kindW 6 from rfl), hna, hnb, hmo, hbo]
    first | done | rfl
  have ok : (candD (splitS 32 s)).1.Ok := candD_ok _
  rw [hcd] at ok
  simp only at ok
  obtain ⟨x, hx⟩ : ∃ x : Ev, x = { ({ Ev.zero with client := na, id := nb } : Ev) with kind := 6, reads := mo.getD [] } := ⟨_, rfl⟩
  rw [← hx] at hcd ok
  have OKX := Lib.hid ok
  have HX := Lib.hid hx
  have HYY := Lib.hid (fun (hb : (bo) = true) (h : x.said = (s, 0)) => parseD_yes (by rw [← hb]; exact hcd) h)
  have HYN := Lib.hid (fun h => parseD_no hcd h)
  have h16 : na < 16 := by omega
  have h65 : nb ≤ 65535 := by omega
  have hwA : IntKind.u8.wrap (na : Int) = na := by simp [IntKind.wrap, IntKind.bits, IntKind.signed]; omega
  have hwB : IntKind.u16.wrap (nb : Int) = nb := by simp [IntKind.wrap, IntKind.bits, IntKind.signed]; omega
  have HA := Lib.hid (fun W => small06_c a W)
  have HB := Lib.hid (fun W => small06_c b W)
  rw [hna] at HA
  rw [hnb] at HB
  generalize parseD s = Y at HYY HYN ⊢
  clear hcd ok hx hna hnb h hnb2
  have hwn := splitS_len 32 s
  have hwc : s.count 32 ≤ s.length := List.count_le_length
  have hWS : ∀ v ∈ splitS 32 s, v.length < 1000000 := fun v hv => by have := splitS_short hv; omega
  have HCUT : Hid (∀ W, Calls Tryz.prog 46 #[.string ⟨s.toArray⟩, .int .u8 32] W fun e w' => ∃ v, e = .returned v ∧ RowS W w' v (splitS 32 s)) := Lib.hid (fun W => cut06_c s 32 W (by omega))
  rw [hal] at hwn hWS HCUT
  have HWS := Lib.hid hWS
  have hwb : ([99, 111, 109, 109, 105, 116] :: (a :: b :: r)).length ≤ 100000 := by omega
  clear hwn hwc hWS hal hs
  go_enter Tryz.func14, Tryz.ntmps14
  go_wp2_with fail
  refine (HCUT.out _).mono ?_
  rintro e w1 ⟨v1, rfl, hrow⟩
  have FP := Lib.hid (((Fr.refl w).alloc (.cells (Ev.zero.cells nil0 nil0) 32)).trans hrow.frm)
  have HP1 : Hid (BoxAt w1 w.heap.size (Ev.zero.cells nil0 nil0) 32) := Lib.hid ((BoxAt.new w (Ev.zero.cells nil0 nil0) 32).fr hrow.frm)
  have hzp := HP1.out.lt
  have hrd := hrow.rd
  obtain ⟨bb, off, cap, rfl, hcap, hmax, hb, hc⟩ := hrd.at (k := 0) (by simp)
  have HSUB := Lib.hid (fun m n c h1 h2 => RdS.sub (w := w1) m hcap hmax hb hc n c h1 h2)
  have HC := Lib.hid (fun W (f : Fr w1 W) j u (h : ([99, 111, 109, 109, 105, 116] :: (a :: b :: r))[j]? = some u) => f.keep (hc j u h))
  simp only [List.length_cons] at hcap hwb
  unfold maxLen at hmax
  have HD1 := Lib.hid (DSt.new w1)
  have c0 : (w1.alloc (.cells (Ev.zero.cells nil0 nil0) 32)).cell? ⟨bb, off + 0, none⟩ = some (.string ⟨([99, 111, 109, 109, 105, 116] : W8).toArray⟩) := HC.out _ HD1.out.frm 0 _ rfl
  have c1 : (w1.alloc (.cells (Ev.zero.cells nil0 nil0) 32)).cell? ⟨bb, off + 1, none⟩ = some (.string ⟨(a : W8).toArray⟩) := HC.out _ HD1.out.frm 1 _ rfl
  have c2 : (w1.alloc (.cells (Ev.zero.cells nil0 nil0) 32)).cell? ⟨bb, off + 2, none⟩ = some (.string ⟨(b : W8).toArray⟩) := HC.out _ HD1.out.frm 2 _ rfl
  rw [Nat.add_zero] at c0
  have q0 : (w1.alloc (.cells (Ev.zero.cells nil0 nil0) 32)).cell? ⟨w1.heap.size, 0, none⟩ = some (.int .u8 0) := HD1.out.box.at 0 rfl
  have g0 := HD1.out.box.free 0
  clear hrow hrd hc HCUT
  have hbq : bb ≠ w1.heap.size := by omega
  clear g0 q0
  go_wp2_with (first | ((with_reducible refine wpList_here (.store 32 (.tmp 5) (.tmp 12)) rfl ?_); refine wpList_store_new 32 (.tmp 5) (.tmp 12) rfl _ (Ev.zero.cells nil0 nil0) _ rfl rfl rfl Tryz.infoEv rfl (Ev.oneCell Ev.zero none none 0 0 0 0) rfl rfl ?_))
  refine (HA.out _).mono ?_
  rintro e w2 ⟨rfl, f2⟩
  have HD2 := Lib.hid (HD1.out.fr f2)
  have d1 := HC.out w2 HD2.out.frm 1 _ rfl
  have d2 := HC.out w2 HD2.out.frm 2 _ rfl
  clear f2 c0 c1 c2
  go_wp2_with fail
  refine (HA.out _).mono ?_
  rintro e w3 ⟨rfl, f3⟩
  have HD3 := Lib.hid (HD2.out.fr f3)
  have d2 := HC.out w3 HD3.out.frm 2 _ rfl
  clear f3 d1
  go_wp2_with fail
  refine (HB.out _).mono ?_
  rintro e w4 ⟨rfl, f4⟩
  have HD4 := Lib.hid (HD3.out.fr f4)
  have d1 := HC.out w4 HD4.out.frm 1 _ rfl
  clear f4 d2
  go_wp2_with fail
  refine (HA.out _).mono ?_
  rintro e w5 ⟨rfl, f5⟩
  have HD5 := Lib.hid (HD4.out.fr f5)
  have b1 : w5.cell? ⟨w1.heap.size, 1, none⟩ = some (.int .u8 0) := HD5.out.box.at 1 rfl
  have g1 := HD5.out.box.free 1
  have z5 := HD5.out.box.lt
  have d2 := HC.out w5 HD5.out.frm 2 _ rfl
  have HD5s : Hid (DSt w1 { Ev.zero with client := na } nil0 nil0 (w5.setCell ⟨w1.heap.size, 1, none⟩ (.int .u8 na))) := Lib.hid (HD5.out.set 1 _ rfl)
  clear f5 d1
  go_wp2_with fail
  refine (HB.out _).mono ?_
  rintro e w6 ⟨rfl, f6⟩
  have HD6 := Lib.hid (HD5s.out.fr f6)
  have b2 : w6.cell? ⟨w1.heap.size, 2, none⟩ = some (.int .u16 0) := HD6.out.box.at 2 rfl
  have b0 : w6.cell? ⟨w1.heap.size, 0, none⟩ = some (.int .u8 0) := HD6.out.box.at 0 rfl
  have g2 := HD6.out.box.free 2
  have g0 := HD6.out.box.free 0
  have z6 := HD6.out.box.lt
  have d0 := HC.out w6 HD6.out.frm 0 _ rfl
  rw [Nat.add_zero] at d0
  have HD6s : Hid (DSt w1 { Ev.zero with client := na, id := nb } nil0 nil0 (w6.setCell ⟨w1.heap.size, 2, none⟩ (.int .u16 nb))) := Lib.hid (HD6.out.set 2 _ rfl)
  clear f6 d2 b1 g1 z5 HD1 HD2 HD3 HD4 HD5 HD5s HD6 HA HB
  have HD7 : Hid (DSt w1 { Ev.zero with kind := 6, client := na, id := nb } nil0 nil0 ((w6.setCell ⟨w1.heap.size, 2, none⟩ (.int .u16 nb)).setCell ⟨w1.heap.size, 0, none⟩ (.int .u8 6))) := Lib.hid (HD6s.out.set 0 _ rfl)
  have hcc : cap = 3 ∨ 3 < cap := by omega
  rcases hcc with rfl | hcc
  all_goals
    go_wp2_with fail
    refine (HMI.out _ _ (by first | exact (HSUB.out 3 _ _ (by simp) (by omega)).keep HD7.out.frm | exact RdS.none (by omega) (by omega) (by unfold maxLen; omega))).mono ?_
    rintro e w8 ⟨u8, rfl, hm8, f8⟩
    have HD8 := Lib.hid (HD7.out.fr f8)
    have hz7 := HD7.out.box.lt
    have HV8 := Lib.hid (hm8.mono fun b (hz : _ ≤ b) => (show w1.heap.size < b from Nat.lt_of_lt_of_le hz7 hz))
    obtain ⟨va, vn, vc, rfl⟩ := hm8.rd.slice
    clear f8 d0 b0 g0 b2 g2 hm8 hz7
    have q11 : w8.cell? ⟨w1.heap.size, 11, none⟩ = some (nil0) := HD8.out.box.at 11 rfl
    have gg11 := HD8.out.box.free 11
    have z8 := HD8.out.box.lt
    unfold nil0 at q11
    have HD9a : Hid (DSt w1 x nil0 (.slice va vn vc) (w8.setCell ⟨w1.heap.size, 11, none⟩ (.slice va vn vc))) := Lib.hid (by
      rw [HX.out]
      exact HD8.out.set 11 _ rfl)
    have HVB := Lib.hid (RdRZ.setBox HV8.out 11 (.slice va vn vc))
    cases bo
    · have HYN : Hid (∀ _ : True, Y = (Ev.zero, 4)) := Lib.hid (fun _ => by first | exact HYN.out (.inl rfl) | exact HYN.out trivial | exact HYN.out (by simp))
      go_upto_region 31 with (fail)
      refine wp_genT fun W9 hW9 => ?_
      have HD9 : Hid (DSt w1 (x) nil0 (.slice va vn vc) W9) := Lib.hid (by rw [hW9]; exact HD9a.out)
      have HT9 : Hid (RdMZ (w1.heap.size < ·) W9 nil0 (x).txn) := Lib.hid (by rw [hW9]; exact (by rw [HX.out]; exact RdMZ.nil _ _))
      have HR9 : Hid (RdRZ (w1.heap.size < ·) W9 (.slice va vn vc) (x).reads) := Lib.hid (by rw [hW9]; exact (by rw [HX.out]; exact HVB.out))
      clear hW9
      obtain ⟨ax, nx, HSX⟩ : ∃ a, ∃ n : Int, Hid ((x).said.1 = a ∧ ((x).said.2 : Int) = n) := ⟨_, _, Lib.hid ⟨rfl, rfl⟩⟩
      have HLX : Hid (Calls Tryz.prog 12 #[(x).val nil0 (.slice va vn vc)] W9 fun e w' => e = .returned (.tuple #[.string ⟨ax.toArray⟩, .int .i64 nx]) ∧ Fr W9 w') := Lib.hid (by
        have := rLine_c (x) ((x).val nil0 (.slice va vn vc)) W9 ⟨nil0, (.slice va vn vc), rfl, HT9.out.rd, HR9.out.rd⟩ OKX.out
        unfold StrRet at this
        rw [HSX.out.1, HSX.out.2] at this
        exact this)
      have hBX := HD9.out.box
      have HY0 : Y = (Ev.zero, 4) := by first | exact HYN.out trivial | exact HYN.out trivial | exact HYN.out (by simp)
      subst HY0
      go_wp2_with ((with_reducible refine wpList_here (.load 32 (.tmp 5)) rfl ?_); refine wpList_load_box 32 (.tmp 5) rfl _ rfl _ hBX _ Tryz.underlying32 rfl Tryz.infoEv rfl ?_)
      refine HLX.out.mono ?_
      rintro e w9 ⟨rfl, f9⟩
      have F9 := Lib.hid (FP.out.trans (HD9.out.frm.trans f9))
      have hP9 := HP1.out.fr (HD9.out.frm.trans f9)
      clear f9 hBX
      go_wp2_with ((with_reducible refine wpList_here (.store 32 (.tmp 2) (.tmp 131)) rfl ?_); refine wpList_store_old 32 (.tmp 2) (.tmp 131) rfl w.heap.size _ (Ev.zero.cells nil0 nil0) rfl rfl hP9 Tryz.infoEv rfl (Ev.oneCell Ev.zero none none 0 0 0 0) rfl rfl ?_; intro wA hrl)
      exact bodyPost_ret (v := .tuple #[.agg (Ev.zero.cells nil0 nil0), .int .i64 4]) (results_ev2T rfl _ _ w.heap.size _ _ rfl rfl hrl.box rfl) rfl ⟨nil0, nil0, rfl, RdMZ.nil _ _, RdRZ.nil _ _, hrl.fr F9.out (Nat.le_refl _)⟩
    · go_upto_region 31 with (fail)
      refine wp_genT fun W9 hW9 => ?_
      have HD9 : Hid (DSt w1 (x) nil0 (.slice va vn vc) W9) := Lib.hid (by rw [hW9]; exact HD9a.out)
      have HT9 : Hid (RdMZ (w1.heap.size < ·) W9 nil0 (x).txn) := Lib.hid (by rw [hW9]; exact (by rw [HX.out]; exact RdMZ.nil _ _))
      have HR9 : Hid (RdRZ (w1.heap.size < ·) W9 (.slice va vn vc) (x).reads) := Lib.hid (by rw [hW9]; exact (by rw [HX.out]; exact HVB.out))
      clear hW9
      obtain ⟨ax, nx, HSX⟩ : ∃ a, ∃ n : Int, Hid ((x).said.1 = a ∧ ((x).said.2 : Int) = n) := ⟨_, _, Lib.hid ⟨rfl, rfl⟩⟩
      have HLX : Hid (Calls Tryz.prog 12 #[(x).val nil0 (.slice va vn vc)] W9 fun e w' => e = .returned (.tuple #[.string ⟨ax.toArray⟩, .int .i64 nx]) ∧ Fr W9 w') := Lib.hid (by
        have := rLine_c (x) ((x).val nil0 (.slice va vn vc)) W9 ⟨nil0, (.slice va vn vc), rfl, HT9.out.rd, HR9.out.rd⟩ OKX.out
        unfold StrRet at this
        rw [HSX.out.1, HSX.out.2] at this
        exact this)
      have hBX := HD9.out.box
      go_wp2_with ((with_reducible refine wpList_here (.load 32 (.tmp 5)) rfl ?_); refine wpList_load_box 32 (.tmp 5) rfl _ rfl _ hBX _ Tryz.underlying32 rfl Tryz.infoEv rfl ?_)
      refine HLX.out.mono ?_
      rintro e w10 ⟨rfl, f10⟩
      have HD10 := Lib.hid (HD9.out.fr f10)
      have HT10 := Lib.hid (HT9.out.fr f10)
      have HR10 := Lib.hid (HR9.out.fr f10)
      have F10 := Lib.hid (FP.out.trans HD10.out.frm)
      have hP10 := HP1.out.fr HD10.out.frm
      have hB10 := HD10.out.box
      clear f10 hBX HLX
      by_cases hsd : (x).said = (s, 0)
      · have hY : Y = ((x), 0) := by first | exact HYY.out hsd | exact HYY.out trivial hsd | exact HYY.out rfl hsd
        subst hY
        have hsx := HSX.out
        rw [hsd] at hsx
        obtain ⟨h1, h2⟩ : s = ax ∧ (0 : Int) = nx := hsx
        subst h1 h2
        clear hsd HSX HYN HYY
        go_wp2_with (first | ((with_reducible refine wpList_here (.load 32 (.tmp 5)) rfl ?_); refine wpList_load_box 32 (.tmp 5) rfl _ rfl _ hB10 _ Tryz.underlying32 rfl Tryz.infoEv rfl ?_) | ((with_reducible refine wpList_here (.store 32 (.tmp 2) (.tmp 132)) rfl ?_); refine wpList_store_old 32 (.tmp 2) (.tmp 132) rfl w.heap.size _ _ rfl rfl hP10 Tryz.infoEv rfl (Ev.oneCell (x) _ _ _ _ _ _) rfl rfl ?_; intro wA hrl))
        have hK : ∀ b, w1.heap.size < b → b < w10.heap.size → wA.heap[b]? = w10.heap[b]? := fun b hz _ => hrl.other b (by omega)
        exact bodyPost_ret (v := .tuple #[.agg ((x).cells nil0 (.slice va vn vc)), .int .i64 0]) (results_ev2T rfl _ _ w.heap.size _ _ rfl rfl hrl.box rfl) rfl ⟨_, _, rfl, (HT10.out.keep (Nat.le_of_eq hrl.size.symm) hK).mono fun b (hz : w1.heap.size < b) => (by have := FP.out.size; show w.heap.size ≤ b; omega), (HR10.out.keep (Nat.le_of_eq hrl.size.symm) hK).mono fun b (hz : w1.heap.size < b) => (by have := FP.out.size; show w.heap.size ≤ b; omega), hrl.fr F10.out (Nat.le_refl _)⟩
      · have hY : Y = (Ev.zero, 4) := by first | exact HYN.out hsd | exact HYN.out (.inr hsd) | exact HYN.out (by simp [hsd])
        subst hY
        have hsx := HSX.out
        clear HYN HYY hB10
        unfold Ev.said at hsd hsx
        cases hmy : (x).may
        · rw [hmy] at hsx
          obtain ⟨h1, h2⟩ : [] = ax ∧ (4 : Int) = nx := hsx
          subst h1 h2
          clear hsd hmy HSX
          go_wp2_with ((with_reducible refine wpList_here (.store 32 (.tmp 2) (.tmp 131)) rfl ?_); refine wpList_store_old 32 (.tmp 2) (.tmp 131) rfl w.heap.size _ (Ev.zero.cells nil0 nil0) rfl rfl hP10 Tryz.infoEv rfl (Ev.oneCell Ev.zero none none 0 0 0 0) rfl rfl ?_; intro wA hrl)
          exact bodyPost_ret (v := .tuple #[.agg (Ev.zero.cells nil0 nil0), .int .i64 4]) (results_ev2T rfl _ _ w.heap.size _ _ rfl rfl hrl.box rfl) rfl ⟨nil0, nil0, rfl, RdMZ.nil _ _, RdRZ.nil _ _, hrl.fr F10.out (Nat.le_refl _)⟩
        · rw [hmy] at hsx hsd
          obtain ⟨h1, h2⟩ : (x).line = ax ∧ (0 : Int) = nx := hsx
          subst h1 h2
          have hne : ¬ (x).line = s := fun e => hsd (by rw [e]; rfl)
          clear hsd hmy HSX
          generalize (x).line = q at hne ⊢
          have n1 : (q == s) = false := by simpa using hne
          have n2 : (q != s) = true := by simpa using hne
          clear hne
          go_wp2_with ((with_reducible refine wpList_here (.store 32 (.tmp 2) (.tmp 131)) rfl ?_); refine wpList_store_old 32 (.tmp 2) (.tmp 131) rfl w.heap.size _ (Ev.zero.cells nil0 nil0) rfl rfl hP10 Tryz.infoEv rfl (Ev.oneCell Ev.zero none none 0 0 0 0) rfl rfl ?_; intro wA hrl)
          exact bodyPost_ret (v := .tuple #[.agg (Ev.zero.cells nil0 nil0), .int .i64 4]) (results_ev2T rfl _ _ w.heap.size _ _ rfl rfl hrl.box rfl) rfl ⟨nil0, nil0, rfl, RdMZ.nil _ _, RdRZ.nil _ _, hrl.fr F10.out (Nat.le_refl _)⟩
end Go.Proofs.YtfklgaeejmeipaaGreatDoor

/- The document's Parse answers what parseD says. Of any text of at most 20000 bytes. Printed by gen_refparse6.py. -/
namespace Go.Proofs.YtfklgaeejmeipaaGreatDoor
open Go.RowKit
attribute [local go_sem] Oper.semAt_some

/-- The document's Parse answers what text.Parse does. -/
theorem rParse6_c (s : W8) (w : World) (hs : s.length ≤ 20000) : Calls Tryz.prog 14 #[.string ⟨s.toArray⟩] w (ParseRet w (parseLn s)) := by
  rw [← parseD_is]
  cases hal : splitS 32 s with
  | nil => exact absurd hal (splitS_ne 32 s)
  | cons w0 l =>
    by_cases h1 : w0 = kindW 1
    · subst h1
      exact rp_cfg s w hs hal
    · match l, hal with
      | [], hal => exact rp_few s w hs hal h1 (by simp)
      | [_], hal => exact rp_few s w hs hal h1 (by simp)
      | a :: b :: r, hal =>
        by_cases h : (0 ≤ smallD a ∧ smallD a < 16) ∧ 0 ≤ smallD b
        · by_cases h2 : w0 = kindW 2
          · subst h2; exact rp_2 s w hs hal h
          by_cases h3 : w0 = kindW 3
          · subst h3; exact rp_3 s w hs hal h
          by_cases h4 : w0 = kindW 4
          · subst h4; exact rp_4 s w hs hal h
          by_cases h5 : w0 = kindW 5
          · subst h5; exact rp_5 s w hs hal h
          by_cases h6 : w0 = kindW 6
          · subst h6; exact rp_6 s w hs hal h
          by_cases h7 : w0 = kindW 7
          · subst h7; exact rp_7 s w hs hal h
          refine rp_0 s w hs hal h fun j hj1 hj7 => ?_
          rcases (show j = 1 ∨ j = 2 ∨ j = 3 ∨ j = 4 ∨ j = 5 ∨ j = 6 ∨ j = 7 by omega) with rfl | rfl | rfl | rfl | rfl | rfl | rfl <;> assumption
        · exact rp_bad s w hs hal h1 h
end Go.Proofs.YtfklgaeejmeipaaGreatDoor

/- umpirelaw06.TextLines: the law holds. No condition but the tables' content. -/
namespace Go.Proofs.YtfklgaeejmeipaaGreatDoor
open Go.RowKit
attribute [local go_sem] Oper.semAt_some

set_option maxRecDepth 100000 in
set_option maxHeartbeats 8000000 in
theorem lines06_law (x : Ev) (s : W8) (w : World) (u : Value) (hE : EnvT w) (hx : EvAt w u x) (ok : x.Ok) :
    Calls Tryz.prog 3 #[u, .string ⟨s.toArray⟩] w fun e w' => e = .returned (.bool true) ∧ Fr w w' := by
  obtain ⟨⟨t, r, rfl, ht, hr⟩⟩ := hx
  have hsz := size_mk s
  have HX : Hid (EvAt w (x.val t r) x) := Lib.hid ⟨t, r, rfl, ht, hr⟩
  have HFX := Lib.hid (fun W (f : Fr w W) => few06_c x t r W (ht.keep f) (hr.keep f))
  have HW := Lib.hid (fun W (f : Fr w W) => works06_c W (hE.keep f))
  obtain ⟨ax, nx, HSX⟩ : ∃ a, ∃ n : Int, Hid (x.said.1 = a ∧ (x.said.2 : Int) = n) := ⟨_, _, Lib.hid ⟨rfl, rfl⟩⟩
  have HLX : Hid (∀ W, Fr w W → Calls Tryz.prog 11 #[x.val t r] W fun e w' => e = .returned (.tuple #[.string ⟨ax.toArray⟩, .int .i64 nx]) ∧ Fr W w') := Lib.hid (fun W f => by
    have := Line_c x (x.val t r) W (hE.keep f) (HX.out.keep f) ok
    unfold StrRet at this
    rw [HSX.out.1, HSX.out.2] at this
    exact this)
  have HRX : Hid (∀ W, Fr w W → Calls Tryz.prog 12 #[x.val t r] W fun e w' => e = .returned (.tuple #[.string ⟨ax.toArray⟩, .int .i64 nx]) ∧ Fr W w') := Lib.hid (fun W f => by
    have := rLine_c x (x.val t r) W (HX.out.keep f) ok
    unfold StrRet at this
    rw [HSX.out.1, HSX.out.2] at this
    exact this)
  obtain ⟨y, n, HY⟩ : ∃ y n, Hid (parseLn s = (y, n)) := ⟨_, _, Lib.hid rfl⟩
  obtain ⟨ny, hny⟩ : ∃ m : Int, (n : Int) = m := ⟨_, rfl⟩
  have HP : Hid (s.length ≤ 20000 → ∀ W, Fr w W → Calls Tryz.prog 13 #[.string ⟨s.toArray⟩] W fun e w' => ∃ ta tn tc ra rn rc, e = .returned (.tuple #[y.val (.slice ta tn tc) (.slice ra rn rc), .int .i64 ny]) ∧ EvAt w' (y.val (.slice ta tn tc) (.slice ra rn rc)) y ∧ Fr W w') := Lib.hid (fun h W f => by
    have := Parse_txt s W (hE.keep f) h
    rw [HY.out] at this
    refine this.mono fun e w' k => ?_
    obtain ⟨ta, tn, tc, ra, rn, rc, he, h1, h2, h3⟩ := k.at
    exact ⟨ta, tn, tc, ra, rn, rc, by rw [he, ← hny], ⟨_, _, rfl, h1.rd, h2.rd⟩, h3⟩)
  have HQ : Hid (s.length ≤ 20000 → ∀ W, Calls Tryz.prog 14 #[.string ⟨s.toArray⟩] W fun e w' => ∃ ta tn tc ra rn rc, e = .returned (.tuple #[y.val (.slice ta tn tc) (.slice ra rn rc), .int .i64 ny]) ∧ EvAt w' (y.val (.slice ta tn tc) (.slice ra rn rc)) y ∧ Fr W w') := Lib.hid (fun h W => by
    have := rParse6_c s W h
    rw [HY.out] at this
    refine this.mono fun e w' k => ?_
    obtain ⟨ta, tn, tc, ra, rn, rc, he, h1, h2, h3⟩ := k.at
    exact ⟨ta, tn, tc, ra, rn, rc, by rw [he, ← hny], ⟨_, _, rfl, h1.rd, h2.rd⟩, h3⟩)
  have hB0 := BoxAt.new w (x.cells t r) 32
  have HB0 := Lib.hid hB0
  have F0 := Lib.hid ((Fr.refl w).alloc (.cells (x.cells t r) 32))
  clear hE ht hr ok hny HY
  unfold Ev.val at *
  go_enter Tryz.func3, Tryz.ntmps3
  go_wp2_with (((with_reducible refine wpList_here (.load 32 (.tmp 2)) rfl ?_); refine wpList_load_box 32 (.tmp 2) rfl _ rfl (x.cells t r) hB0 _ Tryz.underlying32 rfl Tryz.infoEv rfl ?_))
  refine (HFX.out _ F0.out).mono ?_
  rintro e w1 ⟨b, rfl, f1⟩
  have F1 := Lib.hid (F0.out.trans f1)
  have HB1 := Lib.hid (HB0.out.fr f1)
  clear f1 hB0 HFX
  cases b
  · go_wp2_with fail
    refine (HW.out _ F1.out).mono ?_
    rintro e w2 ⟨rfl, f2⟩
    have F2 := Lib.hid (F1.out.trans f2)
    clear f2
    go_wp2_with fail
    go_ret
    exact ⟨rfl, F2.out⟩
  by_cases h2000 : 2000 < s.length
  · have hi : (2000 : Int) < s.length := by omega
    go_wp2_with fail
    refine (HW.out _ F1.out).mono ?_
    rintro e w2 ⟨rfl, f2⟩
    have F2 := Lib.hid (F1.out.trans f2)
    clear f2
    go_wp2_with fail
    go_ret
    exact ⟨rfl, F2.out⟩
  have hi : ¬ (2000 : Int) < s.length := by omega
  have HP := Lib.hid (HP.out (by omega))
  have HQ := Lib.hid (HQ.out (by omega))
  have hB1 := HB1.out
  go_wp2_with (((with_reducible refine wpList_here (.load 32 (.tmp 2)) rfl ?_); refine wpList_load_box 32 (.tmp 2) rfl _ rfl (x.cells t r) hB1 _ Tryz.underlying32 rfl Tryz.infoEv rfl ?_))
  refine (HLX.out _ F1.out).mono ?_
  rintro e w2 ⟨rfl, f2⟩
  have F2 := Lib.hid (F1.out.trans f2)
  have HB2 := Lib.hid (BoxAt.fr HB1.out f2)
  have hB2 := HB2.out
  clear f2 hB1 HB1 HLX
  go_wp2_with (((with_reducible refine wpList_here (.load 32 (.tmp 2)) rfl ?_); refine wpList_load_box 32 (.tmp 2) rfl _ rfl (x.cells t r) hB2 _ Tryz.underlying32 rfl Tryz.infoEv rfl ?_))
  refine (HRX.out _ F2.out).mono ?_
  rintro e w3 ⟨rfl, f3⟩
  have F3 := Lib.hid (F2.out.trans f3)
  clear f3 hB2 HB2 HRX
  go_wp2_with fail
  refine (HP.out _ F3.out).mono ?_
  rintro e w4 ⟨ta, tn, tc, ra, rn, rc, rfl, hy4, f4⟩
  have F4 := Lib.hid ((F3.out.trans f4).alloc (.cells (y.cells (.slice ta tn tc) (.slice ra rn rc)) 32))
  have HY4 := Lib.hid (EvAt.keep hy4 ((Fr.refl w4).alloc (.cells (y.cells (.slice ta tn tc) (.slice ra rn rc)) 32)))
  have HN4 := Lib.hid (BoxAt.new w4 (y.cells (.slice ta tn tc) (.slice ra rn rc)) 32)
  clear f4 hy4 HP
  go_wp2_with (((with_reducible refine wpList_here (.store 32 (.tmp 9) (.tmp 35)) rfl ?_); refine wpList_store_new 32 (.tmp 9) (.tmp 35) rfl _ (y.cells (.slice ta tn tc) (.slice ra rn rc)) _ rfl rfl rfl Tryz.infoEv rfl (Ev.oneCell y ta ra tn tc rn rc) rfl rfl ?_))
  refine (HQ.out _).mono ?_
  rintro e w5 ⟨ta', tn', tc', ra', rn', rc', rfl, hy5, f5⟩
  have F5 := Lib.hid ((F4.out.trans f5).alloc (.cells (y.cells (.slice ta' tn' tc') (.slice ra' rn' rc')) 32))
  have HY5 := Lib.hid (EvAt.keep hy5 ((Fr.refl w5).alloc (.cells (y.cells (.slice ta' tn' tc') (.slice ra' rn' rc')) 32)))
  have HY45 := Lib.hid (EvAt.keep HY4.out (f5.alloc (.cells (y.cells (.slice ta' tn' tc') (.slice ra' rn' rc')) 32)))
  have hN4 : BoxAt (w5.alloc (.cells (y.cells (.slice ta' tn' tc') (.slice ra' rn' rc')) 32)) w4.heap.size (y.cells (.slice ta tn tc) (.slice ra rn rc)) 32 := (BoxAt.fr HN4.out f5).alloc _
  have hN5 := BoxAt.new w5 (y.cells (.slice ta' tn' tc') (.slice ra' rn' rc')) 32
  have HSM := Lib.hid (refSame_c _ _ y y _ HY45.out HY5.out)
  rw [show decide (y = y) = true by simp] at HSM
  clear f5 hy5 HQ
  go_wp2_with (first | ((with_reducible refine wpList_here (.store 32 (.tmp 11) (.tmp 40)) rfl ?_); refine wpList_store_new 32 (.tmp 11) (.tmp 40) rfl _ (y.cells (.slice ta' tn' tc') (.slice ra' rn' rc')) _ rfl rfl rfl Tryz.infoEv rfl (Ev.oneCell y ta' ra' tn' tc' rn' rc') rfl rfl ?_) | ((with_reducible refine wpList_here (.load 32 (.tmp 9)) rfl ?_); refine wpList_load_box 32 (.tmp 9) rfl _ rfl (y.cells (.slice ta tn tc) (.slice ra rn rc)) hN4 _ Tryz.underlying32 rfl Tryz.infoEv rfl ?_) | ((with_reducible refine wpList_here (.load 32 (.tmp 11)) rfl ?_); refine wpList_load_box 32 (.tmp 11) rfl _ rfl (y.cells (.slice ta' tn' tc') (.slice ra' rn' rc')) hN5 _ Tryz.underlying32 rfl Tryz.infoEv rfl ?_))
  refine HSM.out.mono ?_
  rintro e w6 ⟨rfl, f6⟩
  have F6 := Lib.hid (F5.out.trans f6)
  clear f6 hN4 hN5 HSM
  go_wp2_with fail
  refine (HW.out _ F6.out).mono ?_
  rintro e w7 ⟨rfl, f7⟩
  have F7 := Lib.hid (F6.out.trans f7)
  clear f7
  go_wp2_with fail
  go_ret
  exact ⟨rfl, F7.out⟩
end Go.Proofs.YtfklgaeejmeipaaGreatDoor
