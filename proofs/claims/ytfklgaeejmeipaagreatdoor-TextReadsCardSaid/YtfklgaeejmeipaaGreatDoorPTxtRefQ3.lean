/- The document's Parse answers what parseD says. Of any text of at most 20000 bytes. Printed by gen_refparse6.py. -/
import Derived.Test.YtfklgaeejmeipaaGreatDoorPTxtRefQ
import Derived.Test.YtfklgaeejmeipaaGreatDoorPTxtRefL5
import Derived.Test.YtfklgaeejmeipaaGreatDoorPTxtPar
import Derived.Test.YtfklgaeejmeipaaGreatDoorPRefParse
import Derived.Test.YtfklgaeejmeipaaGreatDoorPResRefParse
set_option linter.all false
set_option linter.unusedVariables false
set_option linter.unusedSimpArgs false
set_option linter.unnecessarySimpa false
/- The document's Parse answers what parseD says. Of any text of at most 20000 bytes. Printed by gen_refparse6.py. -/
namespace Go.Proofs.YtfklgaeejmeipaaGreatDoor
open Go.RowKit
attribute [local go_sem] Oper.semAt_some

set_option maxRecDepth 100000 in
set_option maxHeartbeats 8000000 in
theorem rp_4 (s : W8) (w : World) (hs : s.length ≤ 20000) {a b : W8} {r : List W8} (hal : splitS 32 s = [105, 110, 102, 111] :: a :: b :: r) (h : (0 ≤ smallD a ∧ smallD a < 16) ∧ 0 ≤ smallD b) :
    Calls Tryz.prog 14 #[.string ⟨s.toArray⟩] w (ParseRet w (parseD s)) := by
  obtain ⟨na, hna⟩ := Int.eq_ofNat_of_zero_le h.1.1
  obtain ⟨nb, hnb⟩ := Int.eq_ofNat_of_zero_le h.2
  have hnb2 := smallD_ge b
  have hcd : candD (splitS 32 s) = ({ ({ Ev.zero with client := na, id := nb } : Ev) with kind := 4 }, true) := by
    rw [hal, candD_cons, if_neg (by decide)]
    simp only
    rw [if_pos h]
    unfold bodyD
    rw [if_neg (by decide), if_neg (by decide), if_pos (show ([105, 110, 102, 111] : W8) = kindW 4 from rfl), hna, hnb]
    first | done | rfl
  have ok : (candD (splitS 32 s)).1.Ok := candD_ok _
  rw [hcd] at ok
  simp only at ok
  obtain ⟨x, hx⟩ : ∃ x : Ev, x = { ({ Ev.zero with client := na, id := nb } : Ev) with kind := 4 } := ⟨_, rfl⟩
  rw [← hx] at hcd ok
  have OKX := Lib.hid ok
  have HX := Lib.hid hx
  have HYY := Lib.hid (fun (hb : (true) = true) (h : x.said = (s, 0)) => parseD_yes (by rw [← hb]; exact hcd) h)
  have HYN := Lib.hid (fun h => parseD_no hcd h)
  have h16 : na < 16 := by omega
  have h65 : nb ≤ 65535 := by omega
  have hwA : IntKind.u8.wrap (na : Int) = na := by simp [IntKind.wrap, IntKind.bits, IntKind.signed]; omega
  have hwB : IntKind.u16.wrap (nb : Int) = nb := by simp [IntKind.wrap, IntKind.bits, IntKind.signed]; omega
  have HA := Lib.hid (fun W => small06_c a W)
  have HB := Lib.hid (fun W => small06_c b W)
  rw [hna] at HA
  rw [hnb] at HB
  generalize parseD s = Y at HYY HYN ⊢
  clear hcd ok hx hna hnb h hnb2
  have hwn := splitS_len 32 s
  have hwc : s.count 32 ≤ s.length := List.count_le_length
  have hWS : ∀ v ∈ splitS 32 s, v.length < 1000000 := fun v hv => by have := splitS_short hv; omega
  have HCUT : Hid (∀ W, Calls Tryz.prog 46 #[.string ⟨s.toArray⟩, .int .u8 32] W fun e w' => ∃ v, e = .returned v ∧ RowS W w' v (splitS 32 s)) := Lib.hid (fun W => cut06_c s 32 W (by omega))
  rw [hal] at hwn hWS HCUT
  have HWS := Lib.hid hWS
  have hwb : ([105, 110, 102, 111] :: (a :: b :: r)).length ≤ 100000 := by omega
  clear hwn hwc hWS hal hs
  go_enter Tryz.func14, Tryz.ntmps14
  go_wp2_with fail
  refine (HCUT.out _).mono ?_
  rintro e w1 ⟨v1, rfl, hrow⟩
  have FP := Lib.hid (((Fr.refl w).alloc (.cells (Ev.zero.cells nil0 nil0) 32)).trans hrow.frm)
  have HP1 : Hid (BoxAt w1 w.heap.size (Ev.zero.cells nil0 nil0) 32) := Lib.hid ((BoxAt.new w (Ev.zero.cells nil0 nil0) 32).fr hrow.frm)
  have hzp := HP1.out.lt
  have hrd := hrow.rd
  obtain ⟨bb, off, cap, rfl, hcap, hmax, hb, hc⟩ := hrd.at (k := 0) (by simp)
  have HSUB := Lib.hid (fun m n c h1 h2 => RdS.sub (w := w1) m hcap hmax hb hc n c h1 h2)
  have HC := Lib.hid (fun W (f : Fr w1 W) j u (h : ([105, 110, 102, 111] :: (a :: b :: r))[j]? = some u) => f.keep (hc j u h))
  simp only [List.length_cons] at hcap hwb
  unfold maxLen at hmax
  have HD1 := Lib.hid (DSt.new w1)
  have c0 : (w1.alloc (.cells (Ev.zero.cells nil0 nil0) 32)).cell? ⟨bb, off + 0, none⟩ = some (.string ⟨([105, 110, 102, 111] : W8).toArray⟩) := HC.out _ HD1.out.frm 0 _ rfl
  have c1 : (w1.alloc (.cells (Ev.zero.cells nil0 nil0) 32)).cell? ⟨bb, off + 1, none⟩ = some (.string ⟨(a : W8).toArray⟩) := HC.out _ HD1.out.frm 1 _ rfl
  have c2 : (w1.alloc (.cells (Ev.zero.cells nil0 nil0) 32)).cell? ⟨bb, off + 2, none⟩ = some (.string ⟨(b : W8).toArray⟩) := HC.out _ HD1.out.frm 2 _ rfl
  rw [Nat.add_zero] at c0
  have q0 : (w1.alloc (.cells (Ev.zero.cells nil0 nil0) 32)).cell? ⟨w1.heap.size, 0, none⟩ = some (.int .u8 0) := HD1.out.box.at 0 rfl
  have g0 := HD1.out.box.free 0
  clear hrow hrd hc HCUT
  have hbq : bb ≠ w1.heap.size := by omega
  clear g0 q0
  go_wp2_with (first | ((with_reducible refine wpList_here (.store 32 (.tmp 5) (.tmp 12)) rfl ?_); refine wpList_store_new 32 (.tmp 5) (.tmp 12) rfl _ (Ev.zero.cells nil0 nil0) _ rfl rfl rfl Tryz.infoEv rfl (Ev.oneCell Ev.zero none none 0 0 0 0) rfl rfl ?_))
  refine (HA.out _).mono ?_
  rintro e w2 ⟨rfl, f2⟩
  have HD2 := Lib.hid (HD1.out.fr f2)
  have d1 := HC.out w2 HD2.out.frm 1 _ rfl
  have d2 := HC.out w2 HD2.out.frm 2 _ rfl
  clear f2 c0 c1 c2
  go_wp2_with fail
  refine (HA.out _).mono ?_
  rintro e w3 ⟨rfl, f3⟩
  have HD3 := Lib.hid (HD2.out.fr f3)
  have d2 := HC.out w3 HD3.out.frm 2 _ rfl
  clear f3 d1
  go_wp2_with fail
  refine (HB.out _).mono ?_
  rintro e w4 ⟨rfl, f4⟩
  have HD4 := Lib.hid (HD3.out.fr f4)
  have d1 := HC.out w4 HD4.out.frm 1 _ rfl
  clear f4 d2
  go_wp2_with fail
  refine (HA.out _).mono ?_
  rintro e w5 ⟨rfl, f5⟩
  have HD5 := Lib.hid (HD4.out.fr f5)
  have b1 : w5.cell? ⟨w1.heap.size, 1, none⟩ = some (.int .u8 0) := HD5.out.box.at 1 rfl
  have g1 := HD5.out.box.free 1
  have z5 := HD5.out.box.lt
  have d2 := HC.out w5 HD5.out.frm 2 _ rfl
  have HD5s : Hid (DSt w1 { Ev.zero with client := na } nil0 nil0 (w5.setCell ⟨w1.heap.size, 1, none⟩ (.int .u8 na))) := Lib.hid (HD5.out.set 1 _ rfl)
  clear f5 d1
  go_wp2_with fail
  refine (HB.out _).mono ?_
  rintro e w6 ⟨rfl, f6⟩
  have HD6 := Lib.hid (HD5s.out.fr f6)
  have b2 : w6.cell? ⟨w1.heap.size, 2, none⟩ = some (.int .u16 0) := HD6.out.box.at 2 rfl
  have b0 : w6.cell? ⟨w1.heap.size, 0, none⟩ = some (.int .u8 0) := HD6.out.box.at 0 rfl
  have g2 := HD6.out.box.free 2
  have g0 := HD6.out.box.free 0
  have z6 := HD6.out.box.lt
  have d0 := HC.out w6 HD6.out.frm 0 _ rfl
  rw [Nat.add_zero] at d0
  have HD6s : Hid (DSt w1 { Ev.zero with client := na, id := nb } nil0 nil0 (w6.setCell ⟨w1.heap.size, 2, none⟩ (.int .u16 nb))) := Lib.hid (HD6.out.set 2 _ rfl)
  clear f6 d2 b1 g1 z5 HD1 HD2 HD3 HD4 HD5 HD5s HD6 HA HB
  have HD7 : Hid (DSt w1 { Ev.zero with kind := 4, client := na, id := nb } nil0 nil0 ((w6.setCell ⟨w1.heap.size, 2, none⟩ (.int .u16 nb)).setCell ⟨w1.heap.size, 0, none⟩ (.int .u8 4))) := Lib.hid (HD6s.out.set 0 _ rfl)
  have HD8 : Hid (DSt w1 x nil0 nil0 ((w6.setCell ⟨w1.heap.size, 2, none⟩ (.int .u16 nb)).setCell ⟨w1.heap.size, 0, none⟩ (.int .u8 4))) := Lib.hid (by rw [HX.out]; exact HD7.out)
  go_upto_region 31 with (fail)
  refine wp_genT fun W9 hW9 => ?_
  have HD9 : Hid (DSt w1 (x) nil0 nil0 W9) := Lib.hid (by rw [hW9]; exact HD8.out)
  have HT9 : Hid (RdMZ (w1.heap.size < ·) W9 nil0 (x).txn) := Lib.hid (by rw [hW9]; exact (by rw [HX.out]; exact RdMZ.nil _ _))
  have HR9 : Hid (RdRZ (w1.heap.size < ·) W9 nil0 (x).reads) := Lib.hid (by rw [hW9]; exact (by rw [HX.out]; exact RdRZ.nil _ _))
  clear hW9
  obtain ⟨ax, nx, HSX⟩ : ∃ a, ∃ n : Int, Hid ((x).said.1 = a ∧ ((x).said.2 : Int) = n) := ⟨_, _, Lib.hid ⟨rfl, rfl⟩⟩
  have HLX : Hid (Calls Tryz.prog 12 #[(x).val nil0 nil0] W9 fun e w' => e = .returned (.tuple #[.string ⟨ax.toArray⟩, .int .i64 nx]) ∧ Fr W9 w') := Lib.hid (by
    have := rLine_c (x) ((x).val nil0 nil0) W9 ⟨nil0, nil0, rfl, HT9.out.rd, HR9.out.rd⟩ OKX.out
    unfold StrRet at this
    rw [HSX.out.1, HSX.out.2] at this
    exact this)
  have hBX := HD9.out.box
  go_wp2_with ((with_reducible refine wpList_here (.load 32 (.tmp 5)) rfl ?_); refine wpList_load_box 32 (.tmp 5) rfl _ rfl _ hBX _ Tryz.underlying32 rfl Tryz.infoEv rfl ?_)
  refine HLX.out.mono ?_
  rintro e w10 ⟨rfl, f10⟩
  have HD10 := Lib.hid (HD9.out.fr f10)
  have HT10 := Lib.hid (HT9.out.fr f10)
  have HR10 := Lib.hid (HR9.out.fr f10)
  have F10 := Lib.hid (FP.out.trans HD10.out.frm)
  have hP10 := HP1.out.fr HD10.out.frm
  have hB10 := HD10.out.box
  clear f10 hBX HLX
  by_cases hsd : (x).said = (s, 0)
  · have hY : Y = ((x), 0) := by first | exact HYY.out hsd | exact HYY.out trivial hsd | exact HYY.out rfl hsd
    subst hY
    have hsx := HSX.out
    rw [hsd] at hsx
    obtain ⟨h1, h2⟩ : s = ax ∧ (0 : Int) = nx := hsx
    subst h1 h2
    clear hsd HSX HYN HYY
    go_wp2_with (first | ((with_reducible refine wpList_here (.load 32 (.tmp 5)) rfl ?_); refine wpList_load_box 32 (.tmp 5) rfl _ rfl _ hB10 _ Tryz.underlying32 rfl Tryz.infoEv rfl ?_) | ((with_reducible refine wpList_here (.store 32 (.tmp 2) (.tmp 132)) rfl ?_); refine wpList_store_old 32 (.tmp 2) (.tmp 132) rfl w.heap.size _ _ rfl rfl hP10 Tryz.infoEv rfl (Ev.oneCell (x) _ _ _ _ _ _) rfl rfl ?_; intro wA hrl))
    have hK : ∀ b, w1.heap.size < b → b < w10.heap.size → wA.heap[b]? = w10.heap[b]? := fun b hz _ => hrl.other b (by omega)
    exact bodyPost_ret (v := .tuple #[.agg ((x).cells nil0 nil0), .int .i64 0]) (results_ev2T rfl _ _ w.heap.size _ _ rfl rfl hrl.box rfl) rfl ⟨_, _, rfl, (HT10.out.keep (Nat.le_of_eq hrl.size.symm) hK).mono fun b (hz : w1.heap.size < b) => (by have := FP.out.size; show w.heap.size ≤ b; omega), (HR10.out.keep (Nat.le_of_eq hrl.size.symm) hK).mono fun b (hz : w1.heap.size < b) => (by have := FP.out.size; show w.heap.size ≤ b; omega), hrl.fr F10.out (Nat.le_refl _)⟩
  · have hY : Y = (Ev.zero, 4) := by first | exact HYN.out hsd | exact HYN.out (.inr hsd) | exact HYN.out (by simp [hsd])
    subst hY
    have hsx := HSX.out
    clear HYN HYY hB10
    unfold Ev.said at hsd hsx
    cases hmy : (x).may
    · rw [hmy] at hsx
      obtain ⟨h1, h2⟩ : [] = ax ∧ (4 : Int) = nx := hsx
      subst h1 h2
      clear hsd hmy HSX
      go_wp2_with ((with_reducible refine wpList_here (.store 32 (.tmp 2) (.tmp 131)) rfl ?_); refine wpList_store_old 32 (.tmp 2) (.tmp 131) rfl w.heap.size _ (Ev.zero.cells nil0 nil0) rfl rfl hP10 Tryz.infoEv rfl (Ev.oneCell Ev.zero none none 0 0 0 0) rfl rfl ?_; intro wA hrl)
      exact bodyPost_ret (v := .tuple #[.agg (Ev.zero.cells nil0 nil0), .int .i64 4]) (results_ev2T rfl _ _ w.heap.size _ _ rfl rfl hrl.box rfl) rfl ⟨nil0, nil0, rfl, RdMZ.nil _ _, RdRZ.nil _ _, hrl.fr F10.out (Nat.le_refl _)⟩
    · rw [hmy] at hsx hsd
      obtain ⟨h1, h2⟩ : (x).line = ax ∧ (0 : Int) = nx := hsx
      subst h1 h2
      have hne : ¬ (x).line = s := fun e => hsd (by rw [e]; rfl)
      clear hsd hmy HSX
      generalize (x).line = q at hne ⊢
      have n1 : (q == s) = false := by simpa using hne
      have n2 : (q != s) = true := by simpa using hne
      clear hne
      go_wp2_with ((with_reducible refine wpList_here (.store 32 (.tmp 2) (.tmp 131)) rfl ?_); refine wpList_store_old 32 (.tmp 2) (.tmp 131) rfl w.heap.size _ (Ev.zero.cells nil0 nil0) rfl rfl hP10 Tryz.infoEv rfl (Ev.oneCell Ev.zero none none 0 0 0 0) rfl rfl ?_; intro wA hrl)
      exact bodyPost_ret (v := .tuple #[.agg (Ev.zero.cells nil0 nil0), .int .i64 4]) (results_ev2T rfl _ _ w.heap.size _ _ rfl rfl hrl.box rfl) rfl ⟨nil0, nil0, rfl, RdMZ.nil _ _, RdRZ.nil _ _, hrl.fr F10.out (Nat.le_refl _)⟩
set_option maxRecDepth 100000 in
set_option maxHeartbeats 8000000 in
theorem rp_7 (s : W8) (w : World) (hs : s.length ≤ 20000) {a b : W8} {r : List W8} (hal : splitS 32 s = [97, 98, 111, 114, 116] :: a :: b :: r) (h : (0 ≤ smallD a ∧ smallD a < 16) ∧ 0 ≤ smallD b) :
    Calls Tryz.prog 14 #[.string ⟨s.toArray⟩] w (ParseRet w (parseD s)) := by
  obtain ⟨na, hna⟩ := Int.eq_ofNat_of_zero_le h.1.1
  obtain ⟨nb, hnb⟩ := Int.eq_ofNat_of_zero_le h.2
  have hnb2 := smallD_ge b
  have hcd : candD (splitS 32 s) = ({ ({ Ev.zero with client := na, id := nb } : Ev) with kind := 7 }, true) := by
    rw [hal, candD_cons, if_neg (by decide)]
    simp only
    rw [if_pos h]
    unfold bodyD
    rw [if_neg (by decide), if_neg (by decide), if_neg (by decide), if_neg (by decide), if_neg (by decide), if_pos (show ([97, 98, 111, 114, 116] : W8) = kindW 7 from rfl), hna, hnb]
    first | done | rfl
  have ok : (candD (splitS 32 s)).1.Ok := candD_ok _
  rw [hcd] at ok
  simp only at ok
  obtain ⟨x, hx⟩ : ∃ x : Ev, x = { ({ Ev.zero with client := na, id := nb } : Ev) with kind := 7 } := ⟨_, rfl⟩
  rw [← hx] at hcd ok
  have OKX := Lib.hid ok
  have HX := Lib.hid hx
  have HYY := Lib.hid (fun (hb : (true) = true) (h : x.said = (s, 0)) => parseD_yes (by rw [← hb]; exact hcd) h)
  have HYN := Lib.hid (fun h => parseD_no hcd h)
  have h16 : na < 16 := by omega
  have h65 : nb ≤ 65535 := by omega
  have hwA : IntKind.u8.wrap (na : Int) = na := by simp [IntKind.wrap, IntKind.bits, IntKind.signed]; omega
  have hwB : IntKind.u16.wrap (nb : Int) = nb := by simp [IntKind.wrap, IntKind.bits, IntKind.signed]; omega
  have HA := Lib.hid (fun W => small06_c a W)
  have HB := Lib.hid (fun W => small06_c b W)
  rw [hna] at HA
  rw [hnb] at HB
  generalize parseD s = Y at HYY HYN ⊢
  clear hcd ok hx hna hnb h hnb2
  have hwn := splitS_len 32 s
  have hwc : s.count 32 ≤ s.length := List.count_le_length
  have hWS : ∀ v ∈ splitS 32 s, v.length < 1000000 := fun v hv => by have := splitS_short hv; omega
  have HCUT : Hid (∀ W, Calls Tryz.prog 46 #[.string ⟨s.toArray⟩, .int .u8 32] W fun e w' => ∃ v, e = .returned v ∧ RowS W w' v (splitS 32 s)) := Lib.hid (fun W => cut06_c s 32 W (by omega))
  rw [hal] at hwn hWS HCUT
  have HWS := Lib.hid hWS
  have hwb : ([97, 98, 111, 114, 116] :: (a :: b :: r)).length ≤ 100000 := by omega
  clear hwn hwc hWS hal hs
  go_enter Tryz.func14, Tryz.ntmps14
  go_wp2_with fail
  refine (HCUT.out _).mono ?_
  rintro e w1 ⟨v1, rfl, hrow⟩
  have FP := Lib.hid (((Fr.refl w).alloc (.cells (Ev.zero.cells nil0 nil0) 32)).trans hrow.frm)
  have HP1 : Hid (BoxAt w1 w.heap.size (Ev.zero.cells nil0 nil0) 32) := Lib.hid ((BoxAt.new w (Ev.zero.cells nil0 nil0) 32).fr hrow.frm)
  have hzp := HP1.out.lt
  have hrd := hrow.rd
  obtain ⟨bb, off, cap, rfl, hcap, hmax, hb, hc⟩ := hrd.at (k := 0) (by simp)
  have HSUB := Lib.hid (fun m n c h1 h2 => RdS.sub (w := w1) m hcap hmax hb hc n c h1 h2)
  have HC := Lib.hid (fun W (f : Fr w1 W) j u (h : ([97, 98, 111, 114, 116] :: (a :: b :: r))[j]? = some u) => f.keep (hc j u h))
  simp only [List.length_cons] at hcap hwb
  unfold maxLen at hmax
  have HD1 := Lib.hid (DSt.new w1)
  have c0 : (w1.alloc (.cells (Ev.zero.cells nil0 nil0) 32)).cell? ⟨bb, off + 0, none⟩ = some (.string ⟨([97, 98, 111, 114, 116] : W8).toArray⟩) := HC.out _ HD1.out.frm 0 _ rfl
  have c1 : (w1.alloc (.cells (Ev.zero.cells nil0 nil0) 32)).cell? ⟨bb, off + 1, none⟩ = some (.string ⟨(a : W8).toArray⟩) := HC.out _ HD1.out.frm 1 _ rfl
  have c2 : (w1.alloc (.cells (Ev.zero.cells nil0 nil0) 32)).cell? ⟨bb, off + 2, none⟩ = some (.string ⟨(b : W8).toArray⟩) := HC.out _ HD1.out.frm 2 _ rfl
  rw [Nat.add_zero] at c0
  have q0 : (w1.alloc (.cells (Ev.zero.cells nil0 nil0) 32)).cell? ⟨w1.heap.size, 0, none⟩ = some (.int .u8 0) := HD1.out.box.at 0 rfl
  have g0 := HD1.out.box.free 0
  clear hrow hrd hc HCUT
  have hbq : bb ≠ w1.heap.size := by omega
  clear g0 q0
  go_wp2_with (first | ((with_reducible refine wpList_here (.store 32 (.tmp 5) (.tmp 12)) rfl ?_); refine wpList_store_new 32 (.tmp 5) (.tmp 12) rfl _ (Ev.zero.cells nil0 nil0) _ rfl rfl rfl Tryz.infoEv rfl (Ev.oneCell Ev.zero none none 0 0 0 0) rfl rfl ?_))
  refine (HA.out _).mono ?_
  rintro e w2 ⟨rfl, f2⟩
  have HD2 := Lib.hid (HD1.out.fr f2)
  have d1 := HC.out w2 HD2.out.frm 1 _ rfl
  have d2 := HC.out w2 HD2.out.frm 2 _ rfl
  clear f2 c0 c1 c2
  go_wp2_with fail
  refine (HA.out _).mono ?_
  rintro e w3 ⟨rfl, f3⟩
  have HD3 := Lib.hid (HD2.out.fr f3)
  have d2 := HC.out w3 HD3.out.frm 2 _ rfl
  clear f3 d1
  go_wp2_with fail
  refine (HB.out _).mono ?_
  rintro e w4 ⟨rfl, f4⟩
  have HD4 := Lib.hid (HD3.out.fr f4)
  have d1 := HC.out w4 HD4.out.frm 1 _ rfl
  clear f4 d2
  go_wp2_with fail
  refine (HA.out _).mono ?_
  rintro e w5 ⟨rfl, f5⟩
  have HD5 := Lib.hid (HD4.out.fr f5)
  have b1 : w5.cell? ⟨w1.heap.size, 1, none⟩ = some (.int .u8 0) := HD5.out.box.at 1 rfl
  have g1 := HD5.out.box.free 1
  have z5 := HD5.out.box.lt
  have d2 := HC.out w5 HD5.out.frm 2 _ rfl
  have HD5s : Hid (DSt w1 { Ev.zero with client := na } nil0 nil0 (w5.setCell ⟨w1.heap.size, 1, none⟩ (.int .u8 na))) := Lib.hid (HD5.out.set 1 _ rfl)
  clear f5 d1
  go_wp2_with fail
  refine (HB.out _).mono ?_
  rintro e w6 ⟨rfl, f6⟩
  have HD6 := Lib.hid (HD5s.out.fr f6)
  have b2 : w6.cell? ⟨w1.heap.size, 2, none⟩ = some (.int .u16 0) := HD6.out.box.at 2 rfl
  have b0 : w6.cell? ⟨w1.heap.size, 0, none⟩ = some (.int .u8 0) := HD6.out.box.at 0 rfl
  have g2 := HD6.out.box.free 2
  have g0 := HD6.out.box.free 0
  have z6 := HD6.out.box.lt
  have d0 := HC.out w6 HD6.out.frm 0 _ rfl
  rw [Nat.add_zero] at d0
  have HD6s : Hid (DSt w1 { Ev.zero with client := na, id := nb } nil0 nil0 (w6.setCell ⟨w1.heap.size, 2, none⟩ (.int .u16 nb))) := Lib.hid (HD6.out.set 2 _ rfl)
  clear f6 d2 b1 g1 z5 HD1 HD2 HD3 HD4 HD5 HD5s HD6 HA HB
  have HD7 : Hid (DSt w1 { Ev.zero with kind := 7, client := na, id := nb } nil0 nil0 ((w6.setCell ⟨w1.heap.size, 2, none⟩ (.int .u16 nb)).setCell ⟨w1.heap.size, 0, none⟩ (.int .u8 7))) := Lib.hid (HD6s.out.set 0 _ rfl)
  have HD8 : Hid (DSt w1 x nil0 nil0 ((w6.setCell ⟨w1.heap.size, 2, none⟩ (.int .u16 nb)).setCell ⟨w1.heap.size, 0, none⟩ (.int .u8 7))) := Lib.hid (by rw [HX.out]; exact HD7.out)
  go_upto_region 31 with (fail)
  refine wp_genT fun W9 hW9 => ?_
  have HD9 : Hid (DSt w1 (x) nil0 nil0 W9) := Lib.hid (by rw [hW9]; exact HD8.out)
  have HT9 : Hid (RdMZ (w1.heap.size < ·) W9 nil0 (x).txn) := Lib.hid (by rw [hW9]; exact (by rw [HX.out]; exact RdMZ.nil _ _))
  have HR9 : Hid (RdRZ (w1.heap.size < ·) W9 nil0 (x).reads) := Lib.hid (by rw [hW9]; exact (by rw [HX.out]; exact RdRZ.nil _ _))
  clear hW9
  obtain ⟨ax, nx, HSX⟩ : ∃ a, ∃ n : Int, Hid ((x).said.1 = a ∧ ((x).said.2 : Int) = n) := ⟨_, _, Lib.hid ⟨rfl, rfl⟩⟩
  have HLX : Hid (Calls Tryz.prog 12 #[(x).val nil0 nil0] W9 fun e w' => e = .returned (.tuple #[.string ⟨ax.toArray⟩, .int .i64 nx]) ∧ Fr W9 w') := Lib.hid (by
    have := rLine_c (x) ((x).val nil0 nil0) W9 ⟨nil0, nil0, rfl, HT9.out.rd, HR9.out.rd⟩ OKX.out
    unfold StrRet at this
    rw [HSX.out.1, HSX.out.2] at this
    exact this)
  have hBX := HD9.out.box
  go_wp2_with ((with_reducible refine wpList_here (.load 32 (.tmp 5)) rfl ?_); refine wpList_load_box 32 (.tmp 5) rfl _ rfl _ hBX _ Tryz.underlying32 rfl Tryz.infoEv rfl ?_)
  refine HLX.out.mono ?_
  rintro e w10 ⟨rfl, f10⟩
  have HD10 := Lib.hid (HD9.out.fr f10)
  have HT10 := Lib.hid (HT9.out.fr f10)
  have HR10 := Lib.hid (HR9.out.fr f10)
  have F10 := Lib.hid (FP.out.trans HD10.out.frm)
  have hP10 := HP1.out.fr HD10.out.frm
  have hB10 := HD10.out.box
  clear f10 hBX HLX
  by_cases hsd : (x).said = (s, 0)
  · have hY : Y = ((x), 0) := by first | exact HYY.out hsd | exact HYY.out trivial hsd | exact HYY.out rfl hsd
    subst hY
    have hsx := HSX.out
    rw [hsd] at hsx
    obtain ⟨h1, h2⟩ : s = ax ∧ (0 : Int) = nx := hsx
    subst h1 h2
    clear hsd HSX HYN HYY
    go_wp2_with (first | ((with_reducible refine wpList_here (.load 32 (.tmp 5)) rfl ?_); refine wpList_load_box 32 (.tmp 5) rfl _ rfl _ hB10 _ Tryz.underlying32 rfl Tryz.infoEv rfl ?_) | ((with_reducible refine wpList_here (.store 32 (.tmp 2) (.tmp 132)) rfl ?_); refine wpList_store_old 32 (.tmp 2) (.tmp 132) rfl w.heap.size _ _ rfl rfl hP10 Tryz.infoEv rfl (Ev.oneCell (x) _ _ _ _ _ _) rfl rfl ?_; intro wA hrl))
    have hK : ∀ b, w1.heap.size < b → b < w10.heap.size → wA.heap[b]? = w10.heap[b]? := fun b hz _ => hrl.other b (by omega)
    exact bodyPost_ret (v := .tuple #[.agg ((x).cells nil0 nil0), .int .i64 0]) (results_ev2T rfl _ _ w.heap.size _ _ rfl rfl hrl.box rfl) rfl ⟨_, _, rfl, (HT10.out.keep (Nat.le_of_eq hrl.size.symm) hK).mono fun b (hz : w1.heap.size < b) => (by have := FP.out.size; show w.heap.size ≤ b; omega), (HR10.out.keep (Nat.le_of_eq hrl.size.symm) hK).mono fun b (hz : w1.heap.size < b) => (by have := FP.out.size; show w.heap.size ≤ b; omega), hrl.fr F10.out (Nat.le_refl _)⟩
  · have hY : Y = (Ev.zero, 4) := by first | exact HYN.out hsd | exact HYN.out (.inr hsd) | exact HYN.out (by simp [hsd])
    subst hY
    have hsx := HSX.out
    clear HYN HYY hB10
    unfold Ev.said at hsd hsx
    cases hmy : (x).may
    · rw [hmy] at hsx
      obtain ⟨h1, h2⟩ : [] = ax ∧ (4 : Int) = nx := hsx
      subst h1 h2
      clear hsd hmy HSX
      go_wp2_with ((with_reducible refine wpList_here (.store 32 (.tmp 2) (.tmp 131)) rfl ?_); refine wpList_store_old 32 (.tmp 2) (.tmp 131) rfl w.heap.size _ (Ev.zero.cells nil0 nil0) rfl rfl hP10 Tryz.infoEv rfl (Ev.oneCell Ev.zero none none 0 0 0 0) rfl rfl ?_; intro wA hrl)
      exact bodyPost_ret (v := .tuple #[.agg (Ev.zero.cells nil0 nil0), .int .i64 4]) (results_ev2T rfl _ _ w.heap.size _ _ rfl rfl hrl.box rfl) rfl ⟨nil0, nil0, rfl, RdMZ.nil _ _, RdRZ.nil _ _, hrl.fr F10.out (Nat.le_refl _)⟩
    · rw [hmy] at hsx hsd
      obtain ⟨h1, h2⟩ : (x).line = ax ∧ (0 : Int) = nx := hsx
      subst h1 h2
      have hne : ¬ (x).line = s := fun e => hsd (by rw [e]; rfl)
      clear hsd hmy HSX
      generalize (x).line = q at hne ⊢
      have n1 : (q == s) = false := by simpa using hne
      have n2 : (q != s) = true := by simpa using hne
      clear hne
      go_wp2_with ((with_reducible refine wpList_here (.store 32 (.tmp 2) (.tmp 131)) rfl ?_); refine wpList_store_old 32 (.tmp 2) (.tmp 131) rfl w.heap.size _ (Ev.zero.cells nil0 nil0) rfl rfl hP10 Tryz.infoEv rfl (Ev.oneCell Ev.zero none none 0 0 0 0) rfl rfl ?_; intro wA hrl)
      exact bodyPost_ret (v := .tuple #[.agg (Ev.zero.cells nil0 nil0), .int .i64 4]) (results_ev2T rfl _ _ w.heap.size _ _ rfl rfl hrl.box rfl) rfl ⟨nil0, nil0, rfl, RdMZ.nil _ _, RdRZ.nil _ _, hrl.fr F10.out (Nat.le_refl _)⟩
set_option maxRecDepth 100000 in
set_option maxHeartbeats 8000000 in
theorem rp_0 (s : W8) (w : World) (hs : s.length ≤ 20000) {a b w0 : W8} {r : List W8} (hal : splitS 32 s = w0 :: a :: b :: r) (h : (0 ≤ smallD a ∧ smallD a < 16) ∧ 0 ≤ smallD b) (hw : ∀ j, 1 ≤ j → j ≤ 7 → w0 ≠ kindW j) :
    Calls Tryz.prog 14 #[.string ⟨s.toArray⟩] w (ParseRet w (parseD s)) := by
  obtain ⟨na, hna⟩ := Int.eq_ofNat_of_zero_le h.1.1
  obtain ⟨nb, hnb⟩ := Int.eq_ofNat_of_zero_le h.2
  have hnb2 := smallD_ge b
  have hcd : candD (splitS 32 s) = (({ Ev.zero with client := na, id := nb } : Ev), false) := by
    rw [hal, candD_cons, if_neg (hw 1 (by omega) (by omega))]
    simp only
    rw [if_pos h]
    unfold bodyD
    rw [if_neg (hw 2 (by omega) (by omega)), if_neg (hw 3 (by omega) (by omega)), if_neg (hw 4 (by omega) (by omega)), if_neg (hw 5 (by omega) (by omega)), if_neg (hw 6 (by omega) (by omega)), if_neg (hw 7 (by omega) (by omega)), hna, hnb]
    first | done | rfl
  have ok : (candD (splitS 32 s)).1.Ok := candD_ok _
  rw [hcd] at ok
  simp only at ok
  obtain ⟨x, hx⟩ : ∃ x : Ev, x = ({ Ev.zero with client := na, id := nb } : Ev) := ⟨_, rfl⟩
  rw [← hx] at hcd ok
  have OKX := Lib.hid ok
  have HX := Lib.hid hx
  have HYY := Lib.hid (fun (hb : (false) = true) (h : x.said = (s, 0)) => parseD_yes (by rw [← hb]; exact hcd) h)
  have HYN := Lib.hid (fun h => parseD_no hcd h)
  have h16 : na < 16 := by omega
  have h65 : nb ≤ 65535 := by omega
  have hwA : IntKind.u8.wrap (na : Int) = na := by simp [IntKind.wrap, IntKind.bits, IntKind.signed]; omega
  have hwB : IntKind.u16.wrap (nb : Int) = nb := by simp [IntKind.wrap, IntKind.bits, IntKind.signed]; omega
  have HA := Lib.hid (fun W => small06_c a W)
  have HB := Lib.hid (fun W => small06_c b W)
  rw [hna] at HA
  rw [hnb] at HB
  generalize parseD s = Y at HYY HYN ⊢
  have n1 : (w0 == [99, 111, 110, 102, 105, 103]) = false := by simpa [kindW] using hw 1 (by omega) (by omega)
  have n2 : (w0 == [105, 110, 118, 111, 107, 101]) = false := by simpa [kindW] using hw 2 (by omega) (by omega)
  have n3 : (w0 == [114, 101, 116, 117, 114, 110]) = false := by simpa [kindW] using hw 3 (by omega) (by omega)
  have n4 : (w0 == [105, 110, 102, 111]) = false := by simpa [kindW] using hw 4 (by omega) (by omega)
  have n5 : (w0 == [98, 101, 103, 105, 110]) = false := by simpa [kindW] using hw 5 (by omega) (by omega)
  have n6 : (w0 == [99, 111, 109, 109, 105, 116]) = false := by simpa [kindW] using hw 6 (by omega) (by omega)
  have n7 : (w0 == [97, 98, 111, 114, 116]) = false := by simpa [kindW] using hw 7 (by omega) (by omega)
  clear hw
  clear hcd ok hx hna hnb h hnb2
  have hwn := splitS_len 32 s
  have hwc : s.count 32 ≤ s.length := List.count_le_length
  have hWS : ∀ v ∈ splitS 32 s, v.length < 1000000 := fun v hv => by have := splitS_short hv; omega
  have HCUT : Hid (∀ W, Calls Tryz.prog 46 #[.string ⟨s.toArray⟩, .int .u8 32] W fun e w' => ∃ v, e = .returned v ∧ RowS W w' v (splitS 32 s)) := Lib.hid (fun W => cut06_c s 32 W (by omega))
  rw [hal] at hwn hWS HCUT
  have HWS := Lib.hid hWS
  have hwb : (w0 :: (a :: b :: r)).length ≤ 100000 := by omega
  clear hwn hwc hWS hal hs
  go_enter Tryz.func14, Tryz.ntmps14
  go_wp2_with fail
  refine (HCUT.out _).mono ?_
  rintro e w1 ⟨v1, rfl, hrow⟩
  have FP := Lib.hid (((Fr.refl w).alloc (.cells (Ev.zero.cells nil0 nil0) 32)).trans hrow.frm)
  have HP1 : Hid (BoxAt w1 w.heap.size (Ev.zero.cells nil0 nil0) 32) := Lib.hid ((BoxAt.new w (Ev.zero.cells nil0 nil0) 32).fr hrow.frm)
  have hzp := HP1.out.lt
  have hrd := hrow.rd
  obtain ⟨bb, off, cap, rfl, hcap, hmax, hb, hc⟩ := hrd.at (k := 0) (by simp)
  have HSUB := Lib.hid (fun m n c h1 h2 => RdS.sub (w := w1) m hcap hmax hb hc n c h1 h2)
  have HC := Lib.hid (fun W (f : Fr w1 W) j u (h : (w0 :: (a :: b :: r))[j]? = some u) => f.keep (hc j u h))
  simp only [List.length_cons] at hcap hwb
  unfold maxLen at hmax
  have HD1 := Lib.hid (DSt.new w1)
  have c0 : (w1.alloc (.cells (Ev.zero.cells nil0 nil0) 32)).cell? ⟨bb, off + 0, none⟩ = some (.string ⟨(w0 : W8).toArray⟩) := HC.out _ HD1.out.frm 0 _ rfl
  have c1 : (w1.alloc (.cells (Ev.zero.cells nil0 nil0) 32)).cell? ⟨bb, off + 1, none⟩ = some (.string ⟨(a : W8).toArray⟩) := HC.out _ HD1.out.frm 1 _ rfl
  have c2 : (w1.alloc (.cells (Ev.zero.cells nil0 nil0) 32)).cell? ⟨bb, off + 2, none⟩ = some (.string ⟨(b : W8).toArray⟩) := HC.out _ HD1.out.frm 2 _ rfl
  rw [Nat.add_zero] at c0
  have q0 : (w1.alloc (.cells (Ev.zero.cells nil0 nil0) 32)).cell? ⟨w1.heap.size, 0, none⟩ = some (.int .u8 0) := HD1.out.box.at 0 rfl
  have g0 := HD1.out.box.free 0
  clear hrow hrd hc HCUT
  have hbq : bb ≠ w1.heap.size := by omega
  clear g0 q0
  go_wp2_with (first | ((with_reducible refine wpList_here (.store 32 (.tmp 5) (.tmp 12)) rfl ?_); refine wpList_store_new 32 (.tmp 5) (.tmp 12) rfl _ (Ev.zero.cells nil0 nil0) _ rfl rfl rfl Tryz.infoEv rfl (Ev.oneCell Ev.zero none none 0 0 0 0) rfl rfl ?_))
  refine (HA.out _).mono ?_
  rintro e w2 ⟨rfl, f2⟩
  have HD2 := Lib.hid (HD1.out.fr f2)
  have d1 := HC.out w2 HD2.out.frm 1 _ rfl
  have d2 := HC.out w2 HD2.out.frm 2 _ rfl
  clear f2 c0 c1 c2
  go_wp2_with fail
  refine (HA.out _).mono ?_
  rintro e w3 ⟨rfl, f3⟩
  have HD3 := Lib.hid (HD2.out.fr f3)
  have d2 := HC.out w3 HD3.out.frm 2 _ rfl
  clear f3 d1
  go_wp2_with fail
  refine (HB.out _).mono ?_
  rintro e w4 ⟨rfl, f4⟩
  have HD4 := Lib.hid (HD3.out.fr f4)
  have d1 := HC.out w4 HD4.out.frm 1 _ rfl
  clear f4 d2
  go_wp2_with fail
  refine (HA.out _).mono ?_
  rintro e w5 ⟨rfl, f5⟩
  have HD5 := Lib.hid (HD4.out.fr f5)
  have b1 : w5.cell? ⟨w1.heap.size, 1, none⟩ = some (.int .u8 0) := HD5.out.box.at 1 rfl
  have g1 := HD5.out.box.free 1
  have z5 := HD5.out.box.lt
  have d2 := HC.out w5 HD5.out.frm 2 _ rfl
  have HD5s : Hid (DSt w1 { Ev.zero with client := na } nil0 nil0 (w5.setCell ⟨w1.heap.size, 1, none⟩ (.int .u8 na))) := Lib.hid (HD5.out.set 1 _ rfl)
  clear f5 d1
  go_wp2_with fail
  refine (HB.out _).mono ?_
  rintro e w6 ⟨rfl, f6⟩
  have HD6 := Lib.hid (HD5s.out.fr f6)
  have b2 : w6.cell? ⟨w1.heap.size, 2, none⟩ = some (.int .u16 0) := HD6.out.box.at 2 rfl
  have b0 : w6.cell? ⟨w1.heap.size, 0, none⟩ = some (.int .u8 0) := HD6.out.box.at 0 rfl
  have g2 := HD6.out.box.free 2
  have g0 := HD6.out.box.free 0
  have z6 := HD6.out.box.lt
  have d0 := HC.out w6 HD6.out.frm 0 _ rfl
  rw [Nat.add_zero] at d0
  have HD6s : Hid (DSt w1 { Ev.zero with client := na, id := nb } nil0 nil0 (w6.setCell ⟨w1.heap.size, 2, none⟩ (.int .u16 nb))) := Lib.hid (HD6.out.set 2 _ rfl)
  clear f6 d2 b1 g1 z5 HD1 HD2 HD3 HD4 HD5 HD5s HD6 HA HB
  have HD8 : Hid (DSt w1 x nil0 nil0 (w6.setCell ⟨w1.heap.size, 2, none⟩ (.int .u16 nb))) := Lib.hid (by rw [HX.out]; exact HD6s.out)
  go_upto_region 31 with (fail)
  refine wp_genT fun W9 hW9 => ?_
  have HD9 : Hid (DSt w1 (x) nil0 nil0 W9) := Lib.hid (by rw [hW9]; exact HD8.out)
  have HT9 : Hid (RdMZ (w1.heap.size < ·) W9 nil0 (x).txn) := Lib.hid (by rw [hW9]; exact (by rw [HX.out]; exact RdMZ.nil _ _))
  have HR9 : Hid (RdRZ (w1.heap.size < ·) W9 nil0 (x).reads) := Lib.hid (by rw [hW9]; exact (by rw [HX.out]; exact RdRZ.nil _ _))
  clear hW9
  obtain ⟨ax, nx, HSX⟩ : ∃ a, ∃ n : Int, Hid ((x).said.1 = a ∧ ((x).said.2 : Int) = n) := ⟨_, _, Lib.hid ⟨rfl, rfl⟩⟩
  have HLX : Hid (Calls Tryz.prog 12 #[(x).val nil0 nil0] W9 fun e w' => e = .returned (.tuple #[.string ⟨ax.toArray⟩, .int .i64 nx]) ∧ Fr W9 w') := Lib.hid (by
    have := rLine_c (x) ((x).val nil0 nil0) W9 ⟨nil0, nil0, rfl, HT9.out.rd, HR9.out.rd⟩ OKX.out
    unfold StrRet at this
    rw [HSX.out.1, HSX.out.2] at this
    exact this)
  have hBX := HD9.out.box
  have HY0 : Y = (Ev.zero, 4) := by first | exact HYN.out (.inl rfl) | exact HYN.out trivial | exact HYN.out (by simp)
  subst HY0
  go_wp2_with ((with_reducible refine wpList_here (.load 32 (.tmp 5)) rfl ?_); refine wpList_load_box 32 (.tmp 5) rfl _ rfl _ hBX _ Tryz.underlying32 rfl Tryz.infoEv rfl ?_)
  refine HLX.out.mono ?_
  rintro e w9 ⟨rfl, f9⟩
  have F9 := Lib.hid (FP.out.trans (HD9.out.frm.trans f9))
  have hP9 := HP1.out.fr (HD9.out.frm.trans f9)
  clear f9 hBX
  go_wp2_with ((with_reducible refine wpList_here (.store 32 (.tmp 2) (.tmp 131)) rfl ?_); refine wpList_store_old 32 (.tmp 2) (.tmp 131) rfl w.heap.size _ (Ev.zero.cells nil0 nil0) rfl rfl hP9 Tryz.infoEv rfl (Ev.oneCell Ev.zero none none 0 0 0 0) rfl rfl ?_; intro wA hrl)
  exact bodyPost_ret (v := .tuple #[.agg (Ev.zero.cells nil0 nil0), .int .i64 4]) (results_ev2T rfl _ _ w.heap.size _ _ rfl rfl hrl.box rfl) rfl ⟨nil0, nil0, rfl, RdMZ.nil _ _, RdRZ.nil _ _, hrl.fr F9.out (Nat.le_refl _)⟩
end Go.Proofs.YtfklgaeejmeipaaGreatDoor
