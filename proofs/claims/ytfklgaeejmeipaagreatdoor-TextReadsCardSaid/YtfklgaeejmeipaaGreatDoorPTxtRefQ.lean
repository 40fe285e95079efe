/- The document's Parse answers what parseD says. Of any text of at most 20000 bytes. Printed by gen_refparse6.py. -/
import Derived.Test.YtfklgaeejmeipaaGreatDoorPTxtRefL5
import Derived.Test.YtfklgaeejmeipaaGreatDoorPTxtPar
import Derived.Test.YtfklgaeejmeipaaGreatDoorPRefParse
import Derived.Test.YtfklgaeejmeipaaGreatDoorPResRefParse
set_option linter.all false
set_option linter.unusedVariables false
set_option linter.unusedSimpArgs false
set_option linter.unnecessarySimpa false
/- The document's Parse answers what parseD says. Of any text of at most 20000 bytes. Printed by gen_refparse6.py. -/
namespace Go.Proofs.YtfklgaeejmeipaaGreatDoor
open Go.RowKit
attribute [local go_sem] Oper.semAt_some

theorem rParse4T (v : Value) (l : List (List UInt8)) (w : World) (hv : RdS w v l) (hl : l.length < 1000000) : Calls Tryz.prog 49 #[v] w (OpRet w (parseOp l)) := by
  match l, hv, hl with
  | [], hv, _ => exact rparse_short v [] w hv (by simp)
  | [o], hv, _ => exact rparse_short v [o] w hv (by simp)
  | o :: n :: r, hv, hl => exact rparse_long v o n r w hv (by simp at hl; omega)
theorem results_ev2T {fn : Func} {p r : Tmp} (h : fn.results = #[.cell p 32, .tmp r]) (tmps : Array Value) (w : World) (g : Nat) (c : Array Value) (v : Value) (hp : tmps.getD p undef = .pointer (some ⟨g, 0, none⟩)) (hr : tmps.getD r undef = v) (hB : BoxAt w g c 32) (hc : c.size = 19) :
    (results fn tmps).run Tryz.prog w = .ok (.tuple #[.agg c, v]) w := by
  have hp' : tmps[p]?.getD undef = .pointer (some ⟨g, 0, none⟩) := by simpa using hp
  have hr' : tmps[r]?.getD undef = v := by simpa using hr
  have hl := run_loadVar_row (P := Tryz.prog) w g 32 32 c (0, 0) _ hB Tryz.underlying32 rfl (by rw [hc]; exact Tryz.infoEv)
  simp [results, h, hp', hr', asAddr, hl]
/-- The event so far, in a block of its own. -/
structure DSt (w1 : World) (x : Ev) (t r : Value) (W : World) : Prop where
  frm : Fr w1 W
  box : BoxAt W w1.heap.size (x.cells t r) 32
theorem DSt.fr {w1 W W' : World} {x : Ev} {t r : Value} (h : DSt w1 x t r W) (f : Fr W W') : DSt w1 x t r W' := ⟨h.frm.trans f, h.box.fr f⟩
theorem DSt.set {w1 W : World} {x x' : Ev} {t r t' r' : Value} (h : DSt w1 x t r W) (k : Nat) (v : Value) (e : (x.cells t r).setIfInBounds k v = x'.cells t' r') : DSt w1 x' t' r' (W.setCell ⟨w1.heap.size, k, none⟩ v) :=
  ⟨h.frm.setCell (p := ⟨w1.heap.size, k, none⟩) (Nat.le_refl _) _, by have := h.box.setAt k v; rw [e] at this; exact this⟩
theorem DSt.new (w1 : World) : DSt w1 Ev.zero nil0 nil0 (w1.alloc (.cells (Ev.zero.cells nil0 nil0) 32)) := ⟨(Fr.refl w1).alloc _, BoxAt.new w1 _ _⟩
/-- What stands in blocks that are newer than the box stays when the box is written. -/
theorem RdMZ.setBox {W : World} {q : Nat} {v : Value} {l : List Mic} (h : RdMZ (q < ·) W v l) (k : Nat) (u : Value) : RdMZ (q < ·) (W.setCell ⟨q, k, none⟩ u) v l :=
  h.keep (by simp) fun b hz _ => Below.heap_setCell W ⟨q, k, none⟩ u b (by simp; omega)
theorem RdRZ.setBox {W : World} {q : Nat} {v : Value} {l : List (List Nat)} (h : RdRZ (q < ·) W v l) (k : Nat) (u : Value) : RdRZ (q < ·) (W.setCell ⟨q, k, none⟩ u) v l :=
  h.keep (by simp) fun b hz _ => Below.heap_setCell W ⟨q, k, none⟩ u b (by simp; omega)
theorem parseD_yes {s : W8} {x : Ev} (h : candD (splitS 32 s) = (x, true)) (hs : x.said = (s, 0)) : parseD s = (x, 0) := by unfold parseD; rw [h, if_pos ⟨rfl, hs⟩]
theorem parseD_no {s : W8} {x : Ev} {b : Bool} (h : candD (splitS 32 s) = (x, b)) (hs : b = false ∨ x.said ≠ (s, 0)) : parseD s = (.zero, 4) := by
  unfold parseD
  rw [h, if_neg]
  rintro ⟨h1, h2⟩
  rcases hs with hs | hs
  · rw [hs] at h1; cases h1
  · exact hs h2
set_option maxRecDepth 100000 in
set_option maxHeartbeats 8000000 in
theorem rp_few (s : W8) (w : World) (hs : s.length ≤ 20000) {a : W8} {l : List W8} (hal : splitS 32 s = a :: l) (ha : a ≠ kindW 1) (hl : l.length < 2) :
    Calls Tryz.prog 14 #[.string ⟨s.toArray⟩] w (ParseRet w (parseD s)) := by
  have HYN : Hid (∀ _ : True, parseD s = (.zero, 4)) := Lib.hid (fun _ => parseD_no (x := .zero) (b := false) (by rw [hal, candD_cons, if_neg ha]; match l, hl with | [], _ => rfl | [_], _ => rfl) (.inl rfl))
  have n1 : (a == [99, 111, 110, 102, 105, 103]) = false := by simpa [kindW] using ha
  generalize parseD s = Y at HYN ⊢
  clear ha
  have hwn := splitS_len 32 s
  have hwc : s.count 32 ≤ s.length := List.count_le_length
  have hWS : ∀ v ∈ splitS 32 s, v.length < 1000000 := fun v hv => by have := splitS_short hv; omega
  have HCUT : Hid (∀ W, Calls Tryz.prog 46 #[.string ⟨s.toArray⟩, .int .u8 32] W fun e w' => ∃ v, e = .returned v ∧ RowS W w' v (splitS 32 s)) := Lib.hid (fun W => cut06_c s 32 W (by omega))
  rw [hal] at hwn hWS HCUT
  have HWS := Lib.hid hWS
  have hwb : (a :: l).length ≤ 100000 := by omega
  clear hwn hwc hWS hal hs
  go_enter Tryz.func14, Tryz.ntmps14
  go_wp2_with fail
  refine (HCUT.out _).mono ?_
  rintro e w1 ⟨v1, rfl, hrow⟩
  have FP := Lib.hid (((Fr.refl w).alloc (.cells (Ev.zero.cells nil0 nil0) 32)).trans hrow.frm)
  have HP1 : Hid (BoxAt w1 w.heap.size (Ev.zero.cells nil0 nil0) 32) := Lib.hid ((BoxAt.new w (Ev.zero.cells nil0 nil0) 32).fr hrow.frm)
  have hzp := HP1.out.lt
  have hrd := hrow.rd
  obtain ⟨b, off, cap, rfl, hcap, hmax, hb, hc⟩ := hrd.at (k := 0) (by simp)
  have HSUB := Lib.hid (fun m n c h1 h2 => RdS.sub (w := w1) m hcap hmax hb hc n c h1 h2)
  have HC := Lib.hid (fun W (f : Fr w1 W) j u (h : (a :: l)[j]? = some u) => f.keep (hc j u h))
  simp only [List.length_cons] at hcap hwb
  unfold maxLen at hmax
  have HD1 := Lib.hid (DSt.new w1)
  have c0 : (w1.alloc (.cells (Ev.zero.cells nil0 nil0) 32)).cell? ⟨b, off + 0, none⟩ = some (.string ⟨(a : W8).toArray⟩) := HC.out _ HD1.out.frm 0 _ rfl
  rw [Nat.add_zero] at c0
  have q0 : (w1.alloc (.cells (Ev.zero.cells nil0 nil0) 32)).cell? ⟨w1.heap.size, 0, none⟩ = some (.int .u8 0) := HD1.out.box.at 0 rfl
  have g0 := HD1.out.box.free 0
  clear hrow hrd hc HCUT
  clear g0 q0
  obtain ⟨z, hz⟩ : ∃ z, z = Ev.zero := ⟨_, rfl⟩
  have HZ := Lib.hid hz
  have OKZ : Hid z.Ok := Lib.hid (by rw [hz]; exact Ev.zero_ok)
  have HDZ : Hid (DSt w1 z nil0 nil0 (w1.alloc (.cells (Ev.zero.cells nil0 nil0) 32))) := Lib.hid (by rw [hz]; exact HD1.out)
  clear hz
  go_upto_region 31 with (first | ((with_reducible refine wpList_here (.store 32 (.tmp 5) (.tmp 12)) rfl ?_); refine wpList_store_new 32 (.tmp 5) (.tmp 12) rfl _ (Ev.zero.cells nil0 nil0) _ rfl rfl rfl Tryz.infoEv rfl (Ev.oneCell Ev.zero none none 0 0 0 0) rfl rfl ?_))
  refine wp_genT fun W9 hW9 => ?_
  have HD9 : Hid (DSt w1 (z) nil0 nil0 W9) := Lib.hid (by rw [hW9]; exact HDZ.out)
  have HT9 : Hid (RdMZ (w1.heap.size < ·) W9 nil0 (z).txn) := Lib.hid (by rw [hW9]; exact (by rw [HZ.out]; exact RdMZ.nil _ _))
  have HR9 : Hid (RdRZ (w1.heap.size < ·) W9 nil0 (z).reads) := Lib.hid (by rw [hW9]; exact (by rw [HZ.out]; exact RdRZ.nil _ _))
  clear hW9
  obtain ⟨ax, nx, HSX⟩ : ∃ a, ∃ n : Int, Hid ((z).said.1 = a ∧ ((z).said.2 : Int) = n) := ⟨_, _, Lib.hid ⟨rfl, rfl⟩⟩
  have HLX : Hid (Calls Tryz.prog 12 #[(z).val nil0 nil0] W9 fun e w' => e = .returned (.tuple #[.string ⟨ax.toArray⟩, .int .i64 nx]) ∧ Fr W9 w') := Lib.hid (by
    have := rLine_c (z) ((z).val nil0 nil0) W9 ⟨nil0, nil0, rfl, HT9.out.rd, HR9.out.rd⟩ OKZ.out
    unfold StrRet at this
    rw [HSX.out.1, HSX.out.2] at this
    exact this)
  have hBX := HD9.out.box
  have HY0 : Y = (Ev.zero, 4) := by first | exact HYN.out trivial | exact HYN.out trivial | exact HYN.out (by simp)
  subst HY0
  go_wp2_with ((with_reducible refine wpList_here (.load 32 (.tmp 5)) rfl ?_); refine wpList_load_box 32 (.tmp 5) rfl _ rfl _ hBX _ Tryz.underlying32 rfl Tryz.infoEv rfl ?_)
  refine HLX.out.mono ?_
  rintro e w9 ⟨rfl, f9⟩
  have F9 := Lib.hid (FP.out.trans (HD9.out.frm.trans f9))
  have hP9 := HP1.out.fr (HD9.out.frm.trans f9)
  clear f9 hBX
  go_wp2_with ((with_reducible refine wpList_here (.store 32 (.tmp 2) (.tmp 131)) rfl ?_); refine wpList_store_old 32 (.tmp 2) (.tmp 131) rfl w.heap.size _ (Ev.zero.cells nil0 nil0) rfl rfl hP9 Tryz.infoEv rfl (Ev.oneCell Ev.zero none none 0 0 0 0) rfl rfl ?_; intro wA hrl)
  exact bodyPost_ret (v := .tuple #[.agg (Ev.zero.cells nil0 nil0), .int .i64 4]) (results_ev2T rfl _ _ w.heap.size _ _ rfl rfl hrl.box rfl) rfl ⟨nil0, nil0, rfl, RdMZ.nil _ _, RdRZ.nil _ _, hrl.fr F9.out (Nat.le_refl _)⟩
end Go.Proofs.YtfklgaeejmeipaaGreatDoor

/- The document's Parse answers what parseD says. Of any text of at most 20000 bytes. Printed by gen_refparse6.py. -/
namespace Go.Proofs.YtfklgaeejmeipaaGreatDoor
open Go.RowKit
attribute [local go_sem] Oper.semAt_some

set_option maxRecDepth 100000 in
set_option maxHeartbeats 8000000 in
theorem rp_cfg (s : W8) (w : World) (hs : s.length ≤ 20000) {l : List W8} (hal : splitS 32 s = [99, 111, 110, 102, 105, 103] :: l) :
    Calls Tryz.prog 14 #[.string ⟨s.toArray⟩] w (ParseRet w (parseD s)) := by
  obtain ⟨g, bb, hg⟩ : ∃ g b, cfgD l = (g, b) := ⟨_, _, rfl⟩
  have hcd : candD (splitS 32 s) = ({ Ev.zero with kind := 1, cfg := g }, bb) := by rw [hal, candD_cons, if_pos (show ([99, 111, 110, 102, 105, 103] : W8) = kindW 1 from rfl), hg]
  have hmo := cfgD_model l
  rw [hg] at hmo
  simp only at hmo
  have ok : ({ Ev.zero with kind := 1, cfg := g } : Ev).Ok := ⟨(show 1 < 256 by decide), Ev.zero_ok.client, Ev.zero_ok.id, Ev.zero_ok.F, Ev.zero_ok.O, Ev.zero_ok.K, Ev.zero_ok.A, Ev.zero_ok.B, Ev.zero_ok.rk, Ev.zero_ok.rv, Ev.zero_ok.txn, Ev.zero_ok.reads, hmo⟩
  obtain ⟨x, hx⟩ : ∃ x : Ev, x = { Ev.zero with kind := 1, cfg := g } := ⟨_, rfl⟩
  rw [← hx] at hcd ok
  have OKX := Lib.hid ok
  have HX := Lib.hid hx
  have HYY := Lib.hid (fun (hb : bb = true) (h : x.said = (s, 0)) => parseD_yes (by rw [← hb]; exact hcd) h)
  have HYN := Lib.hid (fun h => parseD_no hcd h)
  have hll : l.length ≤ 1000000 := by
    have h1 := splitS_len 32 s
    have h2 : s.count 32 ≤ s.length := List.count_le_length
    rw [hal, List.length_cons] at h1
    omega
  have HCF : Hid (∀ W v, RdS W v l → Calls Tryz.prog 47 #[v] W fun e w' => e = .returned (.tuple #[.agg #[.int .u8 g.model, .int .i64 g.opens, .int .i64 g.states, .int .i64 g.steps, .bool g.part, .bool g.cut, .bool g.memo], .bool bb]) ∧ Fr W w') := Lib.hid (fun W v h => by
    have := config06_c v l W h hll
    rw [hg] at this
    exact this)
  generalize parseD s = Y at HYY HYN ⊢
  clear hcd hmo ok hg hx
  have hwn := splitS_len 32 s
  have hwc : s.count 32 ≤ s.length := List.count_le_length
  have hWS : ∀ v ∈ splitS 32 s, v.length < 1000000 := fun v hv => by have := splitS_short hv; omega
  have HCUT : Hid (∀ W, Calls Tryz.prog 46 #[.string ⟨s.toArray⟩, .int .u8 32] W fun e w' => ∃ v, e = .returned v ∧ RowS W w' v (splitS 32 s)) := Lib.hid (fun W => cut06_c s 32 W (by omega))
  rw [hal] at hwn hWS HCUT
  have HWS := Lib.hid hWS
  have hwb : ([99, 111, 110, 102, 105, 103] :: l).length ≤ 100000 := by omega
  clear hwn hwc hWS hal hs
  go_enter Tryz.func14, Tryz.ntmps14
  go_wp2_with fail
  refine (HCUT.out _).mono ?_
  rintro e w1 ⟨v1, rfl, hrow⟩
  have FP := Lib.hid (((Fr.refl w).alloc (.cells (Ev.zero.cells nil0 nil0) 32)).trans hrow.frm)
  have HP1 : Hid (BoxAt w1 w.heap.size (Ev.zero.cells nil0 nil0) 32) := Lib.hid ((BoxAt.new w (Ev.zero.cells nil0 nil0) 32).fr hrow.frm)
  have hzp := HP1.out.lt
  have hrd := hrow.rd
  obtain ⟨b, off, cap, rfl, hcap, hmax, hb, hc⟩ := hrd.at (k := 0) (by simp)
  have HSUB := Lib.hid (fun m n c h1 h2 => RdS.sub (w := w1) m hcap hmax hb hc n c h1 h2)
  have HC := Lib.hid (fun W (f : Fr w1 W) j u (h : ([99, 111, 110, 102, 105, 103] :: l)[j]? = some u) => f.keep (hc j u h))
  simp only [List.length_cons] at hcap hwb
  unfold maxLen at hmax
  have HD1 := Lib.hid (DSt.new w1)
  have c0 : (w1.alloc (.cells (Ev.zero.cells nil0 nil0) 32)).cell? ⟨b, off + 0, none⟩ = some (.string ⟨([99, 111, 110, 102, 105, 103] : W8).toArray⟩) := HC.out _ HD1.out.frm 0 _ rfl
  rw [Nat.add_zero] at c0
  have q0 : (w1.alloc (.cells (Ev.zero.cells nil0 nil0) 32)).cell? ⟨w1.heap.size, 0, none⟩ = some (.int .u8 0) := HD1.out.box.at 0 rfl
  have g0 := HD1.out.box.free 0
  clear hrow hrd hc HCUT
  have HD2 : Hid (DSt w1 { Ev.zero with kind := 1 } nil0 nil0 (w1.alloc (.cells ((Ev.zero.cells nil0 nil0).setIfInBounds 0 (.int .u8 1)) 32))) := Lib.hid ⟨(Fr.refl w1).alloc _, BoxAt.new w1 _ _⟩
  have hcc : cap = 1 ∨ 1 < cap := by omega
  rcases hcc with rfl | hcc
  all_goals
    go_wp2_with (first | ((with_reducible refine wpList_here (.store 32 (.tmp 5) (.tmp 12)) rfl ?_); refine wpList_store_new 32 (.tmp 5) (.tmp 12) rfl _ (Ev.zero.cells nil0 nil0) _ rfl rfl rfl Tryz.infoEv rfl (Ev.oneCell Ev.zero none none 0 0 0 0) rfl rfl ?_))
    refine (HCF.out _ _ (by first | exact (HSUB.out 1 _ _ (by simp) (by omega)).keep HD2.out.frm | exact RdS.none (by omega) (by omega) (by unfold maxLen; omega))).mono ?_
    rintro e w2 ⟨rfl, f2⟩
    have HD3 := Lib.hid (HD2.out.fr f2)
    clear f2 c0 q0 g0
    have q12 : w2.cell? ⟨w1.heap.size, 12, none⟩ = some (.int .u8 0) := HD3.out.box.at 12 rfl
    have q13 : w2.cell? ⟨w1.heap.size, 13, none⟩ = some (.int .i64 0) := HD3.out.box.at 13 rfl
    have q14 : w2.cell? ⟨w1.heap.size, 14, none⟩ = some (.int .i64 0) := HD3.out.box.at 14 rfl
    have q15 : w2.cell? ⟨w1.heap.size, 15, none⟩ = some (.int .i64 0) := HD3.out.box.at 15 rfl
    have q16 : w2.cell? ⟨w1.heap.size, 16, none⟩ = some (.bool false) := HD3.out.box.at 16 rfl
    have q17 : w2.cell? ⟨w1.heap.size, 17, none⟩ = some (.bool false) := HD3.out.box.at 17 rfl
    have q18 : w2.cell? ⟨w1.heap.size, 18, none⟩ = some (.bool false) := HD3.out.box.at 18 rfl
    have g12 := HD3.out.box.free 12
    have g13 := HD3.out.box.free 13
    have g14 := HD3.out.box.free 14
    have g15 := HD3.out.box.free 15
    have g16 := HD3.out.box.free 16
    have g17 := HD3.out.box.free 17
    have g18 := HD3.out.box.free 18
    have hz2 := HD3.out.box.lt
    have HD4 : Hid (DSt w1 x nil0 nil0 (((((((w2.setCell ⟨w1.heap.size, 12, none⟩ (.int .u8 g.model)).setCell ⟨w1.heap.size, 13, none⟩ (.int .i64 g.opens)).setCell ⟨w1.heap.size, 14, none⟩ (.int .i64 g.states)).setCell ⟨w1.heap.size, 15, none⟩ (.int .i64 g.steps)).setCell ⟨w1.heap.size, 16, none⟩ (.bool g.part)).setCell ⟨w1.heap.size, 17, none⟩ (.bool g.cut)).setCell ⟨w1.heap.size, 18, none⟩ (.bool g.memo))) := Lib.hid (by
      rw [HX.out]
      exact ((((((HD3.out.set (x' := { Ev.zero with kind := 1, cfg := { Cfg.zero with model := g.model } }) (t' := nil0) (r' := nil0) 12 _ rfl).set (x' := { Ev.zero with kind := 1, cfg := { Cfg.zero with model := g.model, opens := g.opens } }) (t' := nil0) (r' := nil0) 13 _ rfl).set (x' := { Ev.zero with kind := 1, cfg := { Cfg.zero with model := g.model, opens := g.opens, states := g.states } }) (t' := nil0) (r' := nil0) 14 _ rfl).set (x' := { Ev.zero with kind := 1, cfg := { Cfg.zero with model := g.model, opens := g.opens, states := g.states, steps := g.steps } }) (t' := nil0) (r' := nil0) 15 _ rfl).set (x' := { Ev.zero with kind := 1, cfg := { Cfg.zero with model := g.model, opens := g.opens, states := g.states, steps := g.steps, part := g.part } }) (t' := nil0) (r' := nil0) 16 _ rfl).set (x' := { Ev.zero with kind := 1, cfg := { Cfg.zero with model := g.model, opens := g.opens, states := g.states, steps := g.steps, part := g.part, cut := g.cut } }) (t' := nil0) (r' := nil0) 17 _ rfl).set (x' := { Ev.zero with kind := 1, cfg := g }) 18 _ rfl)
    cases bb
    · go_upto_region 31 with (fail)
      refine wp_genT fun W9 hW9 => ?_
      have HD9 : Hid (DSt w1 (x) nil0 nil0 W9) := Lib.hid (by rw [hW9]; exact HD4.out)
      have HT9 : Hid (RdMZ (w1.heap.size < ·) W9 nil0 (x).txn) := Lib.hid (by rw [hW9]; exact (by rw [HX.out]; exact RdMZ.nil _ _))
      have HR9 : Hid (RdRZ (w1.heap.size < ·) W9 nil0 (x).reads) := Lib.hid (by rw [hW9]; exact (by rw [HX.out]; exact RdRZ.nil _ _))
      clear hW9
      obtain ⟨ax, nx, HSX⟩ : ∃ a, ∃ n : Int, Hid ((x).said.1 = a ∧ ((x).said.2 : Int) = n) := ⟨_, _, Lib.hid ⟨rfl, rfl⟩⟩
      have HLX : Hid (Calls Tryz.prog 12 #[(x).val nil0 nil0] W9 fun e w' => e = .returned (.tuple #[.string ⟨ax.toArray⟩, .int .i64 nx]) ∧ Fr W9 w') := Lib.hid (by
        have := rLine_c (x) ((x).val nil0 nil0) W9 ⟨nil0, nil0, rfl, HT9.out.rd, HR9.out.rd⟩ OKX.out
        unfold StrRet at this
        rw [HSX.out.1, HSX.out.2] at this
        exact this)
      have hBX := HD9.out.box
      have HY0 : Y = (Ev.zero, 4) := by first | exact HYN.out (.inl rfl) | exact HYN.out trivial | exact HYN.out (by simp)
      subst HY0
      go_wp2_with ((with_reducible refine wpList_here (.load 32 (.tmp 5)) rfl ?_); refine wpList_load_box 32 (.tmp 5) rfl _ rfl _ hBX _ Tryz.underlying32 rfl Tryz.infoEv rfl ?_)
      refine HLX.out.mono ?_
      rintro e w9 ⟨rfl, f9⟩
      have F9 := Lib.hid (FP.out.trans (HD9.out.frm.trans f9))
      have hP9 := HP1.out.fr (HD9.out.frm.trans f9)
      clear f9 hBX
      go_wp2_with ((with_reducible refine wpList_here (.store 32 (.tmp 2) (.tmp 131)) rfl ?_); refine wpList_store_old 32 (.tmp 2) (.tmp 131) rfl w.heap.size _ (Ev.zero.cells nil0 nil0) rfl rfl hP9 Tryz.infoEv rfl (Ev.oneCell Ev.zero none none 0 0 0 0) rfl rfl ?_; intro wA hrl)
      exact bodyPost_ret (v := .tuple #[.agg (Ev.zero.cells nil0 nil0), .int .i64 4]) (results_ev2T rfl _ _ w.heap.size _ _ rfl rfl hrl.box rfl) rfl ⟨nil0, nil0, rfl, RdMZ.nil _ _, RdRZ.nil _ _, hrl.fr F9.out (Nat.le_refl _)⟩
    · go_upto_region 31 with (fail)
      refine wp_genT fun W9 hW9 => ?_
      have HD9 : Hid (DSt w1 (x) nil0 nil0 W9) := Lib.hid (by rw [hW9]; exact HD4.out)
      have HT9 : Hid (RdMZ (w1.heap.size < ·) W9 nil0 (x).txn) := Lib.hid (by rw [hW9]; exact (by rw [HX.out]; exact RdMZ.nil _ _))
      have HR9 : Hid (RdRZ (w1.heap.size < ·) W9 nil0 (x).reads) := Lib.hid (by rw [hW9]; exact (by rw [HX.out]; exact RdRZ.nil _ _))
      clear hW9
      obtain ⟨ax, nx, HSX⟩ : ∃ a, ∃ n : Int, Hid ((x).said.1 = a ∧ ((x).said.2 : Int) = n) := ⟨_, _, Lib.hid ⟨rfl, rfl⟩⟩
      have HLX : Hid (Calls Tryz.prog 12 #[(x).val nil0 nil0] W9 fun e w' => e = .returned (.tuple #[.string ⟨ax.toArray⟩, .int .i64 nx]) ∧ Fr W9 w') := Lib.hid (by
        have := rLine_c (x) ((x).val nil0 nil0) W9 ⟨nil0, nil0, rfl, HT9.out.rd, HR9.out.rd⟩ OKX.out
        unfold StrRet at this
        rw [HSX.out.1, HSX.out.2] at this
        exact this)
      have hBX := HD9.out.box
      go_wp2_with ((with_reducible refine wpList_here (.load 32 (.tmp 5)) rfl ?_); refine wpList_load_box 32 (.tmp 5) rfl _ rfl _ hBX _ Tryz.underlying32 rfl Tryz.infoEv rfl ?_)
      refine HLX.out.mono ?_
      rintro e w10 ⟨rfl, f10⟩
      have HD10 := Lib.hid (HD9.out.fr f10)
      have HT10 := Lib.hid (HT9.out.fr f10)
      have HR10 := Lib.hid (HR9.out.fr f10)
      have F10 := Lib.hid (FP.out.trans HD10.out.frm)
      have hP10 := HP1.out.fr HD10.out.frm
      have hB10 := HD10.out.box
      clear f10 hBX HLX
      by_cases hsd : (x).said = (s, 0)
      · have hY : Y = ((x), 0) := by first | exact HYY.out hsd | exact HYY.out trivial hsd | exact HYY.out rfl hsd
        subst hY
        have hsx := HSX.out
        rw [hsd] at hsx
        obtain ⟨h1, h2⟩ : s = ax ∧ (0 : Int) = nx := hsx
        subst h1 h2
        clear hsd HSX HYN HYY
        go_wp2_with (first | ((with_reducible refine wpList_here (.load 32 (.tmp 5)) rfl ?_); refine wpList_load_box 32 (.tmp 5) rfl _ rfl _ hB10 _ Tryz.underlying32 rfl Tryz.infoEv rfl ?_) | ((with_reducible refine wpList_here (.store 32 (.tmp 2) (.tmp 132)) rfl ?_); refine wpList_store_old 32 (.tmp 2) (.tmp 132) rfl w.heap.size _ _ rfl rfl hP10 Tryz.infoEv rfl (Ev.oneCell (x) _ _ _ _ _ _) rfl rfl ?_; intro wA hrl))
        have hK : ∀ b, w1.heap.size < b → b < w10.heap.size → wA.heap[b]? = w10.heap[b]? := fun b hz _ => hrl.other b (by omega)
        exact bodyPost_ret (v := .tuple #[.agg ((x).cells nil0 nil0), .int .i64 0]) (results_ev2T rfl _ _ w.heap.size _ _ rfl rfl hrl.box rfl) rfl ⟨_, _, rfl, (HT10.out.keep (Nat.le_of_eq hrl.size.symm) hK).mono fun b (hz : w1.heap.size < b) => (by have := FP.out.size; show w.heap.size ≤ b; omega), (HR10.out.keep (Nat.le_of_eq hrl.size.symm) hK).mono fun b (hz : w1.heap.size < b) => (by have := FP.out.size; show w.heap.size ≤ b; omega), hrl.fr F10.out (Nat.le_refl _)⟩
      · have hY : Y = (Ev.zero, 4) := by first | exact HYN.out hsd | exact HYN.out (.inr hsd) | exact HYN.out (by simp [hsd])
        subst hY
        have hsx := HSX.out
        clear HYN HYY hB10
        unfold Ev.said at hsd hsx
        cases hmy : (x).may
        · rw [hmy] at hsx
          obtain ⟨h1, h2⟩ : [] = ax ∧ (4 : Int) = nx := hsx
          subst h1 h2
          clear hsd hmy HSX
          go_wp2_with ((with_reducible refine wpList_here (.store 32 (.tmp 2) (.tmp 131)) rfl ?_); refine wpList_store_old 32 (.tmp 2) (.tmp 131) rfl w.heap.size _ (Ev.zero.cells nil0 nil0) rfl rfl hP10 Tryz.infoEv rfl (Ev.oneCell Ev.zero none none 0 0 0 0) rfl rfl ?_; intro wA hrl)
          exact bodyPost_ret (v := .tuple #[.agg (Ev.zero.cells nil0 nil0), .int .i64 4]) (results_ev2T rfl _ _ w.heap.size _ _ rfl rfl hrl.box rfl) rfl ⟨nil0, nil0, rfl, RdMZ.nil _ _, RdRZ.nil _ _, hrl.fr F10.out (Nat.le_refl _)⟩
        · rw [hmy] at hsx hsd
          obtain ⟨h1, h2⟩ : (x).line = ax ∧ (0 : Int) = nx := hsx
          subst h1 h2
          have hne : ¬ (x).line = s := fun e => hsd (by rw [e]; rfl)
          clear hsd hmy HSX
          generalize (x).line = q at hne ⊢
          have n1 : (q == s) = false := by simpa using hne
          have n2 : (q != s) = true := by simpa using hne
          clear hne
          go_wp2_with ((with_reducible refine wpList_here (.store 32 (.tmp 2) (.tmp 131)) rfl ?_); refine wpList_store_old 32 (.tmp 2) (.tmp 131) rfl w.heap.size _ (Ev.zero.cells nil0 nil0) rfl rfl hP10 Tryz.infoEv rfl (Ev.oneCell Ev.zero none none 0 0 0 0) rfl rfl ?_; intro wA hrl)
          exact bodyPost_ret (v := .tuple #[.agg (Ev.zero.cells nil0 nil0), .int .i64 4]) (results_ev2T rfl _ _ w.heap.size _ _ rfl rfl hrl.box rfl) rfl ⟨nil0, nil0, rfl, RdMZ.nil _ _, RdRZ.nil _ _, hrl.fr F10.out (Nat.le_refl _)⟩
set_option maxRecDepth 100000 in
set_option maxHeartbeats 8000000 in
theorem rp_bad (s : W8) (w : World) (hs : s.length ≤ 20000) {w0 a b : W8} {r : List W8} (hal : splitS 32 s = w0 :: a :: b :: r) (hw : w0 ≠ kindW 1) (h : ¬ ((0 ≤ smallD a ∧ smallD a < 16) ∧ 0 ≤ smallD b)) :
    Calls Tryz.prog 14 #[.string ⟨s.toArray⟩] w (ParseRet w (parseD s)) := by
  have hcd : candD (splitS 32 s) = (Ev.zero, false) := by rw [hal, candD_cons, if_neg hw]; simp only; rw [if_neg h]
  have HYN : Hid (∀ _ : True, parseD s = (.zero, 4)) := Lib.hid (fun _ => parseD_no hcd (.inl rfl))
  have n1 : (w0 == [99, 111, 110, 102, 105, 103]) = false := by simpa [kindW] using hw
  generalize parseD s = Y at HYN ⊢
  have hga := smallD_ge a
  have hgb := smallD_ge b
  have HA := Lib.hid (fun W => small06_c a W)
  have HB := Lib.hid (fun W => small06_c b W)
  generalize smallD a = sa at HA h hga
  generalize smallD b = sb at HB h hgb
  have hcase : sa < 0 ∨ (0 ≤ sa ∧ ¬ sa < 16) ∨ (0 ≤ sa ∧ sa < 16 ∧ sb < 0) := by omega
  clear hw hcd h hga hgb
  have hwn := splitS_len 32 s
  have hwc : s.count 32 ≤ s.length := List.count_le_length
  have hWS : ∀ v ∈ splitS 32 s, v.length < 1000000 := fun v hv => by have := splitS_short hv; omega
  have HCUT : Hid (∀ W, Calls Tryz.prog 46 #[.string ⟨s.toArray⟩, .int .u8 32] W fun e w' => ∃ v, e = .returned v ∧ RowS W w' v (splitS 32 s)) := Lib.hid (fun W => cut06_c s 32 W (by omega))
  rw [hal] at hwn hWS HCUT
  have HWS := Lib.hid hWS
  have hwb : (w0 :: (a :: b :: r)).length ≤ 100000 := by omega
  clear hwn hwc hWS hal hs
  go_enter Tryz.func14, Tryz.ntmps14
  go_wp2_with fail
  refine (HCUT.out _).mono ?_
  rintro e w1 ⟨v1, rfl, hrow⟩
  have FP := Lib.hid (((Fr.refl w).alloc (.cells (Ev.zero.cells nil0 nil0) 32)).trans hrow.frm)
  have HP1 : Hid (BoxAt w1 w.heap.size (Ev.zero.cells nil0 nil0) 32) := Lib.hid ((BoxAt.new w (Ev.zero.cells nil0 nil0) 32).fr hrow.frm)
  have hzp := HP1.out.lt
  have hrd := hrow.rd
  obtain ⟨bb, off, cap, rfl, hcap, hmax, hb, hc⟩ := hrd.at (k := 0) (by simp)
  have HSUB := Lib.hid (fun m n c h1 h2 => RdS.sub (w := w1) m hcap hmax hb hc n c h1 h2)
  have HC := Lib.hid (fun W (f : Fr w1 W) j u (h : (w0 :: (a :: b :: r))[j]? = some u) => f.keep (hc j u h))
  simp only [List.length_cons] at hcap hwb
  unfold maxLen at hmax
  have HD1 := Lib.hid (DSt.new w1)
  have c0 : (w1.alloc (.cells (Ev.zero.cells nil0 nil0) 32)).cell? ⟨bb, off + 0, none⟩ = some (.string ⟨(w0 : W8).toArray⟩) := HC.out _ HD1.out.frm 0 _ rfl
  have c1 : (w1.alloc (.cells (Ev.zero.cells nil0 nil0) 32)).cell? ⟨bb, off + 1, none⟩ = some (.string ⟨(a : W8).toArray⟩) := HC.out _ HD1.out.frm 1 _ rfl
  have c2 : (w1.alloc (.cells (Ev.zero.cells nil0 nil0) 32)).cell? ⟨bb, off + 2, none⟩ = some (.string ⟨(b : W8).toArray⟩) := HC.out _ HD1.out.frm 2 _ rfl
  rw [Nat.add_zero] at c0
  have q0 : (w1.alloc (.cells (Ev.zero.cells nil0 nil0) 32)).cell? ⟨w1.heap.size, 0, none⟩ = some (.int .u8 0) := HD1.out.box.at 0 rfl
  have g0 := HD1.out.box.free 0
  clear hrow hrd hc HCUT
  clear g0 q0
  obtain ⟨z, hz⟩ : ∃ z, z = Ev.zero := ⟨_, rfl⟩
  have HZ := Lib.hid hz
  have OKZ : Hid z.Ok := Lib.hid (by rw [hz]; exact Ev.zero_ok)
  have HDZ : Hid (DSt w1 z nil0 nil0 (w1.alloc (.cells (Ev.zero.cells nil0 nil0) 32))) := Lib.hid (by rw [hz]; exact HD1.out)
  clear hz
  go_wp2_with (first | ((with_reducible refine wpList_here (.store 32 (.tmp 5) (.tmp 12)) rfl ?_); refine wpList_store_new 32 (.tmp 5) (.tmp 12) rfl _ (Ev.zero.cells nil0 nil0) _ rfl rfl rfl Tryz.infoEv rfl (Ev.oneCell Ev.zero none none 0 0 0 0) rfl rfl ?_))
  refine (HA.out _).mono ?_
  rintro e w2 ⟨rfl, f2⟩
  have HDY := Lib.hid (HDZ.out.fr f2)
  have d1 := HC.out w2 HDY.out.frm 1 _ rfl
  have d2 := HC.out w2 HDY.out.frm 2 _ rfl
  clear f2 c0 c1 c2 HDZ
  rcases hcase with h | ⟨h, h'⟩ | ⟨h, h', h''⟩
  · go_upto_region 31 with (fail)
    refine wp_genT fun W9 hW9 => ?_
    have HD9 : Hid (DSt w1 (z) nil0 nil0 W9) := Lib.hid (by rw [hW9]; exact HDY.out)
    have HT9 : Hid (RdMZ (w1.heap.size < ·) W9 nil0 (z).txn) := Lib.hid (by rw [hW9]; exact (by rw [HZ.out]; exact RdMZ.nil _ _))
    have HR9 : Hid (RdRZ (w1.heap.size < ·) W9 nil0 (z).reads) := Lib.hid (by rw [hW9]; exact (by rw [HZ.out]; exact RdRZ.nil _ _))
    clear hW9
    obtain ⟨ax, nx, HSX⟩ : ∃ a, ∃ n : Int, Hid ((z).said.1 = a ∧ ((z).said.2 : Int) = n) := ⟨_, _, Lib.hid ⟨rfl, rfl⟩⟩
    have HLX : Hid (Calls Tryz.prog 12 #[(z).val nil0 nil0] W9 fun e w' => e = .returned (.tuple #[.string ⟨ax.toArray⟩, .int .i64 nx]) ∧ Fr W9 w') := Lib.hid (by
      have := rLine_c (z) ((z).val nil0 nil0) W9 ⟨nil0, nil0, rfl, HT9.out.rd, HR9.out.rd⟩ OKZ.out
      unfold StrRet at this
      rw [HSX.out.1, HSX.out.2] at this
      exact this)
    have hBX := HD9.out.box
    have HY0 : Y = (Ev.zero, 4) := by first | exact HYN.out trivial | exact HYN.out trivial | exact HYN.out (by simp)
    subst HY0
    go_wp2_with ((with_reducible refine wpList_here (.load 32 (.tmp 5)) rfl ?_); refine wpList_load_box 32 (.tmp 5) rfl _ rfl _ hBX _ Tryz.underlying32 rfl Tryz.infoEv rfl ?_)
    refine HLX.out.mono ?_
    rintro e w9 ⟨rfl, f9⟩
    have F9 := Lib.hid (FP.out.trans (HD9.out.frm.trans f9))
    have hP9 := HP1.out.fr (HD9.out.frm.trans f9)
    clear f9 hBX
    go_wp2_with ((with_reducible refine wpList_here (.store 32 (.tmp 2) (.tmp 131)) rfl ?_); refine wpList_store_old 32 (.tmp 2) (.tmp 131) rfl w.heap.size _ (Ev.zero.cells nil0 nil0) rfl rfl hP9 Tryz.infoEv rfl (Ev.oneCell Ev.zero none none 0 0 0 0) rfl rfl ?_; intro wA hrl)
    exact bodyPost_ret (v := .tuple #[.agg (Ev.zero.cells nil0 nil0), .int .i64 4]) (results_ev2T rfl _ _ w.heap.size _ _ rfl rfl hrl.box rfl) rfl ⟨nil0, nil0, rfl, RdMZ.nil _ _, RdRZ.nil _ _, hrl.fr F9.out (Nat.le_refl _)⟩
  · go_wp2_with fail
    refine (HA.out _).mono ?_
    rintro e w3 ⟨rfl, f3⟩
    have HDX := Lib.hid (HDY.out.fr f3)
    clear f3 d1 d2 HDY
    go_upto_region 31 with (fail)
    refine wp_genT fun W9 hW9 => ?_
    have HD9 : Hid (DSt w1 (z) nil0 nil0 W9) := Lib.hid (by rw [hW9]; exact HDX.out)
    have HT9 : Hid (RdMZ (w1.heap.size < ·) W9 nil0 (z).txn) := Lib.hid (by rw [hW9]; exact (by rw [HZ.out]; exact RdMZ.nil _ _))
    have HR9 : Hid (RdRZ (w1.heap.size < ·) W9 nil0 (z).reads) := Lib.hid (by rw [hW9]; exact (by rw [HZ.out]; exact RdRZ.nil _ _))
    clear hW9
    obtain ⟨ax, nx, HSX⟩ : ∃ a, ∃ n : Int, Hid ((z).said.1 = a ∧ ((z).said.2 : Int) = n) := ⟨_, _, Lib.hid ⟨rfl, rfl⟩⟩
    have HLX : Hid (Calls Tryz.prog 12 #[(z).val nil0 nil0] W9 fun e w' => e = .returned (.tuple #[.string ⟨ax.toArray⟩, .int .i64 nx]) ∧ Fr W9 w') := Lib.hid (by
      have := rLine_c (z) ((z).val nil0 nil0) W9 ⟨nil0, nil0, rfl, HT9.out.rd, HR9.out.rd⟩ OKZ.out
      unfold StrRet at this
      rw [HSX.out.1, HSX.out.2] at this
      exact this)
    have hBX := HD9.out.box
    have HY0 : Y = (Ev.zero, 4) := by first | exact HYN.out trivial | exact HYN.out trivial | exact HYN.out (by simp)
    subst HY0
    go_wp2_with ((with_reducible refine wpList_here (.load 32 (.tmp 5)) rfl ?_); refine wpList_load_box 32 (.tmp 5) rfl _ rfl _ hBX _ Tryz.underlying32 rfl Tryz.infoEv rfl ?_)
    refine HLX.out.mono ?_
    rintro e w9 ⟨rfl, f9⟩
    have F9 := Lib.hid (FP.out.trans (HD9.out.frm.trans f9))
    have hP9 := HP1.out.fr (HD9.out.frm.trans f9)
    clear f9 hBX
    go_wp2_with ((with_reducible refine wpList_here (.store 32 (.tmp 2) (.tmp 131)) rfl ?_); refine wpList_store_old 32 (.tmp 2) (.tmp 131) rfl w.heap.size _ (Ev.zero.cells nil0 nil0) rfl rfl hP9 Tryz.infoEv rfl (Ev.oneCell Ev.zero none none 0 0 0 0) rfl rfl ?_; intro wA hrl)
    exact bodyPost_ret (v := .tuple #[.agg (Ev.zero.cells nil0 nil0), .int .i64 4]) (results_ev2T rfl _ _ w.heap.size _ _ rfl rfl hrl.box rfl) rfl ⟨nil0, nil0, rfl, RdMZ.nil _ _, RdRZ.nil _ _, hrl.fr F9.out (Nat.le_refl _)⟩
  · go_wp2_with fail
    refine (HA.out _).mono ?_
    rintro e w3 ⟨rfl, f3⟩
    have HDX := Lib.hid (HDY.out.fr f3)
    have e2 := HC.out w3 HDX.out.frm 2 _ rfl
    clear f3 d1 d2 HDY
    go_wp2_with fail
    refine (HB.out _).mono ?_
    rintro e w4 ⟨rfl, f4⟩
    have HDW := Lib.hid (HDX.out.fr f4)
    clear f4 e2 HDX
    go_upto_region 31 with (fail)
    refine wp_genT fun W9 hW9 => ?_
    have HD9 : Hid (DSt w1 (z) nil0 nil0 W9) := Lib.hid (by rw [hW9]; exact HDW.out)
    have HT9 : Hid (RdMZ (w1.heap.size < ·) W9 nil0 (z).txn) := Lib.hid (by rw [hW9]; exact (by rw [HZ.out]; exact RdMZ.nil _ _))
    have HR9 : Hid (RdRZ (w1.heap.size < ·) W9 nil0 (z).reads) := Lib.hid (by rw [hW9]; exact (by rw [HZ.out]; exact RdRZ.nil _ _))
    clear hW9
    obtain ⟨ax, nx, HSX⟩ : ∃ a, ∃ n : Int, Hid ((z).said.1 = a ∧ ((z).said.2 : Int) = n) := ⟨_, _, Lib.hid ⟨rfl, rfl⟩⟩
    have HLX : Hid (Calls Tryz.prog 12 #[(z).val nil0 nil0] W9 fun e w' => e = .returned (.tuple #[.string ⟨ax.toArray⟩, .int .i64 nx]) ∧ Fr W9 w') := Lib.hid (by
      have := rLine_c (z) ((z).val nil0 nil0) W9 ⟨nil0, nil0, rfl, HT9.out.rd, HR9.out.rd⟩ OKZ.out
      unfold StrRet at this
      rw [HSX.out.1, HSX.out.2] at this
      exact this)
    have hBX := HD9.out.box
    have HY0 : Y = (Ev.zero, 4) := by first | exact HYN.out trivial | exact HYN.out trivial | exact HYN.out (by simp)
    subst HY0
    go_wp2_with ((with_reducible refine wpList_here (.load 32 (.tmp 5)) rfl ?_); refine wpList_load_box 32 (.tmp 5) rfl _ rfl _ hBX _ Tryz.underlying32 rfl Tryz.infoEv rfl ?_)
    refine HLX.out.mono ?_
    rintro e w9 ⟨rfl, f9⟩
    have F9 := Lib.hid (FP.out.trans (HD9.out.frm.trans f9))
    have hP9 := HP1.out.fr (HD9.out.frm.trans f9)
    clear f9 hBX
    go_wp2_with ((with_reducible refine wpList_here (.store 32 (.tmp 2) (.tmp 131)) rfl ?_); refine wpList_store_old 32 (.tmp 2) (.tmp 131) rfl w.heap.size _ (Ev.zero.cells nil0 nil0) rfl rfl hP9 Tryz.infoEv rfl (Ev.oneCell Ev.zero none none 0 0 0 0) rfl rfl ?_; intro wA hrl)
    exact bodyPost_ret (v := .tuple #[.agg (Ev.zero.cells nil0 nil0), .int .i64 4]) (results_ev2T rfl _ _ w.heap.size _ _ rfl rfl hrl.box rfl) rfl ⟨nil0, nil0, rfl, RdMZ.nil _ _, RdRZ.nil _ _, hrl.fr F9.out (Nat.le_refl _)⟩
end Go.Proofs.YtfklgaeejmeipaaGreatDoor
