/- text.Parse answers what parseLn says. Of any text of at most 20000 bytes; the tables' content. -/
import Derived.Test.YtfklgaeejmeipaaGreatDoorPTxtWdH
import Derived.Test.YtfklgaeejmeipaaGreatDoorPTxtLine
import Derived.Test.YtfklgaeejmeipaaGreatDoorPTxtLen
import Derived.Test.YtfklgaeejmeipaaGreatDoorPEvSame
import Derived.Test.YtfklgaeejmeipaaGreatDoorPEvCheck
import Derived.Great.BuildSlice
import Derived.OwnWalk
set_option linter.all false
set_option linter.unusedVariables false
set_option linter.unusedSimpArgs false
set_option linter.unnecessarySimpa false
/- text.Parse answers what parseLn says. Of any text of at most 20000 bytes; the tables' content. -/
namespace Go.Proofs.YtfklgaeejmeipaaGreatDoor
open Go.RowKit
attribute [local go_sem] Oper.semAt_some

/-- What Parse leaves: the event and the error; what the event leads to is new. -/
def ParseRet (w : World) (y : Ev × Nat) (e : Ending) (w' : World) : Prop := ∃ t r, e = .returned (.tuple #[y.1.val t r, .int .i64 y.2]) ∧ RdMZ (w.heap.size ≤ ·) w' t y.1.txn ∧ RdRZ (w.heap.size ≤ ·) w' r y.1.reads ∧ Fr w w'
theorem results_ev2c {fn : Func} {p r : Tmp} (h : fn.results = #[.cell p 32, .cell r 35]) (tmps : Array Value) (w : World) (g q : Nat) (c : Array Value) (v : Value) (hp : tmps.getD p undef = .pointer (some ⟨g, 0, none⟩)) (hr : tmps.getD r undef = .pointer (some ⟨q, 0, none⟩)) (hB : BoxAt w g c 32) (hq : BoxAt w q #[v] 35) (hc : c.size = 19) :
    (results fn tmps).run Tryz.prog w = .ok (.tuple #[.agg c, v]) w := by
  have hp' : tmps[p]?.getD undef = .pointer (some ⟨g, 0, none⟩) := by simpa using hp
  have hr' : tmps[r]?.getD undef = .pointer (some ⟨q, 0, none⟩) := by simpa using hr
  have hl := run_loadVar_row (P := Tryz.prog) w g 32 32 c (0, 0) _ hB Tryz.underlying32 rfl (by rw [hc]; exact Tryz.infoEv)
  have c0 := hq.at 0 (show (#[v] : Array Value)[0]? = some v from rfl)
  have hl2 : (loadVar 35 ⟨q, 0, none⟩).run Tryz.prog w = .ok v w := by simp [go_sem, c0]
  simp [results, h, hp', hr', asAddr, hl, hl2]
/-- The frame's two results, as they stand. -/
structure ParBox (w : World) (x : Ev) (t r : Value) (n : Nat) (W : World) : Prop where
  ev : BoxAt W w.heap.size (x.cells t r) 32
  er : BoxAt W (w.heap.size + 1) #[.int .i64 n] 35
  frm : Fr w W
theorem ParBox.fr {w W W' : World} {x : Ev} {t r : Value} {n : Nat} (h : ParBox w x t r n W) (f : Fr W W') : ParBox w x t r n W' := ⟨h.ev.fr f, h.er.fr f, h.frm.trans f⟩
theorem ParBox.new (w : World) : ParBox w Ev.zero nil0 nil0 0 ((w.alloc (.cells (Ev.zero.cells nil0 nil0) 32)).alloc (.cells #[.int .i64 0] 35)) :=
  ⟨(BoxAt.new w _ _).alloc _, by simpa using BoxAt.new (w.alloc (.cells (Ev.zero.cells nil0 nil0) 32)) #[.int .i64 0] 35, ((Fr.refl w).alloc _).alloc _⟩
/-- The door, where the body gave up. -/
theorem door_wrong {w W : World} {tmps : Array Value} (h : ParBox w Ev.zero nil0 nil0 0 W) (h2 : tmps.getD 2 undef = .pointer (some ⟨w.heap.size, 0, none⟩)) (h3 : tmps.getD 3 undef = .pointer (some ⟨w.heap.size + 1, 0, none⟩)) :
    Leaves Tryz.prog Tryz.f13 tmps (ParseRet w (.zero, 4)) [{ target := .fn (.func 42) #[.pointer (some ⟨w.heap.size, 0, none⟩), .pointer (some ⟨w.heap.size + 1, 0, none⟩)], args := #[] }] (.panicking wrongP) W := by
  refine leaves_cons (f := 42) (args := #[.pointer (some ⟨w.heap.size, 0, none⟩), .pointer (some ⟨w.heap.size + 1, 0, none⟩)]) (by simp) (by simp [go_sem]) ?_
  refine (catch_wrong W h.ev h.er (by omega)).mono ?_
  rintro e u' w'' ⟨rfl, rfl, hp', hq', hN⟩
  exact ⟨_, results_ev2c rfl tmps w'' _ _ _ _ h2 h3 hp' hq' rfl, nil0, nil0, rfl, RdMZ.nil _ _, RdRZ.nil _ _, hN w h.frm (Nat.le_refl _) (Nat.le_succ _)⟩
/-- The door, where the body has an answer. -/
theorem door_idle {w W : World} {tmps : Array Value} {x : Ev} {t r : Value} {n : Nat} (h : ParBox w x t r n W) (ht : RdMZ (w.heap.size ≤ ·) W t x.txn) (hr : RdRZ (w.heap.size ≤ ·) W r x.reads) (h2 : tmps.getD 2 undef = .pointer (some ⟨w.heap.size, 0, none⟩)) (h3 : tmps.getD 3 undef = .pointer (some ⟨w.heap.size + 1, 0, none⟩)) :
    Leaves Tryz.prog Tryz.f13 tmps (ParseRet w (x, n)) [{ target := .fn (.func 42) #[.pointer (some ⟨w.heap.size, 0, none⟩), .pointer (some ⟨w.heap.size + 1, 0, none⟩)], args := #[] }] .returning W := by
  refine leaves_cons (f := 42) (args := #[.pointer (some ⟨w.heap.size, 0, none⟩), .pointer (some ⟨w.heap.size + 1, 0, none⟩)]) (by simp) (by simp [go_sem]) ?_
  refine (catch_idle _ _ W).mono ?_
  rintro e u' w'' ⟨rfl, rfl, rfl⟩
  exact ⟨_, results_ev2c rfl tmps w'' _ _ _ _ h2 h3 h.ev h.er rfl, t, r, rfl, ht, hr, h.frm⟩
theorem kindOfT_hit {s : W8} {k : Nat} (h0 : 0 < k) (h : kindW k = s) : kindOfT s (k + 1) = k := by unfold kindOfT; rw [if_pos ⟨h0, h⟩]
theorem kindOfT_miss {s : W8} {k : Nat} (h : ¬ (0 < k ∧ kindW k = s)) : kindOfT s (k + 1) = kindOfT s k := by conv => lhs; unfold kindOfT; rw [if_neg h]
/-- Parts of a text: few and short, whatever of them is joined. -/
theorem parts_short {s : W8} (hs : s.length ≤ 20000) {a : W8} {l : List W8} (h : splitS 32 s = a :: l) : (∀ v ∈ l, v.length < 100000) ∧ l.length < 1000000 ∧ ∀ p m, l = p ++ m → (Lib.join m [32]).length < 1000000 := by
  have h1 := splitS_len 32 s
  have h2 : s.count 32 ≤ s.length := List.count_le_length
  have h3 : ∀ v ∈ l, v.length ≤ s.length := fun v hv => splitS_short (c := 32) (by rw [h]; exact List.mem_cons_of_mem _ hv)
  have hj := joinS_split 32 s
  rw [h] at h1
  simp only [List.length_cons] at h1
  refine ⟨fun v hv => by have := h3 v hv; omega, by omega, fun p m e => ?_⟩
  have hle : ∀ (q r : List W8), (joinS 32 r).length ≤ (joinS 32 (q ++ r)).length := by
    intro q r
    induction q with
    | nil => exact Nat.le_refl _
    | cons u q ih =>
      by_cases hq : q ++ r = []
      · rw [(List.append_eq_nil_iff.1 hq).2]; simp [joinS]
      · rw [List.cons_append, joinS_cons 32 u hq, List.length_append, List.length_cons]; omega
  have := hle (a :: p) m
  rw [List.cons_append, ← e, ← h, hj] at this
  rw [join_is]
  omega
theorem parseLn_a0 {s a : W8} {l : List W8} (hal : splitS 32 s = a :: l) (h : kindOfT a 8 = 0) : parseLn s = (.zero, 4) := by unfold parseLn; rw [hal, wordsN, if_pos h]
theorem parseLn_a1 {s a : W8} {l : List W8} (hal : splitS 32 s = a :: l) (h0 : kindOfT a 8 ≠ 0) (h : restN (kindOfT a 8) l = none) : parseLn s = (.zero, 4) := by unfold parseLn; rw [hal, wordsN, if_neg h0, h]
theorem parseLn_a2 {s a : W8} {l : List W8} {x : Ev} (hal : splitS 32 s = a :: l) (h0 : kindOfT a 8 ≠ 0) (h : restN (kindOfT a 8) l = some x) : parseLn s = if x.said = (s, 0) then (x, 0) else (.zero, 4) := by unfold parseLn; rw [hal, wordsN, if_neg h0, h]
theorem wd_list (v : Value) (x : Ev) (t r : Value) : (wdCells v x t r).toList = v :: (x.cells t r).toList := rfl
theorem rangeAt_wd {w : World} {B : Nat} {v t r : Value} {x : Ev} (h : BoxAt w B (wdCells v x t r) 80) : w.rangeAt B 1 (x.cells t r).toList := fun j u hj => by
  rw [h.cell, ← Array.getElem?_toList, wd_list, Nat.add_comm, List.getElem?_cons_succ]
  exact hj
set_option maxRecDepth 100000 in
set_option maxHeartbeats 4000000 in
theorem Parse_txt (s : W8) (w : World) (hE : EnvT w) (hs : s.length ≤ 20000) : Calls Tryz.prog 13 #[.string ⟨s.toArray⟩] w (ParseRet w (parseLn s)) := by
  have hmf : ∀ (fn : Fn) (first cap : Array Value) (w : World), (Instr.makeFunc fn first cap).run Tryz.prog w = .ok (.func fn first cap) w := fun _ _ _ _ => rfl
  obtain ⟨a, l, hal⟩ : ∃ a l, splitS 32 s = a :: l := by
    cases h : splitS 32 s with
    | nil => exact absurd h (splitS_ne 32 s)
    | cons a l => exact ⟨a, l, rfl⟩
  have HPS := Lib.hid (parts_short hs hal)
  have HP0 := Lib.hid (fun h => parseLn_a0 hal h)
  have HP1 := Lib.hid (fun h0 h => parseLn_a1 hal h0 h)
  have HP2 := Lib.hid (fun x h0 h => parseLn_a2 (x := x) hal h0 h)
  have HOK := Lib.hid (fun x (h : restN (kindOfT a 8) l = some x) => restN_ok (by have := kindOfT_le a 8; omega) h)
  have H0 := Lib.hid (ParBox.new w)
  have HSP := Lib.hid (fun W (f : Fr w W) => SplitC_c 32 s W (hE.keep f).toEnv0 (by omega))
  rw [hal] at HSP
  have HEN := Lib.hid hE
  generalize parseLn s = Y at HP0 HP1 HP2 ⊢
  clear hs hE hal
  go_enter_defers Tryz.func13, Tryz.ntmps13
  go_wp2_with fail
  refine (HSP.out _ H0.out.frm).mono ?_
  rintro e w1 ⟨v, rfl, hrow⟩
  have H1 := Lib.hid (H0.out.fr hrow.frm)
  have hrd := hrow.rd
  have HWD : Hid (WdAt w1 (w1.alloc (.cells (wdCells v Ev.zero nil0 nil0) 80)) w1.heap.size v (a :: l) Ev.zero nil0 nil0) := Lib.hid ⟨(Fr.refl w1).alloc _, Nat.le_refl _, BoxAt.new w1 _ _, hrd⟩
  obtain ⟨va, vc, rfl, _, _⟩ := hrd.form
  clear hrow hrd H0 HSP
  have HTK := Lib.hid (take_c HWD.out)
  go_wp2_with fail
  refine HTK.out.mono ?_
  rintro e w2 ⟨rfl, v2, hw2, _⟩
  have HW2 := Lib.hid hw2
  clear hw2 HTK HWD
  go_wp2_with fail
  have hlt1 : w.heap.size + 1 < w1.heap.size := H1.out.er.lt
  go_loopw [16] (fun i wr => ∃ k : Nat, k ≤ 8 ∧ i = .int .i64 k ∧ WdAt w1 wr w1.heap.size v2 l { Ev.zero with kind := kindOfT a k } nil0 nil0) (fun i _ => 8 - (intOf i).toNat)
  case atStart => exact ⟨0, by omega, rfl, HW2.out⟩
  case round =>
    clear HW2
    obtain ⟨k, hk, rfl, hwd⟩ := hrel
    have HWD := Lib.hid hwd
    have hz := hwd.box.lt
    have c1 : wr.cell? ⟨w1.heap.size, 1, none⟩ = some (.int .u8 (kindOfT a k)) := hwd.box.at 1 rfl
    have g1 := hwd.box.free 1
    by_cases hlt : k < 8
    · have c0 := (HEN.out.keep (H1.out.frm.trans hwd.frm)).kindsT k hlt
      have hwk : IntKind.u8.wrap (k : Int) = k := by simp [IntKind.wrap, IntKind.bits, IntKind.signed]; omega
      by_cases hkh : kindW k = a
      · rw [hkh] at c0
        by_cases h0 : 0 < k
        · have HK := Lib.hid (kindOfT_hit h0 hkh)
          have h0i : (0 : Int) < (k : Int) := by omega
          have k3 : Oth w1.heap.size wr (wr.setCell ⟨w1.heap.size, 1, none⟩ (.int .u8 (k : Nat))) := (Oth.refl _ wr).set 1 _
          have HN : Hid (WdAt w1 (wr.setCell ⟨w1.heap.size, 1, none⟩ (.int .u8 (k : Nat))) w1.heap.size v2 l { Ev.zero with kind := k } nil0 nil0) := Lib.hid ⟨k3.fr hwd.frm hwd.ge, hwd.ge, hwd.box.setAt 1 (.int .u8 (k : Nat)), hwd.rd⟩
          clear hwd k3 hkh
          go_wp2_with fail
          go_roundw
          case rel => exact ⟨k + 1, by omega, by go_num, by rw [HK.out]; exact HN.out⟩
          case measure => simp [intOf]; omega
        · have HK := Lib.hid (kindOfT_miss (s := a) (k := k) fun h => h0 h.1)
          have h0i : ¬ (0 : Int) < (k : Int) := by omega
          clear hwd hkh h0
          go_wp2_with fail
          go_roundw
          case rel => exact ⟨k + 1, by omega, by go_num, by rw [HK.out]; exact HWD.out⟩
          case measure => simp [intOf]; omega
      · have HK := Lib.hid (kindOfT_miss (s := a) (k := k) fun h => hkh h.2)
        generalize kindW k = q at c0 hkh
        have n1 : (q == a) = false := by simpa using hkh
        clear hwd hkh
        go_wp2_with fail
        go_roundw
        case rel => exact ⟨k + 1, by omega, by go_num, by rw [HK.out]; exact HWD.out⟩
        case measure => simp [intOf]; omega
    · have hk8 : k = 8 := by omega
      subst hk8
      have hk7 := kindOfT_le a 8
      have H9 := Lib.hid (H1.out.fr hwd.frm)
      clear hwd hlt hk
      generalize kindOfT a 8 = kk at HP0 HP1 HP2 HOK HWD c1 hk7
      by_cases h0 : kk = 0
      · subst h0
        have hY := HP0.out rfl
        subst hY
        clear HP0 HP1 HP2
        go_wp2_with fail
        exact door_wrong H9.out rfl rfl
      · have HP1 := Lib.hid (HP1.out h0)
        have HP2 := Lib.hid (fun x => HP2.out x h0)
        have e0 : ((kk : Int) == 0) = false := by simpa using h0
        have HR := Lib.hid (rest_c HWD.out (by omega) (by omega) (HEN.out.keep H1.out.frm) HPS.out.1 HPS.out.2.1 HPS.out.2.2)
        clear h0 HP0
        go_wp2_with fail
        refine HR.out.mono ?_
        rintro e w9 k9
        clear HR
        rcases hrs : restN kk l with _ | y
        · rw [hrs] at k9
          obtain ⟨rfl, f9⟩ := k9
          have hY := HP1.out hrs
          subst hY
          exact door_wrong (H1.out.fr f9) rfl rfl
        · rw [hrs] at k9
          obtain ⟨rfl, v9, l9, t9, r9, hw9, ht9, hr9⟩ := k9
          have ok := HOK.out y hrs
          have hY := HP2.out y hrs
          have HL := Lib.hid (Line_c y (y.val t9 r9) w9 (HEN.out.keep (H1.out.frm.trans hw9.frm)) ⟨t9, r9, rfl, ht9.rd, hr9.rd⟩ ok)
          have HB := Lib.hid hw9.box
          have HT9 := Lib.hid ht9
          have HR9 := Lib.hid hr9
          have HQ := Lib.hid (H1.out.fr hw9.frm)
          have hsz9 := hw9.frm.size
          have hlt9 := hw9.box.lt
          have hrg : w9.rangeAt w1.heap.size 1 (y.cells t9 r9).toList := rangeAt_wd HB.out
          obtain ⟨ta, tn, tc, rfl⟩ := ht9.rd.slice
          obtain ⟨ra, rn, rc, rfl⟩ := hr9.rd.slice
          have HY := Lib.hid hY
          clear hY hw9 ht9 hr9 hrs HP1 HP2 HOK HWD H9 HPS
          go_wp2_with ((with_reducible refine wpList_here (.load 32 (.tmp 48)) rfl ?_); refine wpList_load_midW 32 (.tmp 48) rfl w1.heap.size 1 rfl _ _ hrg Tryz.underlying32 rfl Tryz.infoEv rfl ?_)
          refine HL.out.mono ?_
          rintro e w10 ⟨rfl, f10⟩
          have hB10 := HB.out.fr f10
          have hrg10 : w10.rangeAt w1.heap.size 1 (y.cells (.slice ta tn tc) (.slice ra rn rc)).toList := rangeAt_wd hB10
          have HQ10 := Lib.hid (HQ.out.fr f10)
          have HT10 := Lib.hid ((HT9.out.fr f10).mono fun b (hz : w1.heap.size ≤ b) => (⟨by omega, by omega, by omega⟩ : w.heap.size ≤ b ∧ b ≠ w.heap.size ∧ b ≠ w.heap.size + 1))
          have HR10 := Lib.hid ((HR9.out.fr f10).mono fun b (hz : w1.heap.size ≤ b) => (⟨by omega, by omega, by omega⟩ : w.heap.size ≤ b ∧ b ≠ w.heap.size ∧ b ≠ w.heap.size + 1))
          have hz10 := HQ10.out.er.lt
          have g10 : w10.frozen? ⟨w.heap.size + 1, 0, none⟩ = false := HQ10.out.er.free 0
          clear f10 HL hrg hsz9 hlt9 HB HQ hB10
          by_cases hsd : y.said = (s, 0)
          · have hY2 : Y = (y, 0) := by rw [HY.out, if_pos hsd]
            subst hY2
            rw [hsd]
            clear hsd HY
            have hE10 := HQ10.out.ev
            go_wp2_with (first | ((with_reducible refine wpList_here (.load 32 (.tmp 64)) rfl ?_); refine wpList_load_midW 32 (.tmp 64) rfl w1.heap.size 1 rfl _ _ hrg10 Tryz.underlying32 rfl Tryz.infoEv rfl ?_) | ((with_reducible refine wpList_here (.store 32 (.tmp 2) (.tmp 65)) rfl ?_); refine wpList_store_old 32 (.tmp 2) (.tmp 65) rfl w.heap.size _ _ rfl rfl hE10 Tryz.infoEv rfl (Ev.oneCell y ta ra tn tc rn rc) rfl rfl ?_; intro w11 hrl; have hq11 := hrl.boxOther HQ10.out.er (by omega); have d11 := hq11.at 0 rfl; have g11 := hq11.free 0; have z11 := hq11.lt))
            have HK : ∀ b, (w.heap.size ≤ b ∧ b ≠ w.heap.size ∧ b ≠ w.heap.size + 1) → b < w10.heap.size → (w11.setCell ⟨w.heap.size + 1, 0, none⟩ (.int .i64 0)).heap[b]? = w10.heap[b]? := fun b hz _ => (Below.heap_setCell w11 ⟨w.heap.size + 1, 0, none⟩ _ b (by simpa using hz.2.2)).trans (hrl.other b hz.2.1)
            have hS : w10.heap.size ≤ (w11.setCell ⟨w.heap.size + 1, 0, none⟩ (.int .i64 0)).heap.size := by simp [hrl.size]
            exact door_idle ⟨hrl.box.set (p := ⟨w.heap.size + 1, 0, none⟩) (by simp) _, hq11.setAt 0 _, (hrl.fr HQ10.out.frm (Nat.le_refl _)).setCell (p := ⟨w.heap.size + 1, 0, none⟩) (Nat.le_succ _) _⟩ ((HT10.out.keep hS HK).mono fun _ hz => hz.1) ((HR10.out.keep hS HK).mono fun _ hz => hz.1) rfl rfl
          · have hY2 : Y = (.zero, 4) := by rw [HY.out, if_neg hsd]
            subst hY2
            have HX := Lib.hid HQ10.out
            unfold Ev.said at hsd ⊢
            cases hmy : y.may
            · simp only [Bool.false_eq_true, if_false]
              clear hsd HY
              go_wp2_with fail
              exact door_wrong HX.out rfl rfl
            · rw [hmy] at hsd
              simp only [if_true] at hsd ⊢
              have hne : ¬ y.line = s := fun e => hsd (by rw [e])
              clear hsd HY
              generalize y.line = q at hne
              have n1 : (q == s) = false := by simpa using hne
              have n2 : (q != s) = true := by simpa using hne
              go_wp2_with fail
              exact door_wrong HX.out rfl rfl
end Go.Proofs.YtfklgaeejmeipaaGreatDoor

/- umpirelaw06.is, unparsed, works. No condition but the tables' content. -/
namespace Go.Proofs.YtfklgaeejmeipaaGreatDoor
open Go.RowKit
attribute [local go_sem] Oper.semAt_some

theorem ParseRet.at {w w' : World} {y : Ev × Nat} {e : Ending} (h : ParseRet w y e w') : ∃ ta tn tc ra rn rc, e = .returned (.tuple #[y.1.val (.slice ta tn tc) (.slice ra rn rc), .int .i64 y.2]) ∧ RdMZ (w.heap.size ≤ ·) w' (.slice ta tn tc) y.1.txn ∧ RdRZ (w.heap.size ≤ ·) w' (.slice ra rn rc) y.1.reads ∧ Fr w w' := by
  obtain ⟨t, r, he, ht, hr, hf⟩ := h
  obtain ⟨ta, tn, tc, rfl⟩ := ht.rd.slice
  obtain ⟨ra, rn, rc, rfl⟩ := hr.rd.slice
  exact ⟨ta, tn, tc, ra, rn, rc, he, ht, hr, hf⟩
set_option maxRecDepth 100000 in
set_option maxHeartbeats 2000000 in
theorem is06_yes (x : Ev) (t r : Value) (q : W8) (w : World) (hE : EnvT w) (ht : RdM w t x.txn) (hr : RdR w r x.reads) (ok : x.Ok) (hm : x.may = true) (hq : x.line = q) :
    Calls Tryz.prog 23 #[x.val t r, .string ⟨q.toArray⟩] w fun e w' => e = .returned (.bool true) ∧ Fr w w' := by
  have hln := line_short ok hm
  rw [hq] at hln
  have HE := Lib.hid hE
  have HX : Hid (EvAt w (x.val t r) x) := Lib.hid ⟨t, r, rfl, ht, hr⟩
  have HL := Lib.hid (fun W (f : Fr w W) => Line_c x (x.val t r) W (hE.keep f) (HX.out.keep f) ok)
  rw [show x.said = (q, 0) from Ev.said_iff.2 ⟨hm, hq⟩] at HL
  have HP := Lib.hid (fun W (f : Fr w W) => Parse_txt q W (hE.keep f) (by omega))
  rw [show parseLn q = (x, 0) from parseLn_iff.2 ⟨ok, hm, hq⟩] at HP
  have hB0 := BoxAt.new w (x.cells t r) 32
  have HB0 := Lib.hid hB0
  have F0 := Lib.hid ((Fr.refl w).alloc (.cells (x.cells t r) 32))
  clear hE ht hr ok hm hq
  unfold Ev.val
  go_enter Tryz.func23, Tryz.ntmps23
  go_wp2_with ((with_reducible refine wpList_here (.load 32 (.tmp 2)) rfl ?_); refine wpList_load_box 32 (.tmp 2) rfl _ rfl (x.cells t r) hB0 _ Tryz.underlying32 rfl Tryz.infoEv rfl ?_)
  refine (HL.out _ F0.out).mono ?_
  rintro e w1 ⟨rfl, f1⟩
  have F1 := Lib.hid (F0.out.trans f1)
  have HB1 := Lib.hid (HB0.out.fr f1)
  clear f1 hB0
  go_wp2_with fail
  refine (HP.out _ F1.out).mono ?_
  rintro e w2 k2
  obtain ⟨ta, tn, tc, ra, rn, rc, rfl, ht2, hr2, f2⟩ := k2.at
  have HX2 : Hid (EvAt w2 (x.val (.slice ta tn tc) (.slice ra rn rc)) x) := Lib.hid ⟨_, _, rfl, ht2.rd, hr2.rd⟩
  have F2 := Lib.hid (F1.out.trans f2)
  have F3 := Lib.hid (F2.out.alloc (.cells (x.cells (.slice ta tn tc) (.slice ra rn rc)) 32))
  have hB3 : BoxAt (w2.alloc (.cells (x.cells (.slice ta tn tc) (.slice ra rn rc)) 32)) w.heap.size (x.cells t r) 32 := (HB1.out.fr f2).alloc _
  have hN3 := BoxAt.new w2 (x.cells (.slice ta tn tc) (.slice ra rn rc)) 32
  have HS := Lib.hid (same_c (x.val t r) (x.val (.slice ta tn tc) (.slice ra rn rc)) x x _ (HX.out.keep F3.out) (HX2.out.keep ((Fr.refl w2).alloc (.cells (x.cells (.slice ta tn tc) (.slice ra rn rc)) 32))))
  rw [show decide (x = x) = true by simp] at HS
  clear k2 ht2 hr2 f2
  unfold Ev.val
  go_wp2_with (first | ((with_reducible refine wpList_here (.store 32 (.tmp 7) (.tmp 17)) rfl ?_); refine wpList_store_new 32 (.tmp 7) (.tmp 17) rfl _ (x.cells (.slice ta tn tc) (.slice ra rn rc)) _ rfl rfl rfl Tryz.infoEv rfl (Ev.oneCell x ta ra tn tc rn rc) rfl rfl ?_) | ((with_reducible refine wpList_here (.load 32 (.tmp 2)) rfl ?_); refine wpList_load_box 32 (.tmp 2) rfl _ rfl (x.cells t r) hB3 _ Tryz.underlying32 rfl Tryz.infoEv rfl ?_) | ((with_reducible refine wpList_here (.load 32 (.tmp 7)) rfl ?_); refine wpList_load_box 32 (.tmp 7) rfl _ rfl (x.cells (.slice ta tn tc) (.slice ra rn rc)) hN3 _ Tryz.underlying32 rfl Tryz.infoEv rfl ?_))
  refine HS.out.mono ?_
  rintro e w4 ⟨rfl, f4⟩
  have F4 := Lib.hid (F3.out.trans f4)
  clear f4
  go_wp2_with fail
  go_ret
  exact ⟨rfl, F4.out⟩
set_option maxRecDepth 100000 in
set_option maxHeartbeats 2000000 in
theorem unparsed06_yes (q : W8) (w : World) (hE : EnvT w) (hq : q.length ≤ 20000) (hp : parseLn q = (.zero, 4)) :
    Calls Tryz.prog 24 #[.string ⟨q.toArray⟩] w fun e w' => e = .returned (.bool true) ∧ Fr w w' := by
  have HP := Lib.hid (Parse_txt q w hE hq)
  rw [hp] at HP
  clear hE hp
  go_enter Tryz.func24, Tryz.ntmps24
  go_wp2_with fail
  refine HP.out.mono ?_
  rintro e w2 k2
  obtain ⟨ta, tn, tc, ra, rn, rc, rfl, ht2, hr2, f2⟩ := k2.at
  obtain ⟨z, hz⟩ : ∃ z, z = Ev.zero := ⟨_, rfl⟩
  rw [← hz] at ht2 hr2 ⊢
  have HX2 : Hid (EvAt w2 (z.val (.slice ta tn tc) (.slice ra rn rc)) z) := Lib.hid ⟨_, _, rfl, ht2.rd, hr2.rd⟩
  have F3 := Lib.hid (f2.alloc (.cells (z.cells (.slice ta tn tc) (.slice ra rn rc)) 32))
  have hN3 := BoxAt.new w2 (z.cells (.slice ta tn tc) (.slice ra rn rc)) 32
  have HS := Lib.hid (same_c (z.val (.slice ta tn tc) (.slice ra rn rc)) (Ev.zero.val nil0 nil0) z Ev.zero _ (HX2.out.keep ((Fr.refl w2).alloc (.cells (z.cells (.slice ta tn tc) (.slice ra rn rc)) 32))) ⟨nil0, nil0, rfl, RdM.nil _, RdR.nil _⟩)
  rw [show decide (z = Ev.zero) = true by simp [hz]] at HS
  clear k2 ht2 hr2 f2 hz
  unfold Ev.val
  go_wp2_with (first | ((with_reducible refine wpList_here (.store 32 (.tmp 3) (.tmp 8)) rfl ?_); refine wpList_store_new 32 (.tmp 3) (.tmp 8) rfl _ (z.cells (.slice ta tn tc) (.slice ra rn rc)) _ rfl rfl rfl Tryz.infoEv rfl (Ev.oneCell z ta ra tn tc rn rc) rfl rfl ?_) | ((with_reducible refine wpList_here (.load 32 (.tmp 3)) rfl ?_); refine wpList_load_box 32 (.tmp 3) rfl _ rfl (z.cells (.slice ta tn tc) (.slice ra rn rc)) hN3 _ Tryz.underlying32 rfl Tryz.infoEv rfl ?_))
  refine HS.out.mono ?_
  rintro e w4 ⟨rfl, f4⟩
  have F4 := Lib.hid (F3.out.trans f4)
  clear f4
  go_wp2_with fail
  go_ret
  exact ⟨rfl, F4.out⟩
def wEv1 : Ev := { Ev.zero with kind := 2, client := 3, id := 258, op := ⟨2, 1, 0, 5, 0⟩ }
def wEv2 : Ev := { Ev.zero with kind := 6, client := 1, id := 9, reads := [[4, 5], []] }
theorem wEv1_line : wEv1.line = [105, 110, 118, 111, 107, 101, 32, 51, 32, 50, 53, 56, 32, 49, 32, 119, 114, 105, 116, 101, 32, 53] := by decide +kernel
theorem wEv2_line : wEv2.line = [99, 111, 109, 109, 105, 116, 32, 49, 32, 57, 32, 52, 44, 53, 32, 45] := by decide +kernel
theorem wEv1_may : wEv1.may = true := by decide +kernel
theorem wEv2_may : wEv2.may = true := by decide +kernel
theorem un1 : parseLn [105, 110, 102, 111, 32, 51, 32, 48, 50, 53, 56] = (.zero, 4) := by decide +kernel
theorem un2 : parseLn [] = (.zero, 4) := by decide +kernel
theorem wEv1_ok : wEv1.Ok := by constructor <;> simp [wEv1, Ev.zero, OpD.zero, Cfg.zero]
theorem wEv2_ok : wEv2.Ok := by constructor <;> simp [wEv2, Ev.zero, OpD.zero, Cfg.zero]
/-- A literal of two lists. -/
theorem RdR.lit2 (w : World) (a b : Nat) : RdR ((w.alloc (.cells #[.int .u16 a, .int .u16 b] 22)).alloc (.cells #[.slice (some ⟨w.heap.size, 0, none⟩) 2 2, .slice none 0 0] 64)) (.slice (some ⟨w.heap.size + 1, 0, none⟩) 2 2) [[a, b], []] := by
  have h0 := (BoxAt.new w #[.int .u16 a, .int .u16 b] 22).alloc (.cells #[.slice (some ⟨w.heap.size, 0, none⟩) 2 2, .slice none 0 0] 64)
  have h1 : BoxAt ((w.alloc (.cells #[.int .u16 a, .int .u16 b] 22)).alloc (.cells #[.slice (some ⟨w.heap.size, 0, none⟩) 2 2, .slice none 0 0] 64)) (w.heap.size + 1) #[.slice (some ⟨w.heap.size, 0, none⟩) 2 2, .slice none 0 0] 64 := by simpa using BoxAt.new (w.alloc (.cells #[.int .u16 a, .int .u16 b] 22)) #[.slice (some ⟨w.heap.size, 0, none⟩) 2 2, .slice none 0 0] 64
  refine ⟨[.slice (some ⟨w.heap.size, 0, none⟩) 2 2, .slice none 0 0], rfl, ⟨_, 2, rfl, Nat.le_refl _, by decide, .inr ⟨w.heap.size + 1, 0, rfl, trivial, h1.lt, fun j u hj => by rw [Nat.zero_add, h1.cell]; simpa using hj⟩⟩, fun i l u hl hu => ?_⟩
  rcases (show i = 0 ∨ i = 1 ∨ 2 ≤ i by omega) with rfl | rfl | hi
  · cases hl
    cases hu
    exact ⟨_, 2, rfl, Nat.le_refl _, by decide, .inr ⟨w.heap.size, 0, rfl, trivial, h0.lt, fun j u hj => by rw [Nat.zero_add, h0.cell]; simpa [u16Cells] using hj⟩⟩
  · cases hl
    cases hu
    exact ⟨none, 0, rfl, Nat.le_refl _, by decide, .inl rfl⟩
  · rw [List.getElem?_eq_none (by simpa using hi)] at hl; cases hl
set_option maxRecDepth 100000 in
set_option maxHeartbeats 2000000 in
theorem works06_c (w : World) (hE : EnvT w) : Calls Tryz.prog 10 #[] w fun e w' => e = .returned (.bool true) ∧ Fr w w' := by
  have H1 := Lib.hid (fun W (f : Fr w W) => is06_yes wEv1 nil0 nil0 _ W (hE.keep f) (RdM.nil _) (RdR.nil _) wEv1_ok wEv1_may wEv1_line)
  have H2 := Lib.hid (fun W r (f : Fr w W) hr => is06_yes wEv2 nil0 r _ W (hE.keep f) (RdM.nil _) hr wEv2_ok wEv2_may wEv2_line)
  have H3 := Lib.hid (fun W (f : Fr w W) => unparsed06_yes _ W (hE.keep f) (by decide) un1)
  have H4 := Lib.hid (fun W (f : Fr w W) => unparsed06_yes _ W (hE.keep f) (by decide) un2)
  clear hE
  go_enter Tryz.func10, Tryz.ntmps10
  go_wp2_with fail
  refine (H1.out _ (Fr.refl w)).mono ?_
  rintro e w1 ⟨rfl, f1⟩
  have HR := Lib.hid (RdR.lit2 w1 4 5)
  have F2 := Lib.hid ((f1.alloc (.cells #[.int .u16 4, .int .u16 5] 22)).alloc (.cells #[.slice (some ⟨w1.heap.size, 0, none⟩) 2 2, .slice none 0 0] 64))
  clear f1
  go_wp2_with fail
  refine (H2.out _ _ F2.out HR.out).mono ?_
  rintro e w3 ⟨rfl, f3⟩
  have F3 := Lib.hid (F2.out.trans f3)
  clear f3
  go_wp2_with fail
  refine (H3.out _ F3.out).mono ?_
  rintro e w4 ⟨rfl, f4⟩
  have F4 := Lib.hid (F3.out.trans f4)
  clear f4
  go_wp2_with fail
  refine (H4.out _ F4.out).mono ?_
  rintro e w5 ⟨rfl, f5⟩
  have F5 := Lib.hid (F4.out.trans f5)
  clear f5
  go_wp2_with fail
  go_ret
  exact ⟨rfl, F5.out⟩
end Go.Proofs.YtfklgaeejmeipaaGreatDoor

/- umpirelaw06.few, all. No condition but that the events can be read. -/
namespace Go.Proofs.YtfklgaeejmeipaaGreatDoor
open Go.RowKit
attribute [local go_sem] Oper.semAt_some

theorem RdM.lenT {w : World} {a : Option Addr} {n c : Nat} {l : List Mic} (h : RdM w (.slice a n c) l) : n = l.length ∧ n ≤ c ∧ c ≤ maxLen := by
  obtain ⟨_, _, he, h1, h2, _⟩ := h
  cases he
  exact ⟨rfl, h1, h2⟩
theorem RdR.lenT {w : World} {a : Option Addr} {n c : Nat} {l : List (List Nat)} (h : RdR w (.slice a n c) l) : n = l.length ∧ n ≤ c ∧ c ≤ maxLen := by
  obtain ⟨_, _, ⟨_, _, he, h1, h2, _⟩, _⟩ := h
  cases he
  exact ⟨rfl, h1, h2⟩
theorem RdR.cellAtT {w : World} {a : Option Addr} {n c : Nat} {l : List (List Nat)} (h : RdR w (.slice a n c) l) {k : Nat} (hk : k < l.length) : ∃ b off d m e, a = some ⟨b, off, none⟩ ∧ b < w.heap.size ∧ w.cell? ⟨b, off + k, none⟩ = some (.slice d m e) ∧ m ≤ e ∧ e ≤ maxLen := by
  obtain ⟨vs, h1, ⟨_, _, he, _, _, hx⟩, h3⟩ := h
  cases he
  have hk2 : k < vs.length := by omega
  rcases hx with rfl | ⟨b, off, rfl, _, hb, hc⟩
  · simp at hk2
  · obtain ⟨d, e, hu, h4, h5, _⟩ := h3 k l[k] vs[k] (by simp [hk]) (by simp [hk2])
    exact ⟨b, off, d, _, e, rfl, hb, by rw [← hu]; exact hc k _ (by simp [hk2]), h4, h5⟩
def RetBT (w : World) (e : Ending) (w' : World) : Prop := ∃ b, e = .returned (.bool b) ∧ Fr w w'
set_option maxRecDepth 100000 in
set_option maxHeartbeats 2000000 in
theorem few06_c (x : Ev) (t r : Value) (w : World) (ht : RdM w t x.txn) (hr : RdR w r x.reads) : Calls Tryz.prog 9 #[x.val t r] w (RetBT w) := by
  obtain ⟨ta, tn, tc, rfl⟩ := ht.slice
  obtain ⟨ra, rn, rc, rfl⟩ := hr.slice
  obtain ⟨ht1, ht2, ht3⟩ := ht.lenT
  obtain ⟨hr1, hr2, hr3⟩ := hr.lenT
  have HR := Lib.hid hr
  have hB := BoxAt.new w (x.cells (.slice ta tn tc) (.slice ra rn rc)) 32
  have c10 : (w.alloc (.cells (x.cells (.slice ta tn tc) (.slice ra rn rc)) 32)).cell? ⟨w.heap.size, 10, none⟩ = some (.slice ta tn tc) := hB.at 10 rfl
  have c11 : (w.alloc (.cells (x.cells (.slice ta tn tc) (.slice ra rn rc)) 32)).cell? ⟨w.heap.size, 11, none⟩ = some (.slice ra rn rc) := hB.at 11 rfl
  have HC10 := Lib.hid c10
  have HC11 := Lib.hid c11
  have F0 := Lib.hid ((Fr.refl w).alloc (.cells (x.cells (.slice ta tn tc) (.slice ra rn rc)) 32))
  unfold maxLen at ht3 hr3
  have HL := Lib.hid hr1
  clear ht hr hB c10 c11 ht1 hr1
  unfold Ev.val
  go_enter Tryz.func9, Tryz.ntmps9
  go_wp2_with fail
  go_loopw [3] (fun i wr => ∃ j : Nat, j ≤ rn ∧ i = .int .i64 j ∧ Fr (w.alloc (.cells (x.cells (.slice ta tn tc) (.slice ra rn rc)) 32)) wr) (fun i _ => rn - (intOf i).toNat)
  case atStart => exact ⟨0, Nat.zero_le _, rfl, Fr.refl _⟩
  case round =>
    obtain ⟨j, hjl, rfl, hf⟩ := hrel
    have d10 := hf.keep HC10.out
    have d11 := hf.keep HC11.out
    have hz := lt_of_cell d11
    have HF := Lib.hid (F0.out.trans hf)
    by_cases hj : j < rn ∧ j < 30
    · obtain ⟨b3, o3, d, m, e, rfl, hb3, c3, hm1, hm2⟩ := (HR.out.keep (F0.out.trans hf)).cellAtT (k := j) (by have := HL.out; omega)
      have e1 : (j : Int) < rn := by omega
      have e2 : (j : Int) < 30 := by omega
      unfold maxLen at hm2
      have hj1 : j < rc := by omega
      have HF2 := Lib.hid hf
      clear hf d10
      by_cases h60 : 60 < m
      · have h60' : (60 : Int) < m := by omega
        clear hj
        go_wp2_with fail
        go_ret
        exact ⟨false, rfl, HF.out⟩
      · have h60' : ¬ (60 : Int) < m := by omega
        have HJ := Lib.hid hj
        clear hj
        go_wp2_with fail
        go_roundw
        case rel => exact ⟨j + 1, by have := HJ.out; omega, by go_num, HF2.out⟩
        case measure => have := HJ.out; simp [intOf]; omega
    · clear hf
      have hj2 : ¬ j < rn ∨ (j < rn ∧ ¬ j < 30) := by omega
      rcases hj2 with h | ⟨h, h'⟩
      · have e1 : ¬ (j : Int) < rn := by omega
        clear hj h
        by_cases q1 : tn ≤ 20
        · have q1' : (tn : Int) ≤ 20 := by omega
          go_wp2_with fail
          go_ret
          exact ⟨_, rfl, HF.out⟩
        · have q1' : ¬ (tn : Int) ≤ 20 := by omega
          go_wp2_with fail
          go_ret
          exact ⟨_, rfl, HF.out⟩
      · have e1 : (j : Int) < rn := by omega
        have e2 : ¬ (j : Int) < 30 := by omega
        clear hj h h'
        by_cases q1 : tn ≤ 20
        · have q1' : (tn : Int) ≤ 20 := by omega
          go_wp2_with fail
          go_ret
          exact ⟨_, rfl, HF.out⟩
        · have q1' : ¬ (tn : Int) ≤ 20 := by omega
          go_wp2_with fail
          go_ret
          exact ⟨_, rfl, HF.out⟩
end Go.Proofs.YtfklgaeejmeipaaGreatDoor

/- text.Read answers what readT says. Of any text whose lines are at most 20000 bytes; the tables' content. -/
namespace Go.Proofs.YtfklgaeejmeipaaGreatDoor
open Go.RowKit
attribute [local go_sem] Oper.semAt_some

theorem fr_setCells {a : World} (b : Nat) (hb : a.heap.size ≤ b) : ∀ (vs : List Value) (o : Nat) (w : World), Fr a w → Fr a (w.setCells b o vs)
  | [], _, _, h => h
  | v :: r, o, w, h => fr_setCells b hb r (o + 1) _ (h.setCell (p := ⟨b, o, none⟩) hb v)
theorem size_setCellsT (b : Nat) : ∀ (vs : List Value) (o : Nat) (w : World), (w.setCells b o vs).heap.size = w.heap.size
  | [], _, _ => rfl
  | v :: r, o, w => by rw [World.setCells, size_setCellsT b r]; simp
/-- Lines without the last, empty one. -/
theorem del_last {w0 W : World} {a : Option Addr} {c : Nat} {wl : List W8} (h : RowS w0 W (.slice a wl.length c) wl) (hn : wl ≠ []) :
    Calls Tryz.prog 62 #[.slice a wl.length c, .int .i64 ((wl.length - 1 : Nat) : Int), .int .i64 wl.length] W fun e w' => e = .returned (.slice a (wl.length - 1) c) ∧ RdS w' (.slice a (wl.length - 1) c) wl.dropLast ∧ Fr w0 w' := by
  have hpos : 0 < wl.length := List.length_pos_iff.2 hn
  obtain ⟨b, off, cap, he, hcap, hmax, hb, hc⟩ := h.rd.at (k := 0) hpos
  obtain ⟨rfl, _, rfl⟩ := Value.slice.inj he
  have hown := h.own
  obtain ⟨_, h2⟩ := hown
  rcases h2 with ⟨h2, _⟩ | ⟨g, cap', cur, h2, hg, hh, _⟩
  · cases h2
  · cases h2
    have hfz : ∀ j, W.frozen? ⟨b, 0 + j, none⟩ = false := fun j => Lib.frozen_of_heap hh (0 + j)
    have hfc := Tryz.slices_Delete_string_cells b 0 wl.length c (wl.length - 1) wl.length (fun i => ⟨(wl.getD i []).toArray⟩) W hcap hmax (by omega) (Nat.le_refl _) (fun i hi => hc i _ (by simp [List.getD_eq_getElem?_getD, hi])) (fun j _ => hfz j)
    rw [show wl.length - (wl.length - (wl.length - 1)) = wl.length - 1 by omega] at hfc
    refine hfc.mono ?_
    rintro e w' ⟨rfl, q, rfl⟩
    have hst : Lib.strsOf (fun i => (⟨(wl.getD i []).toArray⟩ : ByteArray)) wl.length = wl := by
      unfold Lib.strsOf
      refine List.ext_getElem (by simp) fun i h1 h2 => ?_
      simp [List.getD_eq_getElem?_getD, h2]
    rw [hst]
    refine ⟨rfl, ?_, fr_setCells b hg _ _ _ (h.frm.drewN q)⟩
    refine ⟨_, c, by rw [List.length_dropLast], by rw [List.length_dropLast]; omega, hmax, .inr ⟨b, 0, rfl, trivial, by rw [size_setCellsT]; exact hb, fun j u hj => ?_⟩⟩
    have hj2 : j < wl.length - 1 := by
      have := (List.getElem?_eq_some_iff.1 hj).1
      simpa [strCells] using this
    have hlen : ((wl.take (wl.length - 1) ++ wl.drop wl.length ++ List.replicate (wl.length - (wl.length - 1)) []).map encStr).length = wl.length := by simp
    rw [World.cell?_setCells_in b _ 0 _ (fun i hi => by
      rw [hlen] at hi
      have := hc i wl[i] (by simp [hi])
      rw [show (W.drewN q).cell? ⟨b, 0 + i, none⟩ = W.cell? ⟨b, 0 + i, none⟩ from rfl, this]; rfl) j (by rw [hlen]; omega)]
    have hu : u = .string ⟨wl[j].toArray⟩ := by
      unfold strCells at hj
      rw [List.getElem?_map, List.getElem?_eq_getElem (by rw [List.length_dropLast]; omega)] at hj
      simp [List.getElem_dropLast] at hj
      exact hj.symm
    rw [hu]
    congr 1
    rw [List.getElem_map, List.getElem_append_left (by simp; omega), List.getElem_append_left (by simp; omega), List.getElem_take]
/-- What Read leaves: the events, the line, the error. -/
def ReadRet (w : World) (y : List Ev × Nat × Nat) (e : Ending) (w' : World) : Prop := ∃ v, e = .returned (.tuple #[v, .int .i64 y.2.1, .int .i64 y.2.2]) ∧ RdE w' v y.1 ∧ Fr w w'
/-- .. and the list is nil where the text is refused. -/
def ReadRetS (w : World) (y : List Ev × Nat × Nat) (e : Ending) (w' : World) : Prop := ∃ v, e = .returned (.tuple #[v, .int .i64 y.2.1, .int .i64 y.2.2]) ∧ RdE w' v y.1 ∧ Fr w w' ∧ (y.2.2 ≠ 0 → v = .slice none 0 0)
theorem ReadRetS.ret {w w' : World} {y : List Ev × Nat × Nat} {e : Ending} (h : ReadRetS w y e w') : ReadRet w y e w' := by
  obtain ⟨v, h1, h2, h3, _⟩ := h
  exact ⟨v, h1, h2, h3⟩
theorem Tryz.infoEvT : (Tryz.prog.info? 32).map (fun i => (i.zero, i.size)) = some (some (Ev.zero.val nil0 nil0), 19) := by kernel_rfl
/-- A slice literal of one event. -/
theorem wpList_buildEvT {ops : Array Oper} {rest : List Oper} {o : Oper} {a : Act} {w : World} {Q : Exit → Act → World → Prop} (parts : Array (Nat × Operand)) (ho : o.op = .buildSlice 49 1 parts) (y : Ev) (t r : Value)
    (hev : (parts.map fun (i, x) => (i, a.eval x)).toList = [(0, y.val t r)]) (hw : Region.wanted o (yielded ops a.tmps) = true)
    (h : ∀ w', Fr w w' → BoxAt w' w.heap.size (y.cells t r) 32 → wpList Tryz.prog ops Q rest (a.put o.dst (.slice (some ⟨w.heap.size, 0, none⟩) 1 1)) w') : wpList Tryz.prog ops Q (o :: rest) a w := by
  refine wpList_step fun K hK => ?_
  simp only [hw, if_true]
  have hi := Tryz.infoEvT
  cases hie : Tryz.prog.info? 32 with
  | none => rw [hie] at hi; cases hi
  | some ie =>
    rw [hie] at hi
    simp only [Option.map_some, Option.some.injEq, Prod.mk.injEq] at hi
    obtain ⟨hz, hs⟩ := hi
    refine Go.wp_buildSlice 49 32 1 parts ho (y.cells t r) ie _ Tryz.underlying49 hie hz (by rw [hs]; omega) (by rw [hs]; omega) ?_ (hK _ _ (h _ ((Fr.refl w).alloc _) (BoxAt.new w _ _)))
    rw [hev, hs]
    exact (Great.fill_whole (s := 19) (by omega) [y.val t r] _ (fun v hv => by obtain rfl := List.mem_singleton.1 hv; rfl) (by simp)).trans rfl
set_option maxRecDepth 100000 in
set_option maxHeartbeats 4000000 in
theorem Read_txtS (s : W8) (w : World) (hE : EnvT w) (hs : s.length ≤ 500000) (hsh : ∀ t ∈ linesOf s, t.length ≤ 20000) : Calls Tryz.prog 21 #[.string ⟨s.toArray⟩] w (ReadRetS w (readT s)) := by
  have HEN := Lib.hid hE
  have HSP := Lib.hid (SplitC_c 10 s w hE.toEnv0 (by omega))
  have hwl := splitS_ne 10 s
  have hwn := splitS_len 10 s
  have hwc : s.count 10 ≤ s.length := List.count_le_length
  have HLA := Lib.hid (fun (h : (splitS 10 s).getLast? = some []) => show linesOf s = (splitS 10 s).dropLast by unfold linesOf; rw [if_pos h])
  have HLB := Lib.hid (fun (h : ¬ (splitS 10 s).getLast? = some []) => show linesOf s = splitS 10 s by unfold linesOf; rw [if_neg h])
  have HY0 : Hid (readFrom (linesOf s) 0 [] = readT s) := Lib.hid rfl
  have HSH0 := Lib.hid hsh
  generalize linesOf s = LL at HLA HLB HY0 HSH0
  generalize readT s = Y at HY0 ⊢
  generalize splitS 10 s = wl at HSP hwl hwn HLA HLB
  have hwb : wl.length ≤ 1000000 := by omega
  have hpos : 0 < wl.length := List.length_pos_iff.2 hwl
  clear hE hsh hwn hwc hs
  go_enter Tryz.func21, Tryz.ntmps21
  go_wp2_with fail
  refine HSP.out.mono ?_
  rintro e w1 ⟨v1, rfl, hrow⟩
  have HROW := Lib.hid hrow
  obtain ⟨b0, off0, cap0, rfl, hcap0, hmax0, hb0, hc0⟩ := hrow.rd.at (k := wl.length - 1) (by omega)
  unfold maxLen at hmax0
  have hlast : wl.getLast? = some wl[wl.length - 1] := by rw [List.getLast?_eq_getElem?]; simp [hpos]
  have cl := hc0 (wl.length - 1) wl[wl.length - 1] (by simp [hpos])
  rw [hlast] at HLA HLB
  have hsub : ((wl.length : Int) - 1) = ((wl.length - 1 : Nat) : Int) := by omega
  generalize hzz : wl[wl.length - 1] = z at cl HLA HLB
  clear hlast hrow hc0 hzz
  by_cases hz : z = []
  · have hLL := HLA.out (by rw [hz])
    subst hz
    subst hLL
    have HDL := Lib.hid (del_last HROW.out hwl)
    clear HLA HLB HSP hwl
    go_wp2_with fail
    refine HDL.out.mono ?_
    rintro e w2 ⟨rfl, hrd, f2⟩
    have hLN : RdS w2 (.slice (some ⟨b0, off0, none⟩) (wl.length - 1) cap0) wl.dropLast := hrd
    have HFW := Lib.hid f2
    clear hrd f2 HDL
    obtain ⟨W1, hW1⟩ : ∃ W1, W1 = w2 := ⟨_, rfl⟩
    have hdl : wl.dropLast.length = wl.length - 1 := List.length_dropLast
    rw [← hdl] at hLN ⊢
    generalize wl.dropLast = LL at HY0 HSH0 hLN hdl ⊢
    have hLLn : LL.length ≤ 1000000 := by omega
    clear hdl hsub HROW cl hpos hwb
    subst hW1
    have HYL : Hid (readFrom (LL.drop 0) 0 [] = Y) := by rw [List.drop_zero]; exact HY0
    have HSH := HSH0
    have HLN := Lib.hid hLN
    have hnl : LL.length ≤ 1000000 := by omega
    obtain ⟨la, lc, hlv, hlc, hlm⟩ := HLN.out.form
    obtain ⟨rfl, _, rfl⟩ := Value.slice.inj hlv
    unfold maxLen at hlm
    clear hLN
    go_wp2_with fail
    go_loopw [2, 28] (fun o i wr => ∃ (k : Nat) (acc : List Ev), k ≤ LL.length ∧ i = .int .i64 k ∧ acc.length ≤ k ∧ Fr W1 wr ∧ OwX W1 wr o acc ∧ Hid (readFrom (LL.drop k) k acc = Y)) (fun _ i _ => LL.length - (intOf i).toNat)
    case atStart => exact ⟨0, [], Nat.zero_le _, rfl, Nat.le_refl _, by first | exact Fr.refl _ | exact (Fr.refl _).drew, OwX.nil _ _, HYL⟩
    case round =>
      clear HYL
      obtain ⟨k, acc, hk, rfl, hak, hf, hown, HYK⟩ := hrel
      have HF := Lib.hid hf
      have HO := Lib.hid hown
      by_cases hlt : k < LL.length
      · obtain ⟨b1, o1, cap1, he1, _, _, hb1, hc1⟩ := RdS.at (HLN.out.keep hf) hlt
        obtain ⟨hq1, _, hq2⟩ := Value.slice.inj he1
        obtain ⟨hq3, hq4⟩ : b1 = b0 ∧ o1 = off0 := by simp at hq1; exact ⟨hq1.1.symm, hq1.2.symm⟩
        subst hq3 hq4 hq2
        have c1 := hc1 k LL[k] (by simp [hlt])
        have hsh := HSH.out LL[k] (List.getElem_mem hlt)
        have hyk := HYK.out
        rw [List.drop_eq_getElem_cons hlt, readFrom] at hyk
        have HYN := Lib.hid hyk
        generalize LL[k] = t at c1 hsh HYN
        have HP := Lib.hid (Parse_txt t wr (HEN.out.keep (HFW.out.trans hf)) hsh)
        have hk1 : k < cap0 := by omega
        clear hc1 he1 hyk hf hown HYK
        rcases parseLn_cases t with ⟨x, okx, mx, lx, hx⟩ | hx
        · rw [hx] at HP HYN
          simp only [if_true] at HYN
          clear okx mx lx hx
          go_wp2_with fail
          refine HP.out.mono ?_
          rintro e w2 k2
          obtain ⟨ta, tn, tc, ra, rn, rc, rfl, ht2, hr2, f2⟩ := k2.at
          simp only at ht2 hr2
          have HT2 := Lib.hid (ht2.mono fun b (hz : wr.heap.size ≤ b) => show u2.ownBlock ≠ some b from fun e => by have := (HO.out.lt b e).2; omega)
          have HR2 := Lib.hid (hr2.mono fun b (hz : wr.heap.size ≤ b) => show u2.ownBlock ≠ some b from fun e => by have := (HO.out.lt b e).2; omega)
          have F2 := Lib.hid ((HF.out.trans f2).alloc (.cells (x.cells (.slice ta tn tc) (.slice ra rn rc)) 32))
          have HO2 := Lib.hid (HO.out.fr (f2.alloc (.cells (x.cells (.slice ta tn tc) (.slice ra rn rc)) 32)))
          have hN2 := BoxAt.new w2 (x.cells (.slice ta tn tc) (.slice ra rn rc)) 32
          clear k2 ht2 hr2 f2 HO HP
          unfold Ev.val
          go_wp2_with (first | ((with_reducible refine wpList_here (.store 32 (.tmp 8) (.tmp 36)) rfl ?_); refine wpList_store_new 32 (.tmp 8) (.tmp 36) rfl _ (x.cells (.slice ta tn tc) (.slice ra rn rc)) _ rfl rfl rfl Tryz.infoEv rfl (Ev.oneCell x ta ra tn tc rn rc) rfl rfl ?_) | ((with_reducible refine wpList_here (.load 32 (.tmp 8)) rfl ?_); refine wpList_load_box 32 (.tmp 8) rfl _ rfl (x.cells (.slice ta tn tc) (.slice ra rn rc)) hN2 _ Tryz.underlying32 rfl Tryz.infoEv rfl ?_) | (refine wpList_buildEvT _ rfl x (.slice ta tn tc) (.slice ra rn rc) ?hev rfl ?_))
          case hev => rfl
          intro w3 hf3 hB3
          have F3 := Lib.hid (F2.out.trans hf3)
          have HO3 := Lib.hid (HO2.out.fr hf3)
          have HT3 := Lib.hid ((HT2.out.fr ((Fr.refl w2).alloc (.cells (x.cells (.slice ta tn tc) (.slice ra rn rc)) 32))).fr hf3)
          have HR3 := Lib.hid ((HR2.out.fr ((Fr.refl w2).alloc (.cells (x.cells (.slice ta tn tc) (.slice ra rn rc)) 32))).fr hf3)
          have HB3 := Lib.hid hB3
          clear hf3 hB3 hN2 F2 HO2 HT2 HR2
          go_wp2_with (at_builtin; refine wpList_appendX rfl (.tmp 43) (.tmp 45) rfl u2 acc rfl HO3.out F3.out _ 1 x (.slice ta tn tc) (.slice ra rn rc) rfl (fun j u hj => by rw [Nat.zero_add, BoxAt.cell HB3.out]; simpa using hj) HT3.out HR3.out (by omega) ?_)
          intro v5 w5 hO5 hf5
          have HO5 := Lib.hid hO5
          have F5 := Lib.hid hf5
          clear hO5 hf5
          go_wp2_with fail
          go_roundw
          case rel => exact ⟨k + 1, acc ++ [x], by omega, by go_num, by simp; omega, F5.out, HO5.out, HYN⟩
          case measure => simp [intOf]; omega
        · rw [hx] at HP HYN
          have hY : Y = ([], k + 1, 4) := by rw [← HYN.out]; rfl
          subst hY
          clear hx HYN
          obtain ⟨z, hz⟩ : ∃ z, z = Ev.zero := ⟨_, rfl⟩
          rw [← hz] at HP
          clear hz
          go_wp2_with fail
          refine HP.out.mono ?_
          rintro e w2 k2
          obtain ⟨ta, tn, tc, ra, rn, rc, rfl, _, _, f2⟩ := k2.at
          have F2 := Lib.hid ((HFW.out.trans (HF.out.trans f2)).alloc (.cells (z.cells (.slice ta tn tc) (.slice ra rn rc)) 32))
          clear k2 f2 HP
          unfold Ev.val
          go_wp2_with ((with_reducible refine wpList_here (.store 32 (.tmp 8) (.tmp 36)) rfl ?_); refine wpList_store_new 32 (.tmp 8) (.tmp 36) rfl _ (z.cells (.slice ta tn tc) (.slice ra rn rc)) _ rfl rfl rfl Tryz.infoEv rfl (Ev.oneCell z ta ra tn tc rn rc) rfl rfl ?_)
          go_ret3
          exact ⟨.slice none 0 0, by simp, ⟨none, 0, rfl, Nat.le_refl _, by decide, .inl rfl⟩, F2.out, fun _ => rfl⟩
      · have hkl : LL.drop k = [] := List.drop_eq_nil_of_le (by omega)
        have hyk := HYK.out
        rw [hkl, readFrom] at hyk
        subst hyk
        have hkk : k = LL.length := by omega
        have HKK := Lib.hid hkk
        clear hkl HYK hf hown hkk
        go_wp2_with fail
        go_ret3
        exact ⟨u2, by rw [HKK.out]; rfl, HO.out.rd, HFW.out.trans HF.out, fun h => absurd rfl h⟩
  · have hLL := HLB.out (by simpa using hz)
    subst hLL
    have n1 : (z == []) = false := by simpa using hz
    have hLN := HROW.out.rd
    have HFW := Lib.hid HROW.out.frm
    clear HLA HLB HSP hwl hz HROW
    obtain ⟨W1, hW1⟩ : ∃ W1, W1 = w1 := ⟨_, rfl⟩
    subst hW1
    have HYL : Hid (readFrom (LL.drop 0) 0 [] = Y) := by rw [List.drop_zero]; exact HY0
    have HSH := HSH0
    have HLN := Lib.hid hLN
    have hnl : LL.length ≤ 1000000 := by omega
    obtain ⟨la, lc, hlv, hlc, hlm⟩ := HLN.out.form
    obtain ⟨rfl, _, rfl⟩ := Value.slice.inj hlv
    unfold maxLen at hlm
    clear hLN
    go_wp2_with fail
    go_loopw [2, 28] (fun o i wr => ∃ (k : Nat) (acc : List Ev), k ≤ LL.length ∧ i = .int .i64 k ∧ acc.length ≤ k ∧ Fr W1 wr ∧ OwX W1 wr o acc ∧ Hid (readFrom (LL.drop k) k acc = Y)) (fun _ i _ => LL.length - (intOf i).toNat)
    case atStart => exact ⟨0, [], Nat.zero_le _, rfl, Nat.le_refl _, by first | exact Fr.refl _ | exact (Fr.refl _).drew, OwX.nil _ _, HYL⟩
    case round =>
      clear HYL
      obtain ⟨k, acc, hk, rfl, hak, hf, hown, HYK⟩ := hrel
      have HF := Lib.hid hf
      have HO := Lib.hid hown
      by_cases hlt : k < LL.length
      · obtain ⟨b1, o1, cap1, he1, _, _, hb1, hc1⟩ := RdS.at (HLN.out.keep hf) hlt
        obtain ⟨hq1, _, hq2⟩ := Value.slice.inj he1
        obtain ⟨hq3, hq4⟩ : b1 = b0 ∧ o1 = off0 := by simp at hq1; exact ⟨hq1.1.symm, hq1.2.symm⟩
        subst hq3 hq4 hq2
        have c1 := hc1 k LL[k] (by simp [hlt])
        have hsh := HSH.out LL[k] (List.getElem_mem hlt)
        have hyk := HYK.out
        rw [List.drop_eq_getElem_cons hlt, readFrom] at hyk
        have HYN := Lib.hid hyk
        generalize LL[k] = t at c1 hsh HYN
        have HP := Lib.hid (Parse_txt t wr (HEN.out.keep (HFW.out.trans hf)) hsh)
        have hk1 : k < cap0 := by omega
        clear hc1 he1 hyk hf hown HYK
        rcases parseLn_cases t with ⟨x, okx, mx, lx, hx⟩ | hx
        · rw [hx] at HP HYN
          simp only [if_true] at HYN
          clear okx mx lx hx
          go_wp2_with fail
          refine HP.out.mono ?_
          rintro e w2 k2
          obtain ⟨ta, tn, tc, ra, rn, rc, rfl, ht2, hr2, f2⟩ := k2.at
          simp only at ht2 hr2
          have HT2 := Lib.hid (ht2.mono fun b (hz : wr.heap.size ≤ b) => show u2.ownBlock ≠ some b from fun e => by have := (HO.out.lt b e).2; omega)
          have HR2 := Lib.hid (hr2.mono fun b (hz : wr.heap.size ≤ b) => show u2.ownBlock ≠ some b from fun e => by have := (HO.out.lt b e).2; omega)
          have F2 := Lib.hid ((HF.out.trans f2).alloc (.cells (x.cells (.slice ta tn tc) (.slice ra rn rc)) 32))
          have HO2 := Lib.hid (HO.out.fr (f2.alloc (.cells (x.cells (.slice ta tn tc) (.slice ra rn rc)) 32)))
          have hN2 := BoxAt.new w2 (x.cells (.slice ta tn tc) (.slice ra rn rc)) 32
          clear k2 ht2 hr2 f2 HO HP
          unfold Ev.val
          go_wp2_with (first | ((with_reducible refine wpList_here (.store 32 (.tmp 8) (.tmp 36)) rfl ?_); refine wpList_store_new 32 (.tmp 8) (.tmp 36) rfl _ (x.cells (.slice ta tn tc) (.slice ra rn rc)) _ rfl rfl rfl Tryz.infoEv rfl (Ev.oneCell x ta ra tn tc rn rc) rfl rfl ?_) | ((with_reducible refine wpList_here (.load 32 (.tmp 8)) rfl ?_); refine wpList_load_box 32 (.tmp 8) rfl _ rfl (x.cells (.slice ta tn tc) (.slice ra rn rc)) hN2 _ Tryz.underlying32 rfl Tryz.infoEv rfl ?_) | (refine wpList_buildEvT _ rfl x (.slice ta tn tc) (.slice ra rn rc) ?hev rfl ?_))
          case hev => rfl
          intro w3 hf3 hB3
          have F3 := Lib.hid (F2.out.trans hf3)
          have HO3 := Lib.hid (HO2.out.fr hf3)
          have HT3 := Lib.hid ((HT2.out.fr ((Fr.refl w2).alloc (.cells (x.cells (.slice ta tn tc) (.slice ra rn rc)) 32))).fr hf3)
          have HR3 := Lib.hid ((HR2.out.fr ((Fr.refl w2).alloc (.cells (x.cells (.slice ta tn tc) (.slice ra rn rc)) 32))).fr hf3)
          have HB3 := Lib.hid hB3
          clear hf3 hB3 hN2 F2 HO2 HT2 HR2
          go_wp2_with (at_builtin; refine wpList_appendX rfl (.tmp 43) (.tmp 45) rfl u2 acc rfl HO3.out F3.out _ 1 x (.slice ta tn tc) (.slice ra rn rc) rfl (fun j u hj => by rw [Nat.zero_add, BoxAt.cell HB3.out]; simpa using hj) HT3.out HR3.out (by omega) ?_)
          intro v5 w5 hO5 hf5
          have HO5 := Lib.hid hO5
          have F5 := Lib.hid hf5
          clear hO5 hf5
          go_wp2_with fail
          go_roundw
          case rel => exact ⟨k + 1, acc ++ [x], by omega, by go_num, by simp; omega, F5.out, HO5.out, HYN⟩
          case measure => simp [intOf]; omega
        · rw [hx] at HP HYN
          have hY : Y = ([], k + 1, 4) := by rw [← HYN.out]; rfl
          subst hY
          clear hx HYN
          obtain ⟨z, hz⟩ : ∃ z, z = Ev.zero := ⟨_, rfl⟩
          rw [← hz] at HP
          clear hz
          go_wp2_with fail
          refine HP.out.mono ?_
          rintro e w2 k2
          obtain ⟨ta, tn, tc, ra, rn, rc, rfl, _, _, f2⟩ := k2.at
          have F2 := Lib.hid ((HFW.out.trans (HF.out.trans f2)).alloc (.cells (z.cells (.slice ta tn tc) (.slice ra rn rc)) 32))
          clear k2 f2 HP
          unfold Ev.val
          go_wp2_with ((with_reducible refine wpList_here (.store 32 (.tmp 8) (.tmp 36)) rfl ?_); refine wpList_store_new 32 (.tmp 8) (.tmp 36) rfl _ (z.cells (.slice ta tn tc) (.slice ra rn rc)) _ rfl rfl rfl Tryz.infoEv rfl (Ev.oneCell z ta ra tn tc rn rc) rfl rfl ?_)
          go_ret3
          exact ⟨.slice none 0 0, by simp, ⟨none, 0, rfl, Nat.le_refl _, by decide, .inl rfl⟩, F2.out, fun _ => rfl⟩
      · have hkl : LL.drop k = [] := List.drop_eq_nil_of_le (by omega)
        have hyk := HYK.out
        rw [hkl, readFrom] at hyk
        subst hyk
        have hkk : k = LL.length := by omega
        have HKK := Lib.hid hkk
        clear hkl HYK hf hown hkk
        go_wp2_with fail
        go_ret3
        exact ⟨u2, by rw [HKK.out]; rfl, HO.out.rd, HFW.out.trans HF.out, fun h => absurd rfl h⟩
theorem Read_txt (s : W8) (w : World) (hE : EnvT w) (hs : s.length ≤ 500000) (hsh : ∀ t ∈ linesOf s, t.length ≤ 20000) : Calls Tryz.prog 21 #[.string ⟨s.toArray⟩] w (ReadRet w (readT s)) :=
  (Read_txtS s w hE hs hsh).mono fun _ _ h => h.ret
end Go.Proofs.YtfklgaeejmeipaaGreatDoor

/- text.Read whose answer is known. No condition but the tables' content. -/
namespace Go.Proofs.YtfklgaeejmeipaaGreatDoor
open Go.RowKit

/-- A Read whose answer is known. -/
theorem readL_c (s : W8) (L : List Ev) (n e0 : Nat) (w : World) (hE : EnvT w) (hs : s.length ≤ 500000) (hsh : ∀ t ∈ linesOf s, t.length ≤ 20000) (h : readT s = (L, n, e0)) :
    Calls Tryz.prog 21 #[.string ⟨s.toArray⟩] w fun e w' => ∃ a c, e = .returned (.tuple #[.slice a L.length c, .int .i64 n, .int .i64 e0]) ∧ RdE w' (.slice a L.length c) L ∧ L.length ≤ c ∧ c ≤ maxLen ∧ Fr w w' := by
  have := Read_txt s w hE hs hsh
  rw [h] at this
  refine this.mono fun e w' k => ?_
  obtain ⟨v, he, h1, h2⟩ := k
  obtain ⟨a, c, rfl, g1, g2, _⟩ := id h1
  exact ⟨a, c, he, h1, g1, g2, h2⟩
/-- .. of a text that is refused. -/
theorem readN_c (s : W8) (n e0 : Nat) (w : World) (hE : EnvT w) (hs : s.length ≤ 500000) (hsh : ∀ t ∈ linesOf s, t.length ≤ 20000) (h : readT s = ([], n, e0)) (h0 : e0 ≠ 0) :
    Calls Tryz.prog 21 #[.string ⟨s.toArray⟩] w fun e w' => e = .returned (.tuple #[.slice none 0 0, .int .i64 n, .int .i64 e0]) ∧ Fr w w' := by
  have := Read_txtS s w hE hs hsh
  rw [h] at this
  refine this.mono fun e w' k => ?_
  obtain ⟨v, he, _, h2, h3⟩ := k
  obtain rfl := h3 h0
  exact ⟨he, h2⟩
end Go.Proofs.YtfklgaeejmeipaaGreatDoor
