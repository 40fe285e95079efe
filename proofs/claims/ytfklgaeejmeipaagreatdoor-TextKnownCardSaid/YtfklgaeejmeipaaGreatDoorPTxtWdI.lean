/- (*words).invoke, answer, none. No condition but what each says. -/
import Derived.Test.YtfklgaeejmeipaaGreatDoorPTxtWd
import Derived.Test.YtfklgaeejmeipaaGreatDoorPTxtEnv
import Derived.Test.YtfklgaeejmeipaaGreatDoorPParseP
import Derived.Test.YtfklgaeejmeipaaGreatDoorPResParse
import Derived.Deep.RegionHeld
import Derived.Test.YtfklgaeejmeipaaGreatDoorPArms
import Derived.OneCell
import Derived.Deep.RegionLaw
import Derived.Deep.AppendLies
import Derived.Test.YtfklgaeejmeipaaGreatDoorPEvCheck
set_option linter.all false
set_option linter.unusedVariables false
set_option linter.unusedSimpArgs false
set_option linter.unnecessarySimpa false
/- (*words).invoke, answer, none. No condition but what each says. -/
namespace Go.Proofs.YtfklgaeejmeipaaGreatDoor
open Go.RowKit

/-- A method of the words that returns nothing: the event is now this one, the words are those, all stands but block B. -/
def WdRet (w0 w : World) (B : Nat) (l : List W8) (x : Ev) (t r : Value) (e : Ending) (w' : World) : Prop := e = .returned (.tuple #[]) ∧ ∃ v', WdAt w0 w' B v' l x t r ∧ Oth B w w'
theorem op_may {l : List W8} (h : (parseOp l).2 = 0) : (parseOp l).1.Ok := parseOp_ok l
set_option maxRecDepth 100000 in
set_option maxHeartbeats 1000000 in
theorem invoke_yes {w0 w : World} {B : Nat} {v t r : Value} {l : List W8} {x : Ev} (h : WdAt w0 w B v l x t r) (hE : EnvT w0) (hs : ∀ s ∈ l, s.length < 1000000) (hp : (parseOp l).2 = 0) :
    Calls Tryz.prog 76 #[.pointer (some ⟨B, 0, none⟩)] w (WdRet w0 w B [] { x with op := (parseOp l).1 } t r) := by
  have hP := Parse_c v l w (hE.toEnv.keep h.frm) (h.rd.keep h.frm) hs
  unfold OpRet at hP
  rw [hp] at hP
  unfold OpD.val at hP
  have HP := Lib.hid hP
  have H := Lib.hid h
  generalize (parseOp l).1 = y at HP ⊢
  obtain ⟨a, cap, rfl, _, _⟩ := h.rd.form
  have c0 : w.cell? ⟨B, 0, none⟩ = some (.slice a l.length cap) := h.box.at 0 rfl
  clear hP h hp hE
  go_enter Tryz.func76, Tryz.ntmps76
  go_wp2_with fail
  refine HP.out.mono ?_
  rintro e w1 ⟨rfl, f1⟩
  have h1 := H.out.fr f1
  have H1 := Lib.hid h1
  have F1 := Lib.hid f1
  have hsz : w1.heap.size ≠ B := by have := h1.box.lt; omega
  have g0 := h1.box.free 0
  have g4 := h1.box.free 4
  have g5 := h1.box.free 5
  have g6 := h1.box.free 6
  have g7 := h1.box.free 7
  have g8 := h1.box.free 8
  have d0 : w1.cell? ⟨B, 0, none⟩ = some (.slice a l.length cap) := h1.box.at 0 rfl
  have d4 : w1.cell? ⟨B, 4, none⟩ = some (.int .u8 x.op.F) := h1.box.at 4 rfl
  have d5 : w1.cell? ⟨B, 5, none⟩ = some (.int .u8 x.op.O) := h1.box.at 5 rfl
  have d6 : w1.cell? ⟨B, 6, none⟩ = some (.int .u8 x.op.K) := h1.box.at 6 rfl
  have d7 : w1.cell? ⟨B, 7, none⟩ = some (.int .u16 x.op.A) := h1.box.at 7 rfl
  have d8 : w1.cell? ⟨B, 8, none⟩ = some (.int .u16 x.op.B) := h1.box.at 8 rfl
  have hlt := h1.box.lt
  clear h1 f1 H HP c0
  go_wp2_with fail
  go_end0
  have k : Oth B w1 _ := ((((((Oth.refl B w1).set 4 (.int .u8 y.F)).set 5 (.int .u8 y.O)).set 6 (.int .u8 y.K)).set 7 (.int .u16 y.A)).set 8 (.int .u16 y.B)).set 0 (.slice none 0 0)
  have hb := (((((H1.out.box.setAt 4 (.int .u8 y.F)).setAt 5 (.int .u8 y.O)).setAt 6 (.int .u8 y.K)).setAt 7 (.int .u16 y.A)).setAt 8 (.int .u16 y.B)).setAt 0 (.slice none 0 0)
  have hw : WdAt w0 _ B (.slice none 0 0) [] { x with op := y } t r := ⟨k.fr H1.out.frm H1.out.ge, H1.out.ge, hb, RdS.nil _⟩
  exact ⟨rfl, _, hw.fr ((Fr.refl _).alloc _), ((Oth.of_fr F1.out).trans k).trans (Oth.of_fr ((Fr.refl _).alloc _))⟩
set_option maxRecDepth 100000 in
set_option maxHeartbeats 1000000 in
theorem invoke_no {w0 w : World} {B : Nat} {v t r : Value} {l : List W8} {x : Ev} (h : WdAt w0 w B v l x t r) (hE : EnvT w0) (hs : ∀ s ∈ l, s.length < 1000000) (hp : (parseOp l).2 ≠ 0) :
    Calls Tryz.prog 76 #[.pointer (some ⟨B, 0, none⟩)] w (GaveUp w0) := by
  have hP := Parse_c v l w (hE.toEnv.keep h.frm) (h.rd.keep h.frm) hs
  unfold OpRet at hP
  rw [(parseOp_none (l := l) (x := (parseOp l).1) (e := (parseOp l).2) rfl hp).2] at hP
  unfold OpD.val at hP
  have HP := Lib.hid hP
  have HF := Lib.hid h.frm
  generalize (parseOp l).1 = y at HP ⊢
  obtain ⟨a, cap, rfl, _, _⟩ := h.rd.form
  have c0 : w.cell? ⟨B, 0, none⟩ = some (.slice a l.length cap) := h.box.at 0 rfl
  clear hP h hp hE
  go_enter Tryz.func76, Tryz.ntmps76
  go_wp2_with fail
  refine HP.out.mono ?_
  rintro e w1 ⟨rfl, f1⟩
  have F1 := Lib.hid (HF.out.trans f1)
  clear f1 HP
  go_wp2_with fail
  exact ⟨rfl, rfl, F1.out.alloc _⟩
set_option maxRecDepth 100000 in
set_option maxHeartbeats 1000000 in
theorem answer_yes {w0 w : World} {B : Nat} {v t r : Value} {l : List W8} {x : Ev} (h : WdAt w0 w B v l x t r) (hE : EnvT w0) (hl : (Lib.join l [32]).length < 1000000) (hn : l.length < 1000000) (hp : (parseRes (Lib.join l [32])).2.2 = 0) :
    Calls Tryz.prog 77 #[.pointer (some ⟨B, 0, none⟩)] w (WdRet w0 w B [] { x with rk := (parseRes (Lib.join l [32])).1, rv := (parseRes (Lib.join l [32])).2.1 } t r) := by
  have hJ := JoinC_c 32 v l w (h.rd.keep h.frm) hl hn
  have hP := fun W (f : Fr w0 W) => resParse_c (Lib.join l [32]) W (hE.r.keep f) hl
  unfold ResRet at hP
  rw [hp] at hP
  have HP := Lib.hid hP
  have HJ := Lib.hid hJ
  have H := Lib.hid h
  generalize (parseRes (Lib.join l [32])).2.1 = yv at HP ⊢
  generalize (parseRes (Lib.join l [32])).1 = yk at HP ⊢
  generalize Lib.join l [32] = js at HP HJ
  obtain ⟨a, cap, rfl, _, _⟩ := h.rd.form
  have c0 : w.cell? ⟨B, 0, none⟩ = some (.slice a l.length cap) := h.box.at 0 rfl
  clear hP hJ h hp hE hl
  go_enter Tryz.func77, Tryz.ntmps77
  go_wp2_with fail
  refine HJ.out.mono ?_
  rintro e w2 ⟨rfl, f2⟩
  have h2 := H.out.fr f2
  have F2 := Lib.hid f2
  have H2 := Lib.hid h2
  clear h2 f2 c0
  go_wp2_with fail
  refine (HP.out _ (by first | exact H2.out.frm | exact H2.out.frm.drew)).mono ?_
  rintro e w1 ⟨rfl, f1⟩
  have h1 := H2.out.fr f1
  have H1 := Lib.hid h1
  have F1 := Lib.hid f1
  have hsz : w1.heap.size ≠ B := by have := h1.box.lt; omega
  have g0 := h1.box.free 0
  have g9 := h1.box.free 9
  have g10 := h1.box.free 10
  have d0 : w1.cell? ⟨B, 0, none⟩ = some (.slice a l.length cap) := h1.box.at 0 rfl
  have d9 : w1.cell? ⟨B, 9, none⟩ = some (.int .u8 x.rk) := h1.box.at 9 rfl
  have d10 : w1.cell? ⟨B, 10, none⟩ = some (.int .u16 x.rv) := h1.box.at 10 rfl
  have hlt := h1.box.lt
  clear h1 f1 H HP HJ
  go_wp2_with fail
  go_end0
  have k : Oth B w1 _ := (((Oth.refl B w1).set 9 (.int .u8 yk)).set 10 (.int .u16 yv)).set 0 (.slice none 0 0)
  have hb := ((H1.out.box.setAt 9 (.int .u8 yk)).setAt 10 (.int .u16 yv)).setAt 0 (.slice none 0 0)
  have hw : WdAt w0 _ B (.slice none 0 0) [] { x with rk := yk, rv := yv } t r := ⟨k.fr H1.out.frm H1.out.ge, H1.out.ge, hb, RdS.nil _⟩
  exact ⟨rfl, _, hw.fr ((Fr.refl _).alloc _), (((Oth.of_fr F2.out).trans (Oth.of_fr F1.out)).trans k).trans (Oth.of_fr ((Fr.refl _).alloc _))⟩
set_option maxRecDepth 100000 in
set_option maxHeartbeats 1000000 in
theorem answer_no {w0 w : World} {B : Nat} {v t r : Value} {l : List W8} {x : Ev} (h : WdAt w0 w B v l x t r) (hE : EnvT w0) (hl : (Lib.join l [32]).length < 1000000) (hn : l.length < 1000000) (hp : (parseRes (Lib.join l [32])).2.2 ≠ 0) :
    Calls Tryz.prog 77 #[.pointer (some ⟨B, 0, none⟩)] w (GaveUp w0) := by
  have hJ := JoinC_c 32 v l w (h.rd.keep h.frm) hl hn
  have hP := fun W (f : Fr w0 W) => resParse_c (Lib.join l [32]) W (hE.r.keep f) hl
  unfold ResRet at hP
  rw [(parseRes_none (s := Lib.join l [32]) (K := (parseRes (Lib.join l [32])).1) (V := (parseRes (Lib.join l [32])).2.1) (e := (parseRes (Lib.join l [32])).2.2) rfl hp).2.2] at hP
  have HP := Lib.hid hP
  have HJ := Lib.hid hJ
  have HF := Lib.hid h.frm
  generalize (parseRes (Lib.join l [32])).2.1 = yv at HP ⊢
  generalize (parseRes (Lib.join l [32])).1 = yk at HP ⊢
  generalize Lib.join l [32] = js at HP HJ
  obtain ⟨a, cap, rfl, _, _⟩ := h.rd.form
  have c0 : w.cell? ⟨B, 0, none⟩ = some (.slice a l.length cap) := h.box.at 0 rfl
  clear hP hJ h hp hE hl
  go_enter Tryz.func77, Tryz.ntmps77
  go_wp2_with fail
  refine HJ.out.mono ?_
  rintro e w2 ⟨rfl, f2⟩
  have F2 := Lib.hid (HF.out.trans f2)
  clear f2 c0
  go_wp2_with fail
  refine (HP.out _ (by first | exact F2.out | exact F2.out.drew)).mono ?_
  rintro e w1 ⟨rfl, f1⟩
  have F1 := Lib.hid (F2.out.trans f1)
  clear f1 HP HJ
  go_wp2_with fail
  exact ⟨rfl, rfl, F1.out.alloc _⟩
set_option maxRecDepth 100000 in
theorem none_c {w0 w : World} {B : Nat} {v t r : Value} {l : List W8} {x : Ev} (h : WdAt w0 w B v l x t r) :
    Calls Tryz.prog 78 #[.pointer (some ⟨B, 0, none⟩)] w (WdRet w0 w B l x t r) := by
  have H := Lib.hid h
  clear h
  go_enter Tryz.func78, Tryz.ntmps78
  go_wp2
  go_end0
  exact ⟨rfl, v, H.out, Oth.refl _ _⟩
end Go.Proofs.YtfklgaeejmeipaaGreatDoor

/- (*words).config. No condition but what each says. -/
namespace Go.Proofs.YtfklgaeejmeipaaGreatDoor
open Go.RowKit

/-- It gives up, or the event is now this one and the words are those. -/
def WdOut (w0 w : World) (B : Nat) (t r : Value) (o : Option (Ev × List W8)) (e : Ending) (w' : World) : Prop := match o with | none => GaveUp w0 e w' | some y => WdRet w0 w B y.2 y.1 t r e w'
theorem modelOf_le (s : W8) : ∀ k, modelOf s k ≤ k
  | 0 => Nat.le_refl _
  | k + 1 => by
    rw [modelOf]
    split
    · exact Nat.le_refl _
    · have := modelOf_le s k; omega
/-- The config behind so many models. -/
def mcfg (s : W8) (k : Nat) : Cfg := { Cfg.zero with model := modelOf s k - 1 }
section
variable {P : Program} {ops : Array Oper} {Q : Exit → Act → World → Prop} {K : Act → World → Prop} {i : Nat} {o : Oper} {a : Act} {w : World}
/-- A call that panics. -/
theorem wpOp_panicT (ho : ops[i]? = some o) (hg : Region.wanted o (yielded ops a.tmps) = true) (f : FuncId) (args : Array Value) (hrun : (execOp a.eval o).run P w = .ok (.enter f args) w)
    (h : Calls P f args w fun e w' => ∃ ch, e = .panicked ch ∧ Q (.panic ch) a w') : wpOp P ops Q i K a w := by
  unfold wpOp
  simp only [ho]
  rw [if_pos hg]
  left
  unfold Oper.wp
  rw [hrun, Oper.upon_enter]
  exact h.mono fun e w' ⟨v, he, hk⟩ => by subst he; exact hk
end
def wcPr (B : Nat) (j : Nat) (w : World) (v : Value) : Prop := match j with
  | 0 => v = .pointer (some ⟨B, 0, none⟩)
  | 1 => False
  | 2 => v = .pointer (some ⟨B, 0, none⟩)
  | 3 => v = .pointer (some ⟨B, 0, none⟩)
  | 4 => v = .pointer (some ⟨B, 1, none⟩)
  | 5 => v = .pointer (some ⟨B, 13, none⟩)
  | _ => True
def wcD (j : Nat) : Nat := if j = 6 then 2 else 6 + j
theorem wcD_inj : ∀ i, i < 7 → ∀ j, j < 7 → i ≠ j → wcD i ≠ wcD j := by decide
theorem wcD_lt : ∀ j, j < 7 → wcD j < 60 := by decide
theorem wcD_ne : ∀ j, j < 7 → 0 ≠ wcD j := by decide
theorem wcPr_fr (B : Nat) (j : Nat) (w w' : World) (v : Value) (f : Fr w w') (h : wcPr B j w v) : wcPr B j w' v := h
set_option maxRecDepth 100000 in
set_option maxHeartbeats 1000000 in
theorem wconfig_nil {w0 w : World} {B : Nat} {v t r : Value} {x : Ev} (h : WdAt w0 w B v [] x t r) :
    Calls Tryz.prog 75 #[.pointer (some ⟨B, 0, none⟩)] w (GaveUp w0) := by
  have HT := Lib.hid (fun W (f : Fr w W) => take_no (h.fr f))
  have HF := Lib.hid h.frm
  clear h
  go_enter Tryz.func75, Tryz.ntmps75
  go_wp2_with fail
  refine wp_region_preds_tailD (m := 7) (g := 1) (d := wcD) (Pr := wcPr B) (by kernel_rfl) rfl (by omega) (by kernel_rfl) (by kernel_rfl) (by kernel_rfl) (by kernel_rfl) (fun i j hi hj hne => wcD_inj i hi j hj hne) (fun j hj => wcD_lt j hj) (fun j hj w w' v f h => wcPr_fr _ j w w' v f h) ?hop ?hend
  case hop =>
    intro j hj K a w' hdf hf hw ho hK
    have e0 : a.tmps[0]? = some (.pointer (some ⟨B, 0, none⟩)) := (ho 0 (fun j hj => wcD_ne j hj)).trans rfl
    rcases (show j = 0 ∨ j = 1 ∨ j = 2 ∨ j = 3 ∨ j = 4 ∨ j = 5 ∨ j = 6 by omega) with rfl | rfl | rfl | rfl | rfl | rfl | rfl
    · exact wpOp_runT rfl (wanted_plain rfl _) (.pointer (some ⟨B, 0, none⟩)) w' (by unfold execOp; simp [go_sem, e0]) (hK _ w' (Fr.refl _) rfl)
    · obtain ⟨v6, (e6 : a.tmps[6]? = _), (q6 : v6 = _)⟩ := hw 0 (by omega) (by kernel_rfl)
      rw [q6] at e6
      exact wpOp_panicT rfl (wanted_plain rfl _) 44 #[.pointer (some ⟨B, 0, none⟩)] (run_call Tryz.func44 (by kernel_rfl) rfl _ _ rfl _ (by simp [Act.eval, e6])) ((HT.out w' hf).mono fun e w2 ⟨he, hw2⟩ => ⟨_, he, ⟨hdf, rfl, (HF.out.trans hf).trans hw2⟩⟩)
    · exact wpOp_runT rfl (wanted_plain rfl _) (.pointer (some ⟨B, 0, none⟩)) w' (by unfold execOp; simp [go_sem, e0]) (hK _ w' (Fr.refl _) rfl)
    · obtain ⟨v8, (e8 : a.tmps[8]? = _), (q8 : v8 = _)⟩ := hw 2 (by omega) (by kernel_rfl)
      rw [q8] at e8
      exact wpOp_runT rfl (wanted_plain rfl _) (.pointer (some ⟨B, 0, none⟩)) w' (by unfold execOp; simp [go_sem, e8]) (hK _ w' (Fr.refl _) rfl)
    · obtain ⟨v9, (e9 : a.tmps[9]? = _), (q9 : v9 = _)⟩ := hw 3 (by omega) (by kernel_rfl)
      rw [q9] at e9
      exact wpOp_runT rfl (wanted_plain rfl _) (.pointer (some ⟨B, 1, none⟩)) w' (by unfold execOp; simp [go_sem, e9]) (hK _ w' (Fr.refl _) rfl)
    · obtain ⟨v10, (e10 : a.tmps[10]? = _), (q10 : v10 = _)⟩ := hw 4 (by omega) (by kernel_rfl)
      rw [q10] at e10
      exact wpOp_runT rfl (wanted_plain rfl _) (.pointer (some ⟨B, 13, none⟩)) w' (by unfold execOp; simp [go_sem, e10]) (hK _ w' (Fr.refl _) rfl)
    · obtain ⟨v7, _, q7⟩ := hw 1 (by omega) (by kernel_rfl)
      exact absurd q7 id
  case hend =>
    intro f w2 hf2 hP
    exact absurd (hP 1 (by omega)) id
theorem numN_short {most : Int} {l l' : List W8} {n : Nat} (h : numN most l = some (n, l')) (hs : ∀ s ∈ l, s.length < 1000000) : ∀ s ∈ l', s.length < 1000000 := by
  obtain ⟨q, rfl⟩ := numN_some h
  exact fun s hm => hs s (by simp [hm])
set_option maxRecDepth 100000 in
set_option maxHeartbeats 1000000 in
theorem wconfig_cons {w0 w : World} {B : Nat} {v t r : Value} {s : W8} {l : List W8} {x : Ev} (h : WdAt w0 w B v (s :: l) x t r) (hx : x.cfg = Cfg.zero) (hE : EnvT w0) (hs : ∀ s ∈ l, s.length < 1000000) :
    Calls Tryz.prog 75 #[.pointer (some ⟨B, 0, none⟩)] w (WdOut w0 w B t r ((cfgN (s :: l)).map fun c => ({ x with cfg := c.1 }, c.2))) := by
  have HT := Lib.hid (take_c (h.fr (Fr.refl w).drew))
  generalize hOq : (cfgN (s :: l)).map (fun c => (({ x with cfg := c.1 }, c.2) : Ev × List W8)) = O
  have HO := Lib.hid hOq
  clear hOq
  have HE := Lib.hid hE
  clear h hE
  go_enter Tryz.func75, Tryz.ntmps75
  go_wp2_with fail
  go_region_held (fun _ => True) (trivial) ((go_at_call 44; refine HT.out.mono ?_; rintro e w1 ⟨rfl, v1, h1, k1⟩))
  have H1 := Lib.hid h1
  have K1 := Lib.hid k1
  clear h1 k1
  go_wp2_with fail
  go_loopw [4, 12] (fun kn i wr => ∃ k : Nat, k ≤ 5 ∧ i = .int .i64 k ∧ kn = .bool (decide (modelOf s k ≠ 0)) ∧ WdAt w0 wr B v1 l { x with cfg := mcfg s k } t r ∧ Oth B w wr) (fun _ i _ => 5 - (intOf i).toNat)
  case atStart =>
    refine ⟨0, Nat.zero_le _, rfl, rfl, ?_, (Oth.of_fr (Fr.refl w).drew).trans K1.out⟩
    have : mcfg s 0 = x.cfg := by rw [hx]; rfl
    rw [this]
    exact H1.out
  case round =>
    obtain ⟨k, hk, rfl, rfl, hW, hO⟩ := hrel
    by_cases hlt : k < 5
    · have gm := hW.frm.keep (HE.out.modelsT k hlt)
      have d13 : wr.cell? ⟨B, 13, none⟩ = some (.int .u8 (mcfg s k).model) := hW.box.at 13 rfl
      have f13 := hW.box.free 13
      have HW := Lib.hid hW
      have HOT := Lib.hid hO
      have hkw : IntKind.u8.wrap (k : Int) = k := by simp [IntKind.wrap, IntKind.bits, IntKind.signed]; omega
      have hk5 : ¬ (5 : Int) ≤ k := by omega
      clear hW hO
      by_cases he : modelW k = s
      · have HM := Lib.hid (show modelOf s (k + 1) = k + 1 by rw [modelOf, if_pos he])
        have hds : decide (modelOf s k ≠ 0) = decide (modelOf s k ≠ 0) := rfl
        generalize decide (modelOf s k ≠ 0) = kb
        rw [he] at gm
        clear he hds
        have hms : ((s == s) = true) := by simp
        go_wp2_with fail
        refine ⟨⟨k + 1, by omega, by go_num, by rw [HM.out]; simp, ?_, HOT.out.set 13 _⟩, by simp [intOf]; omega⟩
        have hcf : mcfg s (k + 1) = { mcfg s k with model := k } := by unfold mcfg; rw [HM.out]; rfl
        rw [hcf]
        exact ⟨((Oth.refl B wr).set 13 _).fr HW.out.frm HW.out.ge, HW.out.ge, HW.out.box.setAt 13 _, HW.out.rd⟩
      · have e1 : (modelW k == s) = false := by simpa using he
        have HM := Lib.hid (show modelOf s (k + 1) = modelOf s k by rw [modelOf, if_neg he])
        have HKB := Lib.hid (rfl : decide (modelOf s k ≠ 0) = decide (modelOf s k ≠ 0))
        generalize hkb : decide (modelOf s k ≠ 0) = kb at HKB ⊢
        have HKB2 := Lib.hid hkb
        clear hkb HKB he
        generalize modelW k = m at gm e1
        go_wp2_with fail
        go_roundw
        case rel => exact ⟨k + 1, by omega, by go_num, by rw [HM.out, HKB2.out], by unfold mcfg; rw [HM.out]; exact HW.out, HOT.out⟩
        case measure => simp [intOf]; omega
    · have hk5 : k = 5 := by omega
      subst hk5
      have HW := Lib.hid hW
      have HOT := Lib.hid hO
      clear hW hO hlt hk H1 K1 HT
      by_cases h0 : modelOf s 5 = 0
      · have HN := Lib.hid (show O = none by rw [← HO.out]; simp [cfgN, h0])
        have hkb : decide (modelOf s 5 ≠ 0) = false := by simp [h0]
        rw [hkb]
        clear hkb h0 HO
        go_wp2_with fail
        rw [HN.out]
        exact ⟨rfl, rfl, HW.out.frm⟩
      · have hkb : decide (modelOf s 5 ≠ 0) = true := by simp [h0]
        rw [hkb]
        clear hkb
        have HM0 := Lib.hid h0
        clear h0
        rcases hn1 : numN 32 l with _ | ⟨n1, l1⟩
        · have HN := Lib.hid (show O = none by rw [← HO.out]; simp [cfgN, HM0.out, hn1])
          have HC := Lib.hid (number_no HW.out HE.out.toEnv0 hs hn1)
          clear hn1 HO
          go_wp2_with fail
          refine HC.out.mono ?_
          rintro e w2 ⟨rfl, f2⟩
          rw [HN.out]
          exact ⟨rfl, rfl, f2⟩
        have hs1 := numN_short hn1 hs
        have HC1 := Lib.hid (number_yes HW.out hs hn1)
        have HN1 := Lib.hid hn1
        clear hn1
        go_wp2_with fail
        refine HC1.out.mono ?_
        rintro e w2 ⟨rfl, v2, W2, O2⟩
        have HW2 := Lib.hid W2
        have HO2 := Lib.hid (HOT.out.trans O2)
        clear W2 O2 HC1
        rcases hn2 : numN 4096 l1 with _ | ⟨n2, l2⟩
        · have HN := Lib.hid (show O = none by rw [← HO.out]; simp [cfgN, HM0.out, HN1.out, hn2])
          have HC := Lib.hid (number_no HW2.out HE.out.toEnv0 hs1 hn2)
          clear hn2 HO
          go_wp2_with fail
          refine HC.out.mono ?_
          rintro e w3 ⟨rfl, f3⟩
          rw [HN.out]
          exact ⟨rfl, rfl, f3⟩
        have hs2 := numN_short hn2 hs1
        have HC2 := Lib.hid (number_yes HW2.out hs1 hn2)
        have HN2 := Lib.hid hn2
        clear hn2
        go_wp2_with fail
        refine HC2.out.mono ?_
        rintro e w3 ⟨rfl, v3, W3, O3⟩
        have HW3 := Lib.hid W3
        have HO3 := Lib.hid (HO2.out.trans O3)
        clear W3 O3 HC2
        rcases hn3 : numN 1048576 l2 with _ | ⟨n3, l3⟩
        · have HN := Lib.hid (show O = none by rw [← HO.out]; simp [cfgN, HM0.out, HN1.out, HN2.out, hn3])
          have HC := Lib.hid (number_no HW3.out HE.out.toEnv0 hs2 hn3)
          clear hn3 HO
          go_wp2_with fail
          refine HC.out.mono ?_
          rintro e w4 ⟨rfl, f4⟩
          rw [HN.out]
          exact ⟨rfl, rfl, f4⟩
        have HC3 := Lib.hid (number_yes HW3.out hs2 hn3)
        have HN := Lib.hid (show O = some ({ x with cfg := ⟨modelOf s 5 - 1, n1, n2, n3, (isN partitionW l3).1, (isN cutW (isN partitionW l3).2).1, (isN memoW (isN cutW (isN partitionW l3).2).2).1⟩ }, (isN memoW (isN cutW (isN partitionW l3).2).2).2) by rw [← HO.out]; simp [cfgN, HM0.out, HN1.out, HN2.out, hn3])
        clear hn3 HO hs hs1 hs2
        go_wp2_with fail
        refine HC3.out.mono ?_
        rintro e w4 ⟨rfl, v4, W4, O4⟩
        have HW4 := Lib.hid W4
        have HO4 := Lib.hid (HO3.out.trans O4)
        have d14 : w4.cell? ⟨B, 14, none⟩ = some (.int .i64 0) := W4.box.at 14 rfl
        have d15 : w4.cell? ⟨B, 15, none⟩ = some (.int .i64 0) := W4.box.at 15 rfl
        have d16 : w4.cell? ⟨B, 16, none⟩ = some (.int .i64 0) := W4.box.at 16 rfl
        have f14 := W4.box.free 14
        have f15 := W4.box.free 15
        have f16 := W4.box.free 16
        clear W4 O4 HC3 HW3 HO3 HW2 HO2 HW HOT HN1 HN2
        have k5 : Oth B w4 _ := (((Oth.refl B w4).set 14 (.int .i64 n1)).set 15 (.int .i64 n2)).set 16 (.int .i64 n3)
        have b5 := ((HW4.out.box.setAt 14 (.int .i64 n1)).setAt 15 (.int .i64 n2)).setAt 16 (.int .i64 n3)
        have W5 : WdAt w0 _ B v4 l3 { x with cfg := ⟨modelOf s 5 - 1, n1, n2, n3, false, false, false⟩ } t r := ⟨k5.fr HW4.out.frm HW4.out.ge, HW4.out.ge, b5, HW4.out.rd⟩
        have HW5 := Lib.hid W5
        have HO5 := Lib.hid (HO4.out.trans k5)
        have HC5 := Lib.hid (is_c (q := partitionW) W5)
        clear k5 b5 W5
        go_wp2_with fail
        refine HC5.out.mono ?_
        rintro e w6 ⟨rfl, v6, W6, O6⟩
        have HW6 := Lib.hid W6
        have HO6 := Lib.hid (HO5.out.trans O6)
        have HC6 := Lib.hid (is_c (q := cutW) W6)
        clear W6 O6 HC5
        go_wp2_with fail
        refine HC6.out.mono ?_
        rintro e w7 ⟨rfl, v7, W7, O7⟩
        have HW7 := Lib.hid W7
        have HO7 := Lib.hid (HO6.out.trans O7)
        have HC7 := Lib.hid (is_c (q := memoW) W7)
        clear W7 O7 HC6
        go_wp2_with fail
        refine HC7.out.mono ?_
        rintro e w8 ⟨rfl, v8, W8', O8⟩
        have HW8 := Lib.hid W8'
        have HO8 := Lib.hid (HO7.out.trans O8)
        have d17 : w8.cell? ⟨B, 17, none⟩ = some (.bool false) := W8'.box.at 17 rfl
        have d18 : w8.cell? ⟨B, 18, none⟩ = some (.bool false) := W8'.box.at 18 rfl
        have d19 : w8.cell? ⟨B, 19, none⟩ = some (.bool false) := W8'.box.at 19 rfl
        have f17 := W8'.box.free 17
        have f18 := W8'.box.free 18
        have f19 := W8'.box.free 19
        clear W8' O8 HC7 HW7 HO7 HW6 HO6 HW5 HO5 HW4 HO4
        generalize (isN memoW (isN cutW (isN partitionW l3).2).2).2 = l6 at HW8 HN
        generalize (isN memoW (isN cutW (isN partitionW l3).2).2).1 = b3 at HN ⊢
        generalize (isN cutW (isN partitionW l3).2).1 = b2 at HN ⊢
        generalize (isN partitionW l3).1 = b1 at HN ⊢
        have k9 : Oth B w8 _ := (((Oth.refl B w8).set 17 (.bool b1)).set 18 (.bool b2)).set 19 (.bool b3)
        have b9 := ((HW8.out.box.setAt 17 (.bool b1)).setAt 18 (.bool b2)).setAt 19 (.bool b3)
        have W9 : WdAt w0 _ B v8 l6 { x with cfg := ⟨modelOf s 5 - 1, n1, n2, n3, b1, b2, b3⟩ } t r := ⟨k9.fr HW8.out.frm HW8.out.ge, HW8.out.ge, b9, HW8.out.rd⟩
        have HW9 := Lib.hid W9
        have HO9 := Lib.hid (HO8.out.trans k9)
        clear k9 b9 W9 HW8 HO8
        go_wp2_with fail
        go_end0
        rw [HN.out]
        exact ⟨rfl, v8, HW9.out, HO9.out⟩
theorem wconfig_c {w0 w : World} {B : Nat} {v t r : Value} {l : List W8} {x : Ev} (h : WdAt w0 w B v l x t r) (hx : x.cfg = Cfg.zero) (hE : EnvT w0) (hs : ∀ s ∈ l, s.length < 1000000) :
    Calls Tryz.prog 75 #[.pointer (some ⟨B, 0, none⟩)] w (WdOut w0 w B t r ((cfgN l).map fun c => ({ x with cfg := c.1 }, c.2))) := by
  cases l with
  | nil => exact wconfig_nil h
  | cons s l => exact wconfig_cons h hx hE fun q hq => hs q (by simp [hq])
end Go.Proofs.YtfklgaeejmeipaaGreatDoor

/- (*words).begin: what a round does, plain, and the state between rounds. No condition but what each says. -/
namespace Go.Proofs.YtfklgaeejmeipaaGreatDoor
open Go.RowKit

theorem Tryz.infoMicT : (Tryz.prog.info? 58).map (fun i => (i.zero, i.size, i.bytes)) = some (some (.agg #[.bool false, .int .u8 0, .int .u16 0]), 3, 4) := by kernel_rfl
theorem micCells_snocT (l : List Mic) (m : Mic) : micCells (l ++ [m]) = micCells l ++ m.cells := by simp [micCells]
/-- The next micro, and the words behind it. -/
def micStep (l : List W8) : Option (Mic × List W8) :=
  if (isN readW l).1 then (numN 8 (isN readW l).2).map fun a => (⟨true, a.1, 0⟩, a.2)
  else if (isN appendW (isN readW l).2).1 then
    match numN 8 (isN appendW (isN readW l).2).2 with
    | none => none
    | some a => (numN 65535 a.2).map fun b => (⟨false, a.1, b.1⟩, b.2)
  else none
theorem micsN_step {l : List W8} (h : l ≠ []) : micsN l = match micStep l with | none => none | some m => (micsN m.2).map (m.1 :: ·) := by
  have hra : readW ≠ appendW := by decide
  cases l with
  | nil => exact absurd rfl h
  | cons s r =>
    unfold micStep
    rw [isN_cons]
    by_cases hr : s = readW
    · subst hr
      simp only [if_true]
      cases r with
      | nil => rfl
      | cons k q =>
        rw [micsN_two, if_pos rfl, numN_cons]
        cases digW 8 k <;> rfl
    · simp only [if_neg hr, Bool.false_eq_true, if_false]
      rw [isN_cons]
      by_cases ha : s = appendW
      · subst ha
        simp only [if_true]
        cases r with
        | nil => rfl
        | cons k q =>
          rw [micsN_two, if_neg hr, if_pos rfl, numN_cons]
          cases q with
          | nil =>
            cases digW 8 k <;> rfl
          | cons v q =>
            cases hd : digW 8 k with
            | none => rfl
            | some a =>
              simp only [Option.map_some]
              rw [numN_cons]
              cases digW 65535 v <;> rfl
      · simp only [if_neg ha, Bool.false_eq_true, if_false]
        cases r with
        | nil => rfl
        | cons k q => rw [micsN_two, if_neg hr, if_neg ha]
theorem isN_len (q : W8) (l : List W8) : (isN q l).2.length ≤ l.length := by
  cases l with
  | nil => exact Nat.le_refl _
  | cons s l => rw [isN_cons]; split <;> simp
theorem numN_len {most : Int} {l l' : List W8} {n : Nat} (h : numN most l = some (n, l')) : l'.length < l.length := by
  obtain ⟨s, rfl⟩ := numN_some h
  simp
theorem isN_short (q : W8) {l : List W8} (hs : ∀ s ∈ l, s.length < 1000000) : ∀ s ∈ (isN q l).2, s.length < 1000000 := by
  cases l with
  | nil => exact hs
  | cons s l =>
    rw [isN_cons]
    split
    · exact fun y hy => hs y (by simp [hy])
    · exact hs
theorem ownsRow_oth {w w' : World} {base B : Nat} {e : TypeId} {sz : Nat} {v : Value} {n : Nat} {xs : List Value} (h : w.ownsRow base e sz v n xs) (f : Oth B w w') (hB : B < base) : w'.ownsRow base e sz v n xs := by
  obtain ⟨h1, h2⟩ := h
  refine ⟨h1, ?_⟩
  rcases h2 with h2 | ⟨g, cap, cur, hv, hg, hh, h3⟩
  · exact .inl h2
  · refine .inr ⟨g, cap, cur, hv, hg, ?_, h3⟩
    rw [f.block g (by rcases Nat.lt_or_ge g w.heap.size with k | k; exact k; rw [Array.getElem?_eq_none k] at hh; cases hh) (by omega)]
    exact hh
theorem BoxAt.oth {w w' : World} {b B : Nat} {c : Array Value} {t : TypeId} (h : BoxAt w b c t) (f : Oth B w w') (hb : b ≠ B) : BoxAt w' b c t := (f.block b h.lt hb).trans h
/-- Between the rounds. -/
structure BegSt (w0 w : World) (B : Nat) (x : Ev) (r : Value) (v tv : Value) (l : List W8) (acc : List Mic) (wr : World) : Prop where
  wd : WdAt w0 wr B v l { x with txn := acc } tv r
  own : wr.ownsRow w.heap.size 58 3 tv acc.length (micCells acc)
  oth : Oth B w wr
  lt : B < w.heap.size
theorem BegSt.call {w0 w wr w1 : World} {B : Nat} {x : Ev} {r v v' tv : Value} {l l' : List W8} {acc : List Mic} (h : BegSt w0 w B x r v tv l acc wr) (h1 : WdAt w0 w1 B v' l' { x with txn := acc } tv r) (k : Oth B wr w1) : BegSt w0 w B x r v' tv l' acc w1 :=
  ⟨h1, ownsRow_oth h.own k h.lt, h.oth.trans k, h.lt⟩
theorem BegSt.fr {w0 w wr w1 : World} {B : Nat} {x : Ev} {r v tv : Value} {l : List W8} {acc : List Mic} (h : BegSt w0 w B x r v tv l acc wr) (f : Fr wr w1) : BegSt w0 w B x r v tv l acc w1 := h.call (h.wd.fr f) (Oth.of_fr f)
theorem BegSt.setNew {w0 w wr : World} {B : Nat} {x : Ev} {r v tv : Value} {l : List W8} {acc : List Mic} (h : BegSt w0 w B x r v tv l acc wr) {b : Nat} (hb : w.heap.size ≤ b) (hbv : tv.ownBlock ≠ some b) (o : Nat) (u : Value) : BegSt w0 w B x r v tv l acc (wr.setCell ⟨b, o, none⟩ u) := by
  have hlt := h.lt
  have hge := h.wd.ge
  refine ⟨⟨?_, h.wd.ge, h.wd.box.set (by show b ≠ B; omega) u, h.wd.rd⟩, ownsRow_setCell_other h.own hbv u, ?_, h.lt⟩
  · exact h.wd.frm.setCell (p := ⟨b, o, none⟩) (by show w0.heap.size ≤ b; omega) u
  · exact ⟨h.oth.os, h.oth.tape, h.oth.output, by simpa using h.oth.size, fun i hi hs => (Below.heap_setCell wr ⟨b, o, none⟩ u i (by show i ≠ b; omega)).trans (h.oth.block i hi hs)⟩
theorem BegSt.push {w0 w wr w1 : World} {B : Nat} {x : Ev} {r v tv v' : Value} {l : List W8} {acc : List Mic} {m : Mic} (h : BegSt w0 w B x r v tv l acc wr) (hg : wr.grownBy w1 tv.ownBlock)
    (hown : w1.ownsRow w.heap.size 58 3 v' (acc.length + 1) (micCells acc ++ m.cells)) : BegSt w0 w B x r v v' l (acc ++ [m]) (w1.setCell ⟨B, 11, none⟩ v') := by
  have hne : ∀ b, b < w.heap.size → some b ≠ tv.ownBlock := fun b hb e => by have := (h.own.lt b e.symm).1; omega
  have hk : Oth B w w1 := ⟨hg.os.trans h.oth.os, hg.tape.trans h.oth.tape, hg.output.trans h.oth.output, Nat.le_trans h.oth.size hg.size, fun k hk h1 => (hg.block k (Nat.lt_of_lt_of_le hk h.oth.size) (hne k hk)).trans (h.oth.block k hk h1)⟩
  have hbx : BoxAt w1 B (wdCells v { x with txn := acc } tv r) 80 := (hg.block B h.wd.box.lt (hne B h.lt)).trans h.wd.box
  have hlt := h.lt
  have hge := h.wd.ge
  have hfr : Fr w0 w1 := by
    refine ⟨hg.os.trans h.wd.frm.os, hg.tape.trans h.wd.frm.tape, hg.output.trans h.wd.frm.output, Nat.le_trans h.wd.frm.size hg.size, fun k hk => (hg.block k (Nat.lt_of_lt_of_le hk h.wd.frm.size) (hne k (by omega))).trans (h.wd.frm.block hk)⟩
  refine ⟨⟨hfr.setCell (p := ⟨B, 11, none⟩) hge v', hge, hbx.setAt 11 v', h.wd.rd⟩, ?_, hk.set 11 v', h.lt⟩
  rw [List.length_append, micCells_snocT]
  exact ownsRow_setCell_below hown (a := ⟨B, 11, none⟩) hlt _
end Go.Proofs.YtfklgaeejmeipaaGreatDoor

/- (*words).commit: the state between rounds. No condition but what each says. -/
namespace Go.Proofs.YtfklgaeejmeipaaGreatDoor
open Go.RowKit

theorem Tryz.infoL16T : (Tryz.prog.info? 64).map (fun i => (i.zero, i.size, i.bytes)) = some (some (.slice none 0 0), 1, 24) := by kernel_rfl
theorem Tryz.infoU16T : (Tryz.prog.info? 22).map (fun i => (i.zero, i.size, i.bytes)) = some (some (.int .u16 0), 1, 2) := by kernel_rfl
/-- Between the rounds. -/
structure ComSt (w0 w : World) (B : Nat) (x : Ev) (t : Value) (v rv : Value) (vs : List Value) (l : List W8) (acc : List (List Nat)) (wr : World) : Prop where
  wd : WdAt w0 wr B v l { x with reads := acc } t rv
  own : wr.ownsRow w.heap.size 64 1 rv acc.length vs
  len : vs.length = acc.length
  inner : ∀ (i : Nat) (l : List Nat) (u : Value), acc[i]? = some l → vs[i]? = some u → SlAt wr (fun b => some b ≠ rv.ownBlock ∧ w.heap.size ≤ b) u l.length (u16Cells l)
  oth : Oth B w wr
  lt : B < w.heap.size
theorem ComSt.call {w0 w wr w1 : World} {B : Nat} {x : Ev} {t v v' rv : Value} {vs : List Value} {l l' : List W8} {acc : List (List Nat)} (h : ComSt w0 w B x t v rv vs l acc wr) (h1 : WdAt w0 w1 B v' l' { x with reads := acc } t rv) (k : Oth B wr w1) : ComSt w0 w B x t v' rv vs l' acc w1 :=
  ⟨h1, ownsRow_oth h.own k h.lt, h.len, fun i l u hl hu => (h.inner i l u hl hu).keep k.size fun b hz hb => k.block b hb (by have := hz.2; have := h.lt; omega), h.oth.trans k, h.lt⟩
theorem ComSt.fr {w0 w wr w1 : World} {B : Nat} {x : Ev} {t v rv : Value} {vs : List Value} {l : List W8} {acc : List (List Nat)} (h : ComSt w0 w B x t v rv vs l acc wr) (f : Fr wr w1) : ComSt w0 w B x t v rv vs l acc w1 := h.call (h.wd.fr f) (Oth.of_fr f)
theorem ComSt.push {w0 w wr w1 : World} {B gg cap : Nat} {x : Ev} {t v rv u : Value} {vs : List Value} {lw : List W8} {acc : List (List Nat)} {l : List Nat} (h : ComSt w0 w B x t v rv vs lw acc wr) (hg : wr.grownBy w1 rv.ownBlock)
    (hown : w1.ownsRow w.heap.size 64 1 (.slice (some ⟨gg, 0, none⟩) (acc.length + 1) cap) (acc.length + 1) (vs ++ [u])) (hat : rv.ownBlock = some gg ∨ gg = wr.heap.size)
    (hu : SlAt wr (fun b => some b ≠ rv.ownBlock ∧ w.heap.size ≤ b) u l.length (u16Cells l)) :
    ComSt w0 w B x t v (.slice (some ⟨gg, 0, none⟩) (acc.length + 1) cap) (vs ++ [u]) lw (acc ++ [l]) (w1.setCell ⟨B, 12, none⟩ (.slice (some ⟨gg, 0, none⟩) (acc.length + 1) cap)) := by
  have hlt := h.lt
  have hge := h.wd.ge
  have hne : ∀ b, b < w.heap.size → some b ≠ rv.ownBlock := fun b hb e => by have := (h.own.lt b e.symm).1; omega
  have hbx : BoxAt w1 B (wdCells v { x with reads := acc } t rv) 80 := (hg.block B h.wd.box.lt (hne B h.lt)).trans h.wd.box
  have hk : Oth B w w1 := ⟨hg.os.trans h.oth.os, hg.tape.trans h.oth.tape, hg.output.trans h.oth.output, Nat.le_trans h.oth.size hg.size, fun k hk h1 => (hg.block k (Nat.lt_of_lt_of_le hk h.oth.size) (hne k hk)).trans (h.oth.block k hk h1)⟩
  have hfr : Fr w0 w1 := ⟨hg.os.trans h.wd.frm.os, hg.tape.trans h.wd.frm.tape, hg.output.trans h.wd.frm.output, Nat.le_trans h.wd.frm.size hg.size, fun k hk => (hg.block k (Nat.lt_of_lt_of_le hk h.wd.frm.size) (hne k (by omega))).trans (h.wd.frm.block hk)⟩
  have hin : ∀ (l : List Nat) (u : Value), SlAt wr (fun b => some b ≠ rv.ownBlock ∧ w.heap.size ≤ b) u l.length (u16Cells l) → SlAt (w1.setCell ⟨B, 12, none⟩ (.slice (some ⟨gg, 0, none⟩) (acc.length + 1) cap)) (fun b => some b ≠ (Value.slice (some ⟨gg, 0, none⟩) (acc.length + 1) cap).ownBlock ∧ w.heap.size ≤ b) u l.length (u16Cells l) := fun l u hl => by
    obtain ⟨a, c, rfl, h1, h2, h3⟩ := hl
    refine ⟨a, c, rfl, h1, h2, ?_⟩
    rcases h3 with h3 | ⟨b, off, rfl, ⟨hz1, hz2⟩, hbl, hc⟩
    · exact .inl h3
    · refine .inr ⟨b, off, rfl, ⟨?_, hz2⟩, ?_, fun j y hj => ?_⟩
      · rcases hat with hat | hat
        · rw [hat] at hz1; simpa [Value.ownBlock] using hz1
        · subst hat; simp [Value.ownBlock]; omega
      · simp; exact Nat.lt_of_lt_of_le hbl hg.size
      · have e1 : (w1.setCell ⟨B, 12, none⟩ (.slice (some ⟨gg, 0, none⟩) (acc.length + 1) cap)).heap[b]? = w1.heap[b]? := Below.heap_setCell w1 _ _ b (fun e => by simp at e; omega)
        exact (World.cell?_of_block (a := ⟨b, off + j, none⟩) (e1.trans (hg.block b hbl hz1))).trans (hc j y hj)
  refine ⟨⟨hfr.setCell (p := ⟨B, 12, none⟩) hge _, hge, hbx.setAt 12 _, h.wd.rd⟩, ?_, by simp [h.len], ?_, hk.set 12 _, h.lt⟩
  · rw [List.length_append]
    exact ownsRow_setCell_below hown (a := ⟨B, 12, none⟩) hlt _
  · intro i l' u' hl hu'
    by_cases hi : i < acc.length
    · rw [List.getElem?_append_left hi] at hl
      rw [List.getElem?_append_left (by rw [h.len]; exact hi)] at hu'
      exact hin _ _ (h.inner i l' u' hl hu')
    · by_cases hi2 : i = acc.length
      · subst hi2
        rw [List.getElem?_append_right (Nat.le_refl _)] at hl
        rw [List.getElem?_append_right (by rw [h.len]; exact Nat.le_refl _)] at hu'
        simp at hl
        simp [h.len] at hu'
        subst hl hu'
        exact hin _ _ hu
      · have : (acc ++ [l]).length ≤ i := by simp; omega
        rw [List.getElem?_eq_none this] at hl
        cases hl
theorem ComSt.done {w0 w wr : World} {B : Nat} {x : Ev} {t v rv : Value} {vs : List Value} {l : List W8} {acc : List (List Nat)} (h : ComSt w0 w B x t v rv vs l acc wr) : RdRZ (w.heap.size ≤ ·) wr rv acc :=
  ⟨vs, h.len, SlAt.own h.own, fun i l u hl hu => (h.inner i l u hl hu).mono fun _ hz => hz.2⟩
theorem digsW_cons (most : Int) (s : W8) (l : List W8) : digsW most (s :: l) = match digW most s with | none => none | some v => (digsW most l).map (v :: ·) := rfl
theorem listsN_cons (s : W8) (l : List W8) : listsN (s :: l) = match listN s with | none => none | some v => (listsN l).map (v :: ·) := rfl
theorem digsW_none {most : Int} : ∀ {l : List W8} {k : Nat} (hk : k < l.length), digW most l[k] = none → digsW most l = none
  | s :: l, 0, _, h => by rw [digsW_cons]; simp only [List.getElem_cons_zero] at h; rw [h]
  | s :: l, k + 1, hk, h => by
    rw [digsW_cons]
    have := digsW_none (most := most) (l := l) (k := k) (by simpa using hk) (by simpa using h)
    rw [this]
    cases digW most s <;> rfl
theorem digsW_take {most : Int} : ∀ {l : List W8} {k : Nat} {a : List Nat} {v : Nat} (hk : k < l.length), digsW most (l.take k) = some a → digW most l[k] = some v → digsW most (l.take (k + 1)) = some (a ++ [v])
  | s :: l, 0, a, v, _, h, hv => by
    simp only [List.take_zero] at h
    cases h
    simp only [List.getElem_cons_zero] at hv
    rw [show (s :: l).take (0 + 1) = [s] from rfl, digsW_cons, hv]; rfl
  | s :: l, k + 1, a, v, hk, h, hv => by
    rw [List.take_succ_cons, digsW_cons] at h
    rw [List.take_succ_cons, digsW_cons]
    cases hs : digW most s with
    | none => rw [hs] at h; cases h
    | some u =>
      rw [hs] at h
      simp only at h ⊢
      obtain ⟨b, hb, rfl⟩ := Option.map_eq_some_iff.1 h
      rw [digsW_take (most := most) (l := l) (k := k) (by simpa using hk) hb (by simpa using hv)]
      rfl
end Go.Proofs.YtfklgaeejmeipaaGreatDoor

/- (*words).begin: the walk. No condition but what each says. -/
namespace Go.Proofs.YtfklgaeejmeipaaGreatDoor
open Go.RowKit

def left (B : Nat) (w : World) : Nat := match w.cell? ⟨B, 0, none⟩ with | some (.slice _ n _) => n | _ => 0
theorem WdAt.left {w0 w : World} {B : Nat} {v t r : Value} {l : List W8} {x : Ev} (h : WdAt w0 w B v l x t r) : left B w = l.length := by
  obtain ⟨a, c, rfl, _, _⟩ := h.rd.form
  unfold Proofs.YtfklgaeejmeipaaGreatDoor.left
  rw [h.box.at 0 (show (wdCells (.slice a l.length c) x t r)[0]? = _ from rfl)]
  rfl
/-- It gives up, or the event has these micros, and no word is left. -/
def BegOut (w0 w : World) (B : Nat) (r : Value) (x : Ev) (o : Option (List Mic)) (e : Ending) (w' : World) : Prop := match o with | none => GaveUp w0 e w' | some y => ∃ tv, WdRet w0 w B [] { x with txn := y } tv r e w' ∧ w'.ownsRow w.heap.size 58 3 tv y.length (micCells y)
set_option maxRecDepth 100000 in
set_option maxHeartbeats 1000000 in
theorem begin_c {w0 w : World} {B : Nat} {v r : Value} {l : List W8} {x : Ev} (h : WdAt w0 w B v l x (.slice none 0 0) r) (hx : x.txn = []) (hE : Env0 w0) (hs : ∀ s ∈ l, s.length < 1000000) (hn : l.length < 1000000) :
    Calls Tryz.prog 79 #[.pointer (some ⟨B, 0, none⟩)] w (BegOut w0 w B r x (micsN l)) := by
  have hlt := h.box.lt
  have hst0 : BegSt w0 w B x r v (.slice none 0 0) l [] w := ⟨by rw [show ({ x with txn := [] } : Ev) = x by rw [← hx]]; exact h, World.ownsRow_nil _ _ _ _, Oth.refl _ _, hlt⟩
  generalize hO : micsN l = O
  have H0 := Lib.hid hst0
  have HO := Lib.hid hO
  have HE := Lib.hid hE
  clear h hst0 hO hE
  go_enter Tryz.func79, Tryz.ntmps79
  go_wp2_with fail
  go_loopw [2] (fun _ wr => ∃ (v : Value) (tv : Value) (lw : List W8) (acc : List Mic), BegSt w0 w B x r v tv lw acc wr ∧ Hid (O = (micsN lw).map (acc ++ ·)) ∧ acc.length + lw.length < 1000000 ∧ Hid (∀ s ∈ lw, s.length < 1000000)) (fun _ wr => left B wr)
  case atStart => exact ⟨v, _, l, [], H0.out, by show O = _; rw [← HO.out]; cases micsN l <;> rfl, by simpa using hn, hs⟩
  case round =>
    clear H0 HO hs hn
    obtain ⟨v, tv, lw, acc, hst, HO, hlen, HS⟩ := hrel
    have HST := Lib.hid hst
    have hleft := hst.wd.left
    cases lw with
    | nil =>
      obtain ⟨a, cap, rfl, _, _⟩ := hst.wd.rd.form
      have c0 : wr.cell? ⟨B, 0, none⟩ = some (.slice a 0 cap) := hst.wd.box.at 0 rfl
      clear hst hleft
      go_wp2_with fail
      go_end0
      trace_state
      have hz : O = some acc := by rw [HO.out]; simp [micsN]
      rw [hz]
      exact ⟨tv, ⟨rfl, _, HST.out.wd, HST.out.oth⟩, HST.out.own⟩
    | cons s0 l0 =>
      obtain ⟨a0, cap, rfl, _, _⟩ := hst.wd.rd.form
      have c0 : wr.cell? ⟨B, 0, none⟩ = some (.slice a0 (s0 :: l0).length cap) := hst.wd.box.at 0 rfl
      have hpos : (0 : Int) < (((s0 :: l0).length : Nat) : Int) := by simp only [List.length_cons]; omega
      have hMS := micsN_step (l := s0 :: l0) (by simp)
      have hsz := hst.wd.box.lt
      have hlt := hst.lt
      have hge := hst.oth.size
      obtain ⟨i0, hi0, hz0, hz1, hz2'⟩ := info_parts Tryz.infoMicT
      have HVM := Lib.hid (show tv.ownBlock ≠ some wr.heap.size from fun e => by have := (hst.own.lt _ e).2; omega)
      have hstA := hst.fr ((Fr.refl wr).alloc (.cells #[.bool false, .int .u8 0, .int .u16 0] 58))
      have hMA := BoxAt.new wr #[.bool false, .int .u8 0, .int .u16 0] 58
      have HSTA := Lib.hid hstA
      have HMA := Lib.hid hMA
      have HC1 := Lib.hid (is_c (q := readW) hstA.wd)
      have HS1 := Lib.hid (isN_short readW HS.out)
      have hl1 := isN_len readW (s0 :: l0)
      have HMS := Lib.hid hMS
      clear hMS hst hstA hMA
      unfold micStep at HMS
      generalize hlw : (s0 :: l0 : List W8) = lw at *
      generalize (isN readW lw).2 = l1 at HC1 HS1 hl1 HMS
      generalize hMM : wr.heap.size = M at *
      have hMB : M ≠ B := by omega
      have hMw : w.heap.size ≤ M := by omega
      rcases hrd : (isN readW lw).1 with _ | _
      · rw [hrd] at HC1 HMS
        clear hrd
        simp only [if_true, Bool.false_eq_true, if_false] at HMS
        go_wp2_with fail
        refine HC1.out.mono ?_
        rintro e w1 ⟨rfl, v1, W1, O1⟩
        have hst1 := HSTA.out.call W1 O1
        have hM1 := HMA.out.oth O1 hMB
        have q0 : w1.cell? ⟨M, 0, none⟩ = some (.bool false) := hM1.at 0 rfl
        have g0 := hM1.free 0
        have HST2 := Lib.hid (hst1.setNew hMw HVM.out 0 (.bool false))
        have HM2 := Lib.hid (hM1.setAt 0 (.bool false))
        have hz1' := hM1.lt
        clear W1 O1 hst1 hM1 HC1 HSTA HMA
        have HC2 := Lib.hid (is_c (q := appendW) HST2.out.wd)
        have HS2 := Lib.hid (isN_short appendW HS1.out)
        have hl2 := isN_len appendW l1
        generalize (isN appendW l1).2 = l2 at HC2 HS2 hl2 HMS
        rcases hap : (isN appendW l1).1 with _ | _
        · rw [hap] at HC2 HMS
          clear hap
          have HN := Lib.hid (show O = none by rw [HO.out, HMS.out]; rfl)
          go_wp2_with fail
          refine HC2.out.mono ?_
          rintro e w2 ⟨rfl, v2, W2, O2⟩
          have HF := Lib.hid W2.frm
          clear W2 O2 HC2
          go_wp2_with fail
          have hz : BegOut w0 w B r x O (.panicked wrongP) w2 := by rw [HN.out]; exact ⟨rfl, HF.out⟩
          exact ⟨rfl, hz⟩
        rw [hap] at HC2 HMS
        clear hap
        simp only [if_true] at HMS
        go_wp2_with fail
        refine HC2.out.mono ?_
        rintro e w2 ⟨rfl, v2, W2, O2⟩
        have hst3 := HST2.out.call W2 O2
        have hM3 := HM2.out.oth O2 hMB
        have r0 : w2.cell? ⟨M, 0, none⟩ = some (.bool false) := hM3.at 0 rfl
        have HST3 := Lib.hid hst3
        have HM3 := Lib.hid hM3
        clear W2 O2 hst3 hM3 HC2 HST2 HM2 q0 g0
        rcases hn1 : numN 8 l2 with _ | ⟨a, l3⟩
        · have HN := Lib.hid (show O = none by rw [HO.out, HMS.out, hn1]; rfl)
          have HC := Lib.hid (number_no HST3.out.wd HE.out HS2.out hn1)
          clear hn1
          go_wp2_with fail
          refine HC.out.mono ?_
          rintro e w9 ⟨rfl, f9⟩
          have hz : BegOut w0 w B r x O (.panicked wrongP) w9 := by rw [HN.out]; exact ⟨rfl, f9⟩
          exact ⟨rfl, hz⟩
        have HS3 := Lib.hid (numN_short hn1 HS2.out)
        have hln1 := numN_len hn1
        have ha := numN_le hn1
        have hkw : IntKind.u8.wrap (a : Int) = a := by simp [IntKind.wrap, IntKind.bits, IntKind.signed]; omega
        have HC3 := Lib.hid (number_yes HST3.out.wd HS2.out hn1)
        rw [hn1] at HMS
        simp only at HMS
        clear hn1
        go_wp2_with fail
        refine HC3.out.mono ?_
        rintro e w3 ⟨rfl, v3, W3, O3⟩
        have hst4 := HST3.out.call W3 O3
        have hM4 := HM3.out.oth O3 hMB
        have s0' : w3.cell? ⟨M, 0, none⟩ = some (.bool false) := hM4.at 0 rfl
        have s1 : w3.cell? ⟨M, 1, none⟩ = some (.int .u8 0) := hM4.at 1 rfl
        have g1 := hM4.free 1
        have hz3' := hM4.lt
        have HST4 := Lib.hid (hst4.setNew hMw HVM.out 1 (.int .u8 (a : Nat)))
        have HM4 := Lib.hid (hM4.setAt 1 (.int .u8 (a : Nat)))
        clear W3 O3 hst4 hM4 HC3 HST3 HM3 r0 c0
        rcases hn2 : numN 65535 l3 with _ | ⟨b, l4⟩
        · have HN := Lib.hid (show O = none by rw [HO.out, HMS.out, hn2]; rfl)
          have HC := Lib.hid (number_no HST4.out.wd HE.out HS3.out hn2)
          clear hn2
          go_wp2_with fail
          refine HC.out.mono ?_
          rintro e w9 ⟨rfl, f9⟩
          have hz : BegOut w0 w B r x O (.panicked wrongP) w9 := by rw [HN.out]; exact ⟨rfl, f9⟩
          exact ⟨rfl, hz⟩
        have HNX := Lib.hid (show O = (micsN l4).map ((acc ++ [⟨false, a, b⟩]) ++ ·) by rw [HO.out, HMS.out, hn2]; simp [Option.map_map, Function.comp_def])
        have HSN := Lib.hid (numN_short hn2 HS3.out)
        have hln := numN_len hn2
        have hb16 := numN_le hn2
        have hkw2 : IntKind.u16.wrap (b : Int) = b := by simp [IntKind.wrap, IntKind.bits, IntKind.signed]; omega
        have HC4 := Lib.hid (number_yes HST4.out.wd HS3.out hn2)
        clear hn2 HMS
        go_wp2_with fail
        refine HC4.out.mono ?_
        rintro e w4 ⟨rfl, v4, W4, O4⟩
        have hst5 := HST4.out.call W4 O4
        have hM5 := HM4.out.oth O4 hMB
        have t0 : w4.cell? ⟨M, 0, none⟩ = some (.bool false) := hM5.at 0 rfl
        have t2 : w4.cell? ⟨M, 2, none⟩ = some (.int .u16 0) := hM5.at 2 rfl
        have g2 := hM5.free 2
        have hz4' := hM5.lt
        have HSTW := Lib.hid (hst5.setNew hMw HVM.out 2 (.int .u16 (b : Nat)))
        have hM : BoxAt (w4.setCell ⟨M, 2, none⟩ (.int .u16 (b : Nat))) M #[.bool false, .int .u8 (a : Nat), .int .u16 (b : Nat)] 58 := hM5.setAt 2 (.int .u16 (b : Nat))
        clear W4 O4 hst5 hM5 HC4 HST4 HM4 s0' s1 g1
        go_wp2_with fail
        clear t0 t2 g2
        generalize w4.setCell ⟨M, 2, none⟩ (.int .u16 (b : Nat)) = W at HSTW hM ⊢
        have hown := HSTW.out.own
        have hbW := HSTW.out.wd.box
        have k11 : W.cell? ⟨B, 11, none⟩ = some tv := hbW.at 11 rfl
        have kf11 := hbW.free 11
        have hqW := hbW.lt
        have m0 : W.cell? ⟨M, 0, none⟩ = some (.bool false) := hM.at 0 rfl
        have m1 : W.cell? ⟨M, 1, none⟩ = some (.int .u8 (a : Nat)) := hM.at 1 rfl
        have m2 : W.cell? ⟨M, 2, none⟩ = some (.int .u16 (b : Nat)) := hM.at 2 rfl
        have hz2 : M < W.heap.size := hM.lt
        have hvq : tv.ownBlock ≠ some B := fun e => by have := (hown.lt B e).1; omega
        have hvm : tv.ownBlock ≠ some M := HVM.out
        have hle := HSTW.out.oth.size
        clear hM hbW
        go_region_law
          ((refine step_append_lies _ (by rfl) _ _ _ (by rfl) w.heap.size 58 i0 _ 3 4 Tryz.underlying27 hi0 hz0 hz1 hz2' rfl (by omega) tv acc.length (micCells acc) (by rfl) ((hown.alloc _).drew)
              ⟨W.heap.size, 0, none⟩ 1 1 [.bool false, .int .u8 (a : Nat), .int .u16 (b : Nat)] (by rfl) (by rfl) (World.news_of_block (cs := #[.bool false, .int .u8 (a : Nat), .int .u16 (b : Nat)]) (t := 58) (fr := (0, 0)) (heap_alloc_new W _)) (by simp [Value.oneCell'])
              (by omega) (by unfold maxLen; omega) (by omega) (by simp; omega) (W.heap.size + 1) (by simp) ?_; intro gg cap3 w3 hown3 hgrow hat hlt3; have kf3 : w3.frozen? ⟨B, 11, none⟩ = false := (hgrow.frozen_far ⟨B, 11, none⟩ (by simp; omega) (Ne.symm hvq)).trans ((World.frozen?_alloc_past _ _ _ hqW).trans kf11); have kc3 : w3.cell? ⟨B, 11, none⟩ = some tv := (hgrow.cell_far ⟨B, 11, none⟩ (by simp; omega) (Ne.symm hvq)).trans ((World.cell?_alloc_past _ _ _ hqW).trans k11)))
        all_goals
          have hst4 := Lib.hid ((HSTW.out.fr (((Fr.refl W).alloc _).drew)).push (m := ⟨false, a, b⟩) hgrow hown3)
          clear hown hgrow hown3 hat hlt3 kf3 kc3 m0 m1 m2 k11 kf11 HVM hvq hvm
          go_wp2_with fail
          go_roundw
          case rel => exact ⟨_, _, l4, acc ++ [⟨false, a, b⟩], hst4.out, HNX, by simp at hlen ⊢; omega, HSN⟩
          case measure => rw [hleft, hst4.out.wd.left]; have := hln; simp at *; omega
      · rw [hrd] at HC1 HMS
        clear hrd
        simp only [if_true, Bool.false_eq_true, if_false] at HMS
        go_wp2_with fail
        refine HC1.out.mono ?_
        rintro e w1 ⟨rfl, v1, W1, O1⟩
        have hst1 := HSTA.out.call W1 O1
        have hM1 := HMA.out.oth O1 hMB
        have q0 : w1.cell? ⟨M, 0, none⟩ = some (.bool false) := hM1.at 0 rfl
        have g0 := hM1.free 0
        have HST2 := Lib.hid (hst1.setNew hMw HVM.out 0 (.bool true))
        have HM2 := Lib.hid (hM1.setAt 0 (.bool true))
        have hz1' := hM1.lt
        clear W1 O1 hst1 hM1 HC1 HSTA HMA
        rcases hn1 : numN 8 l1 with _ | ⟨a, l2⟩
        · have HN := Lib.hid (show O = none by rw [HO.out, HMS.out, hn1]; rfl)
          have HC := Lib.hid (number_no HST2.out.wd HE.out HS1.out hn1)
          clear hn1
          go_wp2_with fail
          refine HC.out.mono ?_
          rintro e w9 ⟨rfl, f9⟩
          have hz : BegOut w0 w B r x O (.panicked wrongP) w9 := by rw [HN.out]; exact ⟨rfl, f9⟩
          exact ⟨rfl, hz⟩
        have HNX := Lib.hid (show O = (micsN l2).map ((acc ++ [⟨true, a, 0⟩]) ++ ·) by rw [HO.out, HMS.out, hn1]; simp [Option.map_map, Function.comp_def])
        have HSN := Lib.hid (numN_short hn1 HS1.out)
        have hln := numN_len hn1
        have ha := numN_le hn1
        have hkw : IntKind.u8.wrap (a : Int) = a := by simp [IntKind.wrap, IntKind.bits, IntKind.signed]; omega
        have HC2 := Lib.hid (number_yes HST2.out.wd HS1.out hn1)
        clear hn1 HMS
        go_wp2_with fail
        refine HC2.out.mono ?_
        rintro e w2 ⟨rfl, v2, W2, O2⟩
        have hst3 := HST2.out.call W2 O2
        have hM3 := HM2.out.oth O2 hMB
        have r0 : w2.cell? ⟨M, 0, none⟩ = some (.bool true) := hM3.at 0 rfl
        have r1 : w2.cell? ⟨M, 1, none⟩ = some (.int .u8 0) := hM3.at 1 rfl
        have g1 := hM3.free 1
        have HSTW := Lib.hid (hst3.setNew hMw HVM.out 1 (.int .u8 (a : Nat)))
        have hM : BoxAt (w2.setCell ⟨M, 1, none⟩ (.int .u8 (a : Nat))) M #[.bool true, .int .u8 (a : Nat), .int .u16 0] 58 := hM3.setAt 1 (.int .u8 (a : Nat))
        have hz3' := hM3.lt
        clear W2 O2 hst3 hM3 HC2 HST2 HM2 q0 g0 c0
        go_wp2_with fail
        clear r0 r1 g1
        generalize w2.setCell ⟨M, 1, none⟩ (.int .u8 (a : Nat)) = W at HSTW hM ⊢
        have hown := HSTW.out.own
        have hbW := HSTW.out.wd.box
        have k11 : W.cell? ⟨B, 11, none⟩ = some tv := hbW.at 11 rfl
        have kf11 := hbW.free 11
        have hqW := hbW.lt
        have m0 : W.cell? ⟨M, 0, none⟩ = some (.bool true) := hM.at 0 rfl
        have m1 : W.cell? ⟨M, 1, none⟩ = some (.int .u8 (a : Nat)) := hM.at 1 rfl
        have m2 : W.cell? ⟨M, 2, none⟩ = some (.int .u16 0) := hM.at 2 rfl
        have hz2 : M < W.heap.size := hM.lt
        have hvq : tv.ownBlock ≠ some B := fun e => by have := (hown.lt B e).1; omega
        have hvm : tv.ownBlock ≠ some M := HVM.out
        have hle := HSTW.out.oth.size
        clear hM hbW
        go_region_law
          ((refine step_append_lies _ (by rfl) _ _ _ (by rfl) w.heap.size 58 i0 _ 3 4 Tryz.underlying27 hi0 hz0 hz1 hz2' rfl (by omega) tv acc.length (micCells acc) (by rfl) ((hown.alloc _).drew)
              ⟨W.heap.size, 0, none⟩ 1 1 [.bool true, .int .u8 (a : Nat), .int .u16 0] (by rfl) (by rfl) (World.news_of_block (cs := #[.bool true, .int .u8 (a : Nat), .int .u16 0]) (t := 58) (fr := (0, 0)) (heap_alloc_new W _)) (by simp [Value.oneCell'])
              (by omega) (by unfold maxLen; omega) (by omega) (by simp; omega) (W.heap.size + 1) (by simp) ?_; intro gg cap3 w3 hown3 hgrow hat hlt3; have kf3 : w3.frozen? ⟨B, 11, none⟩ = false := (hgrow.frozen_far ⟨B, 11, none⟩ (by simp; omega) (Ne.symm hvq)).trans ((World.frozen?_alloc_past _ _ _ hqW).trans kf11); have kc3 : w3.cell? ⟨B, 11, none⟩ = some tv := (hgrow.cell_far ⟨B, 11, none⟩ (by simp; omega) (Ne.symm hvq)).trans ((World.cell?_alloc_past _ _ _ hqW).trans k11)))
        all_goals
          have hst4 := Lib.hid ((HSTW.out.fr (((Fr.refl W).alloc _).drew)).push (m := ⟨true, a, 0⟩) hgrow hown3)
          clear hown hgrow hown3 hat hlt3 kf3 kc3 m0 m1 m2 k11 kf11 HVM hvq hvm
          go_wp2_with fail
          go_roundw
          case rel => exact ⟨_, _, l2, acc ++ [⟨true, a, 0⟩], hst4.out, HNX, by simp at hlen ⊢; omega, HSN⟩
          case measure => rw [hleft, hst4.out.wd.left]; have := hln; simp at *; omega
end Go.Proofs.YtfklgaeejmeipaaGreatDoor
