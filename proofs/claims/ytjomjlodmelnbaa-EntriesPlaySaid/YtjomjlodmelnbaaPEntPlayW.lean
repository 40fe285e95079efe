/- umpirelaw16.EntriesPlay: the law's walk. No condition but how many rows and acts there are. -/
import Derived.Test.YtjomjlodmelnbaaPEntPlayA
import Derived.Test.YtjomjlodmelnbaaPRegP
set_option linter.all false
set_option linter.unusedVariables false
set_option linter.unusedSimpArgs false
set_option linter.unnecessarySimpa false
/- umpirelaw16.EntriesPlay: the law's walk. No condition but how many rows and acts there are. -/
namespace Go.Proofs.Ytjomjlodmelnbaa
open Go.RowKit Go.Sort
attribute [local go_sem] Oper.semAt_some

section
variable {P : Program} {ops : Array Oper} {Q : Exit → Act → World → Prop} {K : Act → World → Prop} {i : Nat} {o : Oper} {a : Act} {w : World}
theorem wanted_some {k : Nat} {b : Bool} {op : Oper} {d : Tmp} {tmps : Array Value} (hg : o.guard = some (k, b)) (hk : ops[k]? = some op) (hd : op.dst = some d) (ht : tmps[d]? = some (.bool b)) : Region.wanted o (yielded ops tmps) = true := by
  simp [Region.wanted, hg, yielded, hk, hd, ht]
theorem wpOp_runG (ho : ops[i]? = some o) (hg : Region.wanted o (yielded ops a.tmps) = true) (v : Value) (w' : World) (hrun : (execOp a.eval o).run P w = .ok (.value v) w') (h : K (a.put o.dst v) w') : wpOp P ops Q i K a w := by
  unfold wpOp
  simp only [ho]
  rw [if_pos hg]
  left
  unfold Oper.wp
  rw [hrun]
  exact h
theorem wpOp_enterE (ho : ops[i]? = some o) (hg : Region.wanted o (yielded ops a.tmps) = true) (f : FuncId) (args : Array Value) (hrun : (execOp a.eval o).run P w = .ok (.enter f args) w)
    (h : Calls P f args w fun e w' => ∃ v, e = .returned v ∧ K (a.put o.dst v) w') : wpOp P ops Q i K a w := by
  unfold wpOp
  simp only [ho]
  rw [if_pos hg]
  left
  unfold Oper.wp
  rw [hrun, Oper.upon_enter]
  exact h.mono fun e w' ⟨v, he, hk⟩ => by subst he; exact hk
theorem wpOp_enterG (ho : ops[i]? = some o) (hg : Region.wanted o (yielded ops a.tmps) = true) (f : FuncId) (args : Array Value) (hrun : (execOp a.eval o).run P w = .ok (.enter f args) w) (v : Value)
    (h : Calls P f args w fun e w' => e = .returned v ∧ K (a.put o.dst v) w') : wpOp P ops Q i K a w :=
  wpOp_enterE ho hg f args hrun (h.mono fun _ _ h => ⟨v, h⟩)
end
theorem cell_keep2 {w w' : World} {p : Addr} {v : Value} (h : w.cell? p = some v) (f : Fr w w') : w'.cell? p = some v := f.keep h
theorem lifted16_c {Z : Nat → Prop} {base : Nat} {w : World} {x : Nat} {rs : List ERow} {up : List Nat} (H : ListAt Z base w x rs up) (i : Int) :
    Calls Try.prog 22 #[Pt x, .int .i64 i] w fun e w' => e = .returned (.bool (upI up i)) ∧ Fr w w' := lifted_c H i
/-- Acts that can be read. -/
structure RdA (w : World) (v : Value) (l : List (Nat × Int)) : Prop where
  is : ∃ a cap, v = .slice a l.length cap ∧ l.length ≤ cap ∧ cap ≤ maxLen ∧ (l = [] ∨ ∃ b off, a = some ⟨b, off, none⟩ ∧ b < w.heap.size ∧ ∀ i (h : i < l.length), w.rangeAt b (off + i * 2) [.int .u8 l[i].1, .int .i64 l[i].2])
  few : ∀ x ∈ l, x.1 < 256
theorem Try.infoAct : (Try.prog.info? 52).map (·.size) = some 2 := by kernel_rfl
/-- The drawn region's slots. -/
def pPr (x y : Nat) (l : List TRow) (up : List Nat) (asked : Int) (V10 VU : Value) (j : Nat) (w : World) (v : Value) : Prop := match j with
  | 0 => v = (.bool true)
  | 1 => v = (.bool false)
  | 2 => v = (.bool false)
  | 3 => v = V10
  | 4 => v = (Pt y)
  | 5 => ∃ a c, v = .slice a (nexts (eRows l) up).length c ∧ RdI w v (nexts (eRows l) up)
  | 6 => v = (.bool true)
  | 7 => v = (.bool false)
  | 8 => v = (.bool false)
  | 9 => v = (.bool false)
  | 10 => v = (Pt x)
  | 11 => v = (.int .i64 (up.length : Nat))
  | 12 => v = (Pt y)
  | 13 => v = (Pt y)
  | 14 => v = (.pointer (some ⟨y, 1, none⟩))
  | 15 => v = VU
  | 16 => v = (.int .i64 (up.length : Nat))
  | 17 => v = (.bool false)
  | 18 => v = (.bool false)
  | 19 => v = (.bool false)
  | 20 => v = (Pt x)
  | 21 => v = (.bool (decide (leftOf (eRows l) up = 0)))
  | 22 => v = (Pt y)
  | 23 => v = (.bool (decide (leftOf (eRows l) up = 0)))
  | 24 => v = (.bool false)
  | 25 => v = (.bool false)
  | 26 => v = (.bool false)
  | 27 => v = (Pt x)
  | 28 => v = (.int .i64 asked)
  | 29 => v = (.bool (upI up asked))
  | 30 => v = (Pt y)
  | 31 => v = (.int .i64 asked)
  | 32 => v = (.bool (upI up asked))
  | 33 => v = (.bool false)
  | 34 => v = (.bool false)
  | _ => True
theorem pPr_fr (x y : Nat) (l : List TRow) (up : List Nat) (asked : Int) (V10 VU : Value) (j : Nat) (w w' : World) (v : Value) (f : Fr w w') (h : pPr x y l up asked V10 VU j w v) : pPr x y l up asked V10 VU j w' v := by
  exact match j, h with
  | 0, h => h
  | 1, h => h
  | 2, h => h
  | 3, h => h
  | 4, h => h
  | 5, ⟨a, c, h1, h2⟩ => ⟨a, c, h1, h2.fr f⟩
  | 6, h => h
  | 7, h => h
  | 8, h => h
  | 9, h => h
  | 10, h => h
  | 11, h => h
  | 12, h => h
  | 13, h => h
  | 14, h => h
  | 15, h => h
  | 16, h => h
  | 17, h => h
  | 18, h => h
  | 19, h => h
  | 20, h => h
  | 21, h => h
  | 22, h => h
  | 23, h => h
  | 24, h => h
  | 25, h => h
  | 26, h => h
  | 27, h => h
  | 28, h => h
  | 29, h => h
  | 30, h => h
  | 31, h => h
  | 32, h => h
  | 33, h => h
  | 34, h => h
  | _ + 35, _ => trivial
theorem mkRL {w1 w2 w3 : World} {base y : Nat} {l : List TRow} {vr : Value} (hn : l.length ≤ 20) (hO : OwT w1.heap.size w2 vr l) (hb : base ≤ w1.heap.size) (hf : Fr w1 w2) (hy : y = w2.heap.size) (h3 : Fr (w2.alloc (.cells #[vr, .slice none 0 0] 48)) w3) :
    ∃ Zy, RL base w3 y l [] Zy ∧ ∀ b, Zy b → w1.heap.size ≤ b := by
  subst hy
  have hB := (BoxAt.new w2 #[vr, .slice none 0 0] 48).fr h3
  have hO3 : OwT w1.heap.size w3 vr l := (hO.fr ((Fr.refl w2).alloc _)).fr h3
  have h12 := hf.size
  refine ⟨fun b => b = w2.heap.size ∨ vr.ownBlock = some b, ⟨vr, .slice none 0 0, hB.cel 0 rfl, hB.cel 1 rfl, hO3.rd, World.ownsRow_nil _ _ _ _, fun g hg => ⟨.inr hg, fun e => ?_, fun e => (by cases e), (World.ownsRow.lt hO3 g hg).2⟩, fun g hg => (by cases hg), .inl rfl, fun b hb' => ?_, fun b hb' => ?_, ⟨by simp, by simp⟩, hn⟩, fun b hb' => ?_⟩
  · have := (World.ownsRow.lt hO g hg).2; omega
  · rcases hb' with h | h
    · omega
    · have := (World.ownsRow.lt hO3 b h).1; omega
  · rcases hb' with h | h
    · rw [h]; exact hB.lt
    · exact (World.ownsRow.lt hO3 b h).2
  · rcases hb' with h | h
    · omega
    · exact (World.ownsRow.lt hO3 b h).1
set_option maxRecDepth 100000 in
set_option maxHeartbeats 32000000 in
theorem playOn_c (l : List TRow) (v : Value) (cs : List (Nat × Int)) (u : Value) (asked : Int) (w : World) (hl : RdT w v l) (hn : l.length ≤ 20) (hu : RdA w u cs) (hcs : cs.length ≤ 60) (hm : mayRows (eRows l) = true) :
    Calls Try.prog 5 #[v, u, .int .i64 asked] w fun e w' => e = .returned (.bool true) ∧ Fr w w' := by
  have HW := Lib.hid (fun W => works16_c W)
  have HY := Lib.hid (fun (W : World) (f : Fr w W) => newYes_c (base := w.heap.size) l v W (hl.keep f) (by omega) hm f.size)
  have HTH := Lib.hid (fun (W : World) (f : Fr w W) => their_c l v W (hl.keep f) hn)
  have HU := Lib.hid hu
  have HMR := Lib.hid hm
  have HLEN := Lib.hid (eRows_len l)
  obtain ⟨a, cap, rfl, hcap, hmax, _⟩ := id hl
  unfold maxLen at hmax
  clear hl hm
  obtain ⟨b, cb, rfl, hcb, hcm, _⟩ := hu.is
  unfold maxLen at hcm
  clear hu
  have h1i : ¬ (20 : Int) < (l.length : Int) := by omega
  have h2i : ¬ (60 : Int) < (cs.length : Int) := by omega
  go_enter Try.func5, Try.ntmps5
  go_wp2_with fail
  refine (HY.out _ (Fr.refl _)).mono ?_
  rintro e w1 ⟨hf1, x, Zx, rfl, hLx, hZx⟩
  have HLx := Lib.hid hLx
  clear hLx hZx HY
  go_wp2_with fail
  refine (HTH.out _ hf1).mono ?_
  rintro e w2 ⟨vr, rfl, hO2, hf2⟩
  have HMK := Lib.hid (fun w3 h3 => mkRL (base := w.heap.size) (y := w2.heap.size) (w3 := w3) hn hO2 hf1.size hf2 rfl h3)
  have hB := BoxAt.new w2 #[vr, .slice none 0 0] 48
  have y0 : (w2.alloc (.cells #[vr, .slice none 0 0] 48)).cell? ⟨w2.heap.size, 0, none⟩ = some vr := hB.at 0 rfl
  have HMAY := Lib.hid (rMay_c l vr (w2.alloc (.cells #[vr, .slice none 0 0] 48)) (hO2.fr ((Fr.refl _).alloc _)).rd hn)
  rw [HMR.out] at HMAY
  have HLX2 := Lib.hid (fun w3 (h3 : Fr (w2.alloc (.cells #[vr, .slice none 0 0] 48)) w3) => HLx.out.fr (hf2.trans (((Fr.refl _).alloc _).trans h3)))
  have HLT := Lib.hid HLx.out.lt
  have HF2 := Lib.hid (fun w3 (h3 : Fr (w2.alloc (.cells #[vr, .slice none 0 0] 48)) w3) => (hf1.trans hf2).trans (((Fr.refl _).alloc _).trans h3))
  obtain ⟨va, vc, hvr⟩ : ∃ va vc, vr = .slice va l.length vc := by obtain ⟨va, vc, h, _⟩ := hO2.rd; exact ⟨va, vc, h⟩
  subst hvr
  clear hO2 hf2 hf1 hB
  go_wp2_with fail
  refine HMAY.out.mono ?_
  rintro e w3 ⟨rfl, hf3⟩
  obtain ⟨Zy, hRL, hZy⟩ := HMK.out _ hf3
  have HPar : Hid (Par w w3 x w2.heap.size l [] []) := ⟨Zx, Zy, HF2.out _ hf3, HLX2.out _ hf3, hRL, fun b hb hc => by have h1 := HLT.out b hb; have h2 := hZy b hc; omega⟩
  clear hRL hZy HMAY HLX2 HF2 HLT HMK HTH HLx y0 hf3
  generalize w2.heap.size = y at HPar ⊢
  go_wp2_with fail
  go_loopw [9] (fun vq wr => ∃ q : Nat, q ≤ cs.length + 1 ∧ vq = .int .i64 ((q : Int) - 1) ∧ ∃ up, Hid (Par w wr x y l up up)) (fun vq _ => (cs.length + 1) - ((intOf vq) + 1).toNat)
  case atStart => exact ⟨0, Nat.zero_le _, by go_num, [], HPar⟩
  case round =>
    clear HPar
    obtain ⟨q, hq, rfl, up, HPar⟩ := hrel
    by_cases hqt : q ≤ cs.length
    · have hqi : (q : Int) - 1 < (cs.length : Int) := by omega
      by_cases hq0 : q = 0
      · have hqn : ¬ ((q : Int) - 1 ≥ 0) := by omega
        clear hq0
        obtain ⟨Zx, Zy, HZ0⟩ := HPar.out
        have HZ := Lib.hid HZ0
        have HNX := Lib.hid (next_c HZ.out.2.1.at_)
        clear HPar HZ0
        go_wp2_with fail
        refine HNX.out.mono ?_
        rintro e w2 ⟨v2, rfl, hO2, hf2⟩
        have HZ := Lib.hid (HZ.out.fr hf2)
        have HR10 := Lib.hid (RdI.own hO2)
        obtain ⟨va2, vc2, rfl⟩ := ints_at hO2
        have HL20 : Hid ((nexts (eRows l) up).length ≤ 4000000) := Lib.hid (by
          have h1 := nexts_len (eRows l) up
          rw [eRows_len] at h1
          omega)
        obtain ⟨vr, vu, hRZ⟩ := HZ.out.2.2.1
        obtain ⟨ua, uc, rfl, _, _⟩ := ints_form hRZ.ups
        have HCU := Lib.hid hRZ.y1.1
        clear hO2 hf2 HNX hRZ
        go_wp2_with fail
        refine wp_region_preds (n := 35) (d := fun j => 70 + j) (Pr := pPr x y l up asked (.slice va2 (nexts (eRows l) up).length vc2) (.slice ua up.length uc)) (by kernel_rfl) rfl (by kernel_rfl) (fun i j hi hj hne h => by have h : 70 + i = 70 + j := h; omega) (fun j hj => by show 70 + j < _; simp only [List.size_toArray, List.length_cons, List.length_nil]; omega) (fun j hj w w' v hf hp => pPr_fr x y l up asked _ _ j w w' v hf hp) ?hop ?hend
        case hop =>
          intro j hj K a w' hf hw ho hK
          rcases (show j = 0 ∨ j = 1 ∨ j = 2 ∨ j = 3 ∨ j = 4 ∨ j = 5 ∨ j = 6 ∨ j = 7 ∨ j = 8 ∨ j = 9 ∨ j = 10 ∨ j = 11 ∨ j = 12 ∨ j = 13 ∨ j = 14 ∨ j = 15 ∨ j = 16 ∨ j = 17 ∨ j = 18 ∨ j = 19 ∨ j = 20 ∨ j = 21 ∨ j = 22 ∨ j = 23 ∨ j = 24 ∨ j = 25 ∨ j = 26 ∨ j = 27 ∨ j = 28 ∨ j = 29 ∨ j = 30 ∨ j = 31 ∨ j = 32 ∨ j = 33 ∨ j = 34 by omega) with rfl | rfl | rfl | rfl | rfl | rfl | rfl | rfl | rfl | rfl | rfl | rfl | rfl | rfl | rfl | rfl | rfl | rfl | rfl | rfl | rfl | rfl | rfl | rfl | rfl | rfl | rfl | rfl | rfl | rfl | rfl | rfl | rfl | rfl | rfl
          · -- 0
            have eb : a.tmps[11]? = some (.bool true) := (ho 11 (fun j hj => by show 11 ≠ 70 + j; omega)).trans rfl
            exact wpOp_runG rfl (wanted_plain rfl _) (.bool true) w' (by unfold execOp; simp [go_sem, eb]) (hK _ w' (Fr.refl _) rfl)
          · -- 1
            obtain ⟨_, (e0 : a.tmps[70]? = _), rfl⟩ := hw 0 (by omega) (by kernel_rfl)
            exact wpOp_runG rfl (wanted_plain rfl _) (.bool false) w' (by unfold execOp; simp [go_sem, e0]) (hK _ w' (Fr.refl _) rfl)
          · -- 2
            obtain ⟨_, (e1 : a.tmps[71]? = _), rfl⟩ := hw 1 (by omega) (by kernel_rfl)
            exact wpOp_runG rfl (wanted_plain rfl _) (.bool false) w' (by unfold execOp; simp [go_sem, e1]) (hK _ w' (Fr.refl _) rfl)
          · -- 3
            obtain ⟨_, (e2 : a.tmps[72]? = _), rfl⟩ := hw 2 (by omega) (by kernel_rfl)
            have eb : a.tmps[10]? = some (.slice va2 (nexts (eRows l) up).length vc2) := (ho 10 (fun j hj => by show 10 ≠ 70 + j; omega)).trans rfl
            exact wpOp_runG rfl (wanted_some rfl rfl rfl e2) (.slice va2 (nexts (eRows l) up).length vc2) w' (by unfold execOp; simp [go_sem, eb]) (hK _ w' (Fr.refl _) rfl)
          · -- 4
            obtain ⟨_, (e2 : a.tmps[72]? = _), rfl⟩ := hw 2 (by omega) (by kernel_rfl)
            have eb : a.tmps[8]? = some (Pt y) := (ho 8 (fun j hj => by show 8 ≠ 70 + j; omega)).trans rfl
            exact wpOp_runG rfl (wanted_some rfl rfl rfl e2) (Pt y) w' (by unfold execOp; simp [go_sem, eb]) (hK _ w' (Fr.refl _) rfl)
          · -- 5
            obtain ⟨_, (e2 : a.tmps[72]? = _), rfl⟩ := hw 2 (by omega) (by kernel_rfl)
            obtain ⟨_, (e4 : a.tmps[74]? = _), rfl⟩ := hw 4 (by omega) (by kernel_rfl)
            have hP := HZ.out.fr hf
            exact wpOp_enterE rfl (wanted_some rfl rfl rfl e2) 20 #[Pt y] (run_call Try.func20 (by kernel_rfl) rfl _ _ rfl _ (by simp [Act.eval, e4])) ((rNext_c hP.2.2.1).mono fun e w2 ⟨v, he, hO, hf'⟩ => ⟨v, he, hK _ w2 hf' (by obtain ⟨va, vc, rfl⟩ := ints_at hO; exact ⟨va, vc, rfl, RdI.own hO⟩)⟩)
          · -- 6
            obtain ⟨_, (e2 : a.tmps[72]? = _), rfl⟩ := hw 2 (by omega) (by kernel_rfl)
            obtain ⟨_, (e3 : a.tmps[73]? = _), rfl⟩ := hw 3 (by omega) (by kernel_rfl)
            obtain ⟨v5, (e5 : a.tmps[75]? = _), va5, vc5, rfl, hr5⟩ := hw 5 (by omega) (by kernel_rfl)
            have hs := same16_c _ _ _ _ w' ((HR10.out).fr hf) hr5 HL20.out
            rw [decide_eq_true rfl] at hs
            exact wpOp_enterG rfl (wanted_some rfl rfl rfl e2) 19 #[(.slice va2 (nexts (eRows l) up).length vc2), .slice va5 (nexts (eRows l) up).length vc5] (run_call Try.func19 (by kernel_rfl) rfl _ _ rfl _ (by simp [Act.eval, e3, e5])) _ (hs.mono fun e w2 ⟨he, hf'⟩ => ⟨he, hK _ w2 hf' rfl⟩)
          · -- 7
            obtain ⟨_, (e2 : a.tmps[72]? = _), rfl⟩ := hw 2 (by omega) (by kernel_rfl)
            obtain ⟨_, (e6 : a.tmps[76]? = _), rfl⟩ := hw 6 (by omega) (by kernel_rfl)
            exact wpOp_runG rfl (wanted_some rfl rfl rfl e2) (.bool false) w' (by unfold execOp; simp [go_sem, e6]) (hK _ w' (Fr.refl _) rfl)
          · -- 8
            obtain ⟨_, (e2 : a.tmps[72]? = _), rfl⟩ := hw 2 (by omega) (by kernel_rfl)
            obtain ⟨_, (e7 : a.tmps[77]? = _), rfl⟩ := hw 7 (by omega) (by kernel_rfl)
            exact wpOp_runG rfl (wanted_plain rfl _) (.bool false) w' (by unfold execOp; simp [go_sem, e2, e7]) (hK _ w' (Fr.refl _) rfl)
          · -- 9
            obtain ⟨_, (e8 : a.tmps[78]? = _), rfl⟩ := hw 8 (by omega) (by kernel_rfl)
            exact wpOp_runG rfl (wanted_plain rfl _) (.bool false) w' (by unfold execOp; simp [go_sem, e8]) (hK _ w' (Fr.refl _) rfl)
          · -- 10
            obtain ⟨_, (e9 : a.tmps[79]? = _), rfl⟩ := hw 9 (by omega) (by kernel_rfl)
            have eb : a.tmps[7]? = some (Pt x) := (ho 7 (fun j hj => by show 7 ≠ 70 + j; omega)).trans rfl
            exact wpOp_runG rfl (wanted_some rfl rfl rfl e9) (Pt x) w' (by unfold execOp; simp [go_sem, eb]) (hK _ w' (Fr.refl _) rfl)
          · -- 11
            obtain ⟨_, (e9 : a.tmps[79]? = _), rfl⟩ := hw 9 (by omega) (by kernel_rfl)
            obtain ⟨_, (e10 : a.tmps[80]? = _), rfl⟩ := hw 10 (by omega) (by kernel_rfl)
            have hP := HZ.out.fr hf
            exact wpOp_enterG rfl (wanted_some rfl rfl rfl e9) 15 #[Pt x] (run_call Try.func15 (by kernel_rfl) rfl _ _ rfl _ (by simp [Act.eval, e10])) _ ((count_c (hP.2.1.at_)).mono fun e w2 ⟨he, hf'⟩ => ⟨he, hK _ w2 hf' rfl⟩)
          · -- 12
            obtain ⟨_, (e9 : a.tmps[79]? = _), rfl⟩ := hw 9 (by omega) (by kernel_rfl)
            have eb : a.tmps[8]? = some (Pt y) := (ho 8 (fun j hj => by show 8 ≠ 70 + j; omega)).trans rfl
            exact wpOp_runG rfl (wanted_some rfl rfl rfl e9) (Pt y) w' (by unfold execOp; simp [go_sem, eb]) (hK _ w' (Fr.refl _) rfl)
          · -- 13
            obtain ⟨_, (e9 : a.tmps[79]? = _), rfl⟩ := hw 9 (by omega) (by kernel_rfl)
            obtain ⟨_, (e12 : a.tmps[82]? = _), rfl⟩ := hw 12 (by omega) (by kernel_rfl)
            exact wpOp_runG rfl (wanted_some rfl rfl rfl e9) (Pt y) w' (by unfold execOp; simp [go_sem, e12]) (hK _ w' (Fr.refl _) rfl)
          · -- 14
            obtain ⟨_, (e9 : a.tmps[79]? = _), rfl⟩ := hw 9 (by omega) (by kernel_rfl)
            obtain ⟨_, (e13 : a.tmps[83]? = _), rfl⟩ := hw 13 (by omega) (by kernel_rfl)
            exact wpOp_runG rfl (wanted_some rfl rfl rfl e9) (.pointer (some ⟨y, 1, none⟩)) w' (by unfold execOp; simp [go_sem, e13]) (hK _ w' (Fr.refl _) rfl)
          · -- 15
            obtain ⟨_, (e9 : a.tmps[79]? = _), rfl⟩ := hw 9 (by omega) (by kernel_rfl)
            obtain ⟨_, (e14 : a.tmps[84]? = _), rfl⟩ := hw 14 (by omega) (by kernel_rfl)
            have cy := cell_keep2 HCU.out hf
            exact wpOp_runG rfl (wanted_some rfl rfl rfl e9) (.slice ua up.length uc) w' (by unfold execOp; simp [go_sem, e14, cy]) (hK _ w' (Fr.refl _) rfl)
          · -- 16
            obtain ⟨_, (e9 : a.tmps[79]? = _), rfl⟩ := hw 9 (by omega) (by kernel_rfl)
            obtain ⟨_, (e15 : a.tmps[85]? = _), rfl⟩ := hw 15 (by omega) (by kernel_rfl)
            exact wpOp_runG rfl (wanted_some rfl rfl rfl e9) (.int .i64 (up.length : Nat)) w' (by unfold execOp; simp [go_sem, e15]) (hK _ w' (Fr.refl _) rfl)
          · -- 17
            obtain ⟨_, (e9 : a.tmps[79]? = _), rfl⟩ := hw 9 (by omega) (by kernel_rfl)
            obtain ⟨_, (e11 : a.tmps[81]? = _), rfl⟩ := hw 11 (by omega) (by kernel_rfl)
            obtain ⟨_, (e16 : a.tmps[86]? = _), rfl⟩ := hw 16 (by omega) (by kernel_rfl)
            exact wpOp_runG rfl (wanted_some rfl rfl rfl e9) (.bool false) w' (by unfold execOp; simp [go_sem, e11, e16]) (hK _ w' (Fr.refl _) rfl)
          · -- 18
            obtain ⟨_, (e9 : a.tmps[79]? = _), rfl⟩ := hw 9 (by omega) (by kernel_rfl)
            obtain ⟨_, (e17 : a.tmps[87]? = _), rfl⟩ := hw 17 (by omega) (by kernel_rfl)
            exact wpOp_runG rfl (wanted_plain rfl _) (.bool false) w' (by unfold execOp; simp [go_sem, e9, e17]) (hK _ w' (Fr.refl _) rfl)
          · -- 19
            obtain ⟨_, (e18 : a.tmps[88]? = _), rfl⟩ := hw 18 (by omega) (by kernel_rfl)
            exact wpOp_runG rfl (wanted_plain rfl _) (.bool false) w' (by unfold execOp; simp [go_sem, e18]) (hK _ w' (Fr.refl _) rfl)
          · -- 20
            obtain ⟨_, (e19 : a.tmps[89]? = _), rfl⟩ := hw 19 (by omega) (by kernel_rfl)
            have eb : a.tmps[7]? = some (Pt x) := (ho 7 (fun j hj => by show 7 ≠ 70 + j; omega)).trans rfl
            exact wpOp_runG rfl (wanted_some rfl rfl rfl e19) (Pt x) w' (by unfold execOp; simp [go_sem, eb]) (hK _ w' (Fr.refl _) rfl)
          · -- 21
            obtain ⟨_, (e19 : a.tmps[89]? = _), rfl⟩ := hw 19 (by omega) (by kernel_rfl)
            obtain ⟨_, (e20 : a.tmps[90]? = _), rfl⟩ := hw 20 (by omega) (by kernel_rfl)
            have hP := HZ.out.fr hf
            exact wpOp_enterG rfl (wanted_some rfl rfl rfl e19) 13 #[Pt x] (run_call Try.func13 (by kernel_rfl) rfl _ _ rfl _ (by simp [Act.eval, e20])) _ ((whole_c (hP.2.1.at_)).mono fun e w2 ⟨he, hf'⟩ => ⟨he, hK _ w2 hf' rfl⟩)
          · -- 22
            obtain ⟨_, (e19 : a.tmps[89]? = _), rfl⟩ := hw 19 (by omega) (by kernel_rfl)
            have eb : a.tmps[8]? = some (Pt y) := (ho 8 (fun j hj => by show 8 ≠ 70 + j; omega)).trans rfl
            exact wpOp_runG rfl (wanted_some rfl rfl rfl e19) (Pt y) w' (by unfold execOp; simp [go_sem, eb]) (hK _ w' (Fr.refl _) rfl)
          · -- 23
            obtain ⟨_, (e19 : a.tmps[89]? = _), rfl⟩ := hw 19 (by omega) (by kernel_rfl)
            obtain ⟨_, (e22 : a.tmps[92]? = _), rfl⟩ := hw 22 (by omega) (by kernel_rfl)
            have hP := HZ.out.fr hf
            exact wpOp_enterG rfl (wanted_some rfl rfl rfl e19) 21 #[Pt y] (run_call Try.func21 (by kernel_rfl) rfl _ _ rfl _ (by simp [Act.eval, e22])) _ ((rWhole_c hP.2.2.1).mono fun e w2 ⟨he, hf'⟩ => ⟨he, hK _ w2 hf' rfl⟩)
          · -- 24
            obtain ⟨_, (e19 : a.tmps[89]? = _), rfl⟩ := hw 19 (by omega) (by kernel_rfl)
            obtain ⟨_, (e21 : a.tmps[91]? = _), rfl⟩ := hw 21 (by omega) (by kernel_rfl)
            obtain ⟨_, (e23 : a.tmps[93]? = _), rfl⟩ := hw 23 (by omega) (by kernel_rfl)
            exact wpOp_runG rfl (wanted_some rfl rfl rfl e19) (.bool false) w' (by unfold execOp; simp [go_sem, e21, e23]) (hK _ w' (Fr.refl _) rfl)
          · -- 25
            obtain ⟨_, (e19 : a.tmps[89]? = _), rfl⟩ := hw 19 (by omega) (by kernel_rfl)
            obtain ⟨_, (e24 : a.tmps[94]? = _), rfl⟩ := hw 24 (by omega) (by kernel_rfl)
            exact wpOp_runG rfl (wanted_plain rfl _) (.bool false) w' (by unfold execOp; simp [go_sem, e19, e24]) (hK _ w' (Fr.refl _) rfl)
          · -- 26
            obtain ⟨_, (e25 : a.tmps[95]? = _), rfl⟩ := hw 25 (by omega) (by kernel_rfl)
            exact wpOp_runG rfl (wanted_plain rfl _) (.bool false) w' (by unfold execOp; simp [go_sem, e25]) (hK _ w' (Fr.refl _) rfl)
          · -- 27
            obtain ⟨_, (e26 : a.tmps[96]? = _), rfl⟩ := hw 26 (by omega) (by kernel_rfl)
            have eb : a.tmps[7]? = some (Pt x) := (ho 7 (fun j hj => by show 7 ≠ 70 + j; omega)).trans rfl
            exact wpOp_runG rfl (wanted_some rfl rfl rfl e26) (Pt x) w' (by unfold execOp; simp [go_sem, eb]) (hK _ w' (Fr.refl _) rfl)
          · -- 28
            obtain ⟨_, (e26 : a.tmps[96]? = _), rfl⟩ := hw 26 (by omega) (by kernel_rfl)
            have eb : a.tmps[2]? = some (.int .i64 asked) := (ho 2 (fun j hj => by show 2 ≠ 70 + j; omega)).trans rfl
            exact wpOp_runG rfl (wanted_some rfl rfl rfl e26) (.int .i64 asked) w' (by unfold execOp; simp [go_sem, eb]) (hK _ w' (Fr.refl _) rfl)
          · -- 29
            obtain ⟨_, (e26 : a.tmps[96]? = _), rfl⟩ := hw 26 (by omega) (by kernel_rfl)
            obtain ⟨_, (e27 : a.tmps[97]? = _), rfl⟩ := hw 27 (by omega) (by kernel_rfl)
            obtain ⟨_, (e28 : a.tmps[98]? = _), rfl⟩ := hw 28 (by omega) (by kernel_rfl)
            have hP := HZ.out.fr hf
            exact wpOp_enterG rfl (wanted_some rfl rfl rfl e26) 22 #[Pt x, .int .i64 asked] (run_call Try.func22 (by kernel_rfl) rfl _ _ rfl _ (by simp [Act.eval, e27, e28])) _ ((lifted16_c hP.2.1.at_ asked).mono fun e w2 ⟨he, hf'⟩ => ⟨he, hK _ w2 hf' rfl⟩)
          · -- 30
            obtain ⟨_, (e26 : a.tmps[96]? = _), rfl⟩ := hw 26 (by omega) (by kernel_rfl)
            have eb : a.tmps[8]? = some (Pt y) := (ho 8 (fun j hj => by show 8 ≠ 70 + j; omega)).trans rfl
            exact wpOp_runG rfl (wanted_some rfl rfl rfl e26) (Pt y) w' (by unfold execOp; simp [go_sem, eb]) (hK _ w' (Fr.refl _) rfl)
          · -- 31
            obtain ⟨_, (e26 : a.tmps[96]? = _), rfl⟩ := hw 26 (by omega) (by kernel_rfl)
            have eb : a.tmps[2]? = some (.int .i64 asked) := (ho 2 (fun j hj => by show 2 ≠ 70 + j; omega)).trans rfl
            exact wpOp_runG rfl (wanted_some rfl rfl rfl e26) (.int .i64 asked) w' (by unfold execOp; simp [go_sem, eb]) (hK _ w' (Fr.refl _) rfl)
          · -- 32
            obtain ⟨_, (e26 : a.tmps[96]? = _), rfl⟩ := hw 26 (by omega) (by kernel_rfl)
            obtain ⟨_, (e30 : a.tmps[100]? = _), rfl⟩ := hw 30 (by omega) (by kernel_rfl)
            obtain ⟨_, (e31 : a.tmps[101]? = _), rfl⟩ := hw 31 (by omega) (by kernel_rfl)
            have hP := HZ.out.fr hf
            exact wpOp_enterG rfl (wanted_some rfl rfl rfl e26) 23 #[Pt y, .int .i64 asked] (run_call Try.func23 (by kernel_rfl) rfl _ _ rfl _ (by simp [Act.eval, e30, e31])) _ ((rLifted_c hP.2.2.1 asked).mono fun e w2 ⟨he, hf'⟩ => ⟨he, hK _ w2 hf' rfl⟩)
          · -- 33
            obtain ⟨_, (e26 : a.tmps[96]? = _), rfl⟩ := hw 26 (by omega) (by kernel_rfl)
            obtain ⟨_, (e29 : a.tmps[99]? = _), rfl⟩ := hw 29 (by omega) (by kernel_rfl)
            obtain ⟨_, (e32 : a.tmps[102]? = _), rfl⟩ := hw 32 (by omega) (by kernel_rfl)
            exact wpOp_runG rfl (wanted_some rfl rfl rfl e26) (.bool false) w' (by unfold execOp; simp [go_sem, e29, e32]) (hK _ w' (Fr.refl _) rfl)
          · -- 34
            obtain ⟨_, (e26 : a.tmps[96]? = _), rfl⟩ := hw 26 (by omega) (by kernel_rfl)
            obtain ⟨_, (e33 : a.tmps[103]? = _), rfl⟩ := hw 33 (by omega) (by kernel_rfl)
            exact wpOp_runG rfl (wanted_plain rfl _) (.bool false) w' (by unfold execOp; simp [go_sem, e26, e33]) (hK _ w' (Fr.refl _) rfl)
        case hend =>
          intro f W17 hf17 hP
          have p34 : f 34 = .bool false := hP 34 (by omega)
          have HPar := Lib.hid (Par.fr ⟨Zx, Zy, HZ.out⟩ hf17)
          clear hP HZ HR10 HL20 HCU hf17
          simp only [laidS, List.setIfInBounds_toArray, List.set_cons_succ, List.set_cons_zero, p34]
          go_wp2_with fail
          go_loopw [12] (fun vk wr => ∃ k : Nat, k ≤ l.length + 2 ∧ vk = .int .i64 ((k : Int) - 1) ∧ Hid (Par w wr x y l up up)) (fun vk _ => (l.length + 2) - ((intOf vk) + 1).toNat)
          case atStart => exact ⟨0, Nat.zero_le _, by go_num, HPar⟩
          case round =>
            clear HPar
            obtain ⟨k, hk, rfl, HPar⟩ := hrel
            by_cases hkt : k ≤ l.length + 1
            · obtain ⟨Zx, Zy, HZ⟩ := HPar.out
              have HB1 := Lib.hid (behind_c HZ.2.1.at_ ((k : Int) - 1))
              have HB2 := Lib.hid (fun W (f : Fr wr W) => rBehind_c (HZ.fr f).2.2.1 ((k : Int) - 1))
              obtain ⟨bh, bb, hbe⟩ : ∃ (bh : Nat) (bb : Bool), firstOf (behindOf (eRows l) up ((k : Int) - 1)) = .tuple #[.int .i64 (bh : Nat), .bool bb] := ⟨_, _, rfl⟩
              rw [hbe] at HB1 HB2
              have hki : (k : Int) - 1 ≤ (l.length : Int) := by omega
              clear hbe HZ
              go_wp2_with fail
              refine HB1.out.mono ?_
              rintro e w3 ⟨rfl, hf3⟩
              clear HB1
              go_wp2_with fail
              refine (HB2.out _ hf3).mono ?_
              rintro e w4 ⟨rfl, hf4⟩
              have HPar := Lib.hid (HPar.out.fr (hf3.trans hf4))
              clear HB2 hf3 hf4
              go_wp2_with fail
              go_roundw
              case rel => exact ⟨k + 1, by omega, by go_num, HPar⟩
              case measure => first | (simp [intOf]; done) | (simp [intOf]; omega)
            · have hki : ¬ ((k : Int) - 1 ≤ (l.length : Int)) := by omega
              obtain ⟨Zx, Zy, HZ⟩ := HPar.out
              have HB1 := Lib.hid (behind_c HZ.2.1.at_ asked)
              have HB2 := Lib.hid (fun W (f : Fr wr W) => rBehind_c (HZ.fr f).2.2.1 asked)
              obtain ⟨bh, bb, hbe⟩ : ∃ (bh : Nat) (bb : Bool), firstOf (behindOf (eRows l) up asked) = .tuple #[.int .i64 (bh : Nat), .bool bb] := ⟨_, _, rfl⟩
              rw [hbe] at HB1 HB2
              clear hbe HZ
              go_wp2_with fail
              refine HB1.out.mono ?_
              rintro e w3 ⟨rfl, hf3⟩
              clear HB1
              go_wp2_with fail
              refine (HB2.out _ hf3).mono ?_
              rintro e w4 ⟨rfl, hf4⟩
              have HPar := Lib.hid (HPar.out.fr (hf3.trans hf4))
              clear HB2 hf3 hf4
              go_wp2_with fail
              go_roundw
              case rel => exact ⟨q + 1, by omega, by go_num, up, HPar.out⟩
              case measure => first | (simp [intOf]; done) | (simp [intOf]; omega)
      · obtain ⟨j, hqj⟩ : ∃ j, q = j + 1 := ⟨q - 1, by omega⟩
        have hjl : j < cs.length := by omega
        obtain ⟨a9, c9, e9, _, _, hA⟩ := HU.out.is
        cases e9
        obtain ⟨b1, o1, rfl, hb1, hx0⟩ := hA.resolve_left (fun e => by rw [e] at hjl; simp at hjl)
        have hfr := HPar.out.choose_spec.choose_spec.1
        have hx := rangeAtK (hx0 j hjl) (hfr.block hb1)
        have hb1r : b1 < wr.heap.size := Nat.lt_of_lt_of_le hb1 hfr.size
        have h256 := HU.out.few cs[j] (List.getElem_mem hjl)
        generalize cs[j] = act at hx h256
        obtain ⟨aw, aI⟩ := act
        simp only at hx h256
        have HON := Lib.hid (one_c HPar.out aw aI h256)
        have hqe : (q : Int) - 1 = (j : Int) := by omega
        have hqn : ((j : Int) ≥ 0) := by omega
        have hjli : (j : Int) < (cs.length : Int) := by omega
        rw [hqe] at hqi ⊢
        clear hq0 hx0 hfr HPar hA
        go_wp2_with ((with_reducible refine wpList_here (.load 52 (.tmp 60)) rfl ?_); refine wpList_load_midW 52 (.tmp 60) rfl b1 (o1 + j * 2) rfl _ _ hx Try.underlying52 rfl Try.infoAct rfl ?_)
        refine HON.out.mono ?_
        rintro e w5 ⟨rfl, up, hP5⟩
        have HPar := Lib.hid hP5
        clear hP5 HON hx
        obtain ⟨Zx, Zy, HZ0⟩ := HPar.out
        have HZ := Lib.hid HZ0
        have HNX := Lib.hid (next_c HZ.out.2.1.at_)
        clear HPar HZ0
        go_wp2_with fail
        refine HNX.out.mono ?_
        rintro e w2 ⟨v2, rfl, hO2, hf2⟩
        have HZ := Lib.hid (HZ.out.fr hf2)
        have HR10 := Lib.hid (RdI.own hO2)
        obtain ⟨va2, vc2, rfl⟩ := ints_at hO2
        have HL20 : Hid ((nexts (eRows l) up).length ≤ 4000000) := Lib.hid (by
          have h1 := nexts_len (eRows l) up
          rw [eRows_len] at h1
          omega)
        obtain ⟨vr, vu, hRZ⟩ := HZ.out.2.2.1
        obtain ⟨ua, uc, rfl, _, _⟩ := ints_form hRZ.ups
        have HCU := Lib.hid hRZ.y1.1
        clear hO2 hf2 HNX hRZ
        go_wp2_with fail
        refine wp_region_preds (n := 35) (d := fun j => 70 + j) (Pr := pPr x y l up asked (.slice va2 (nexts (eRows l) up).length vc2) (.slice ua up.length uc)) (by kernel_rfl) rfl (by kernel_rfl) (fun i j hi hj hne h => by have h : 70 + i = 70 + j := h; omega) (fun j hj => by show 70 + j < _; simp only [List.size_toArray, List.length_cons, List.length_nil]; omega) (fun j hj w w' v hf hp => pPr_fr x y l up asked _ _ j w w' v hf hp) ?hop ?hend
        case hop =>
          intro j hj K a w' hf hw ho hK
          rcases (show j = 0 ∨ j = 1 ∨ j = 2 ∨ j = 3 ∨ j = 4 ∨ j = 5 ∨ j = 6 ∨ j = 7 ∨ j = 8 ∨ j = 9 ∨ j = 10 ∨ j = 11 ∨ j = 12 ∨ j = 13 ∨ j = 14 ∨ j = 15 ∨ j = 16 ∨ j = 17 ∨ j = 18 ∨ j = 19 ∨ j = 20 ∨ j = 21 ∨ j = 22 ∨ j = 23 ∨ j = 24 ∨ j = 25 ∨ j = 26 ∨ j = 27 ∨ j = 28 ∨ j = 29 ∨ j = 30 ∨ j = 31 ∨ j = 32 ∨ j = 33 ∨ j = 34 by omega) with rfl | rfl | rfl | rfl | rfl | rfl | rfl | rfl | rfl | rfl | rfl | rfl | rfl | rfl | rfl | rfl | rfl | rfl | rfl | rfl | rfl | rfl | rfl | rfl | rfl | rfl | rfl | rfl | rfl | rfl | rfl | rfl | rfl | rfl | rfl
          · -- 0
            have eb : a.tmps[11]? = some (.bool true) := (ho 11 (fun j hj => by show 11 ≠ 70 + j; omega)).trans rfl
            exact wpOp_runG rfl (wanted_plain rfl _) (.bool true) w' (by unfold execOp; simp [go_sem, eb]) (hK _ w' (Fr.refl _) rfl)
          · -- 1
            obtain ⟨_, (e0 : a.tmps[70]? = _), rfl⟩ := hw 0 (by omega) (by kernel_rfl)
            exact wpOp_runG rfl (wanted_plain rfl _) (.bool false) w' (by unfold execOp; simp [go_sem, e0]) (hK _ w' (Fr.refl _) rfl)
          · -- 2
            obtain ⟨_, (e1 : a.tmps[71]? = _), rfl⟩ := hw 1 (by omega) (by kernel_rfl)
            exact wpOp_runG rfl (wanted_plain rfl _) (.bool false) w' (by unfold execOp; simp [go_sem, e1]) (hK _ w' (Fr.refl _) rfl)
          · -- 3
            obtain ⟨_, (e2 : a.tmps[72]? = _), rfl⟩ := hw 2 (by omega) (by kernel_rfl)
            have eb : a.tmps[10]? = some (.slice va2 (nexts (eRows l) up).length vc2) := (ho 10 (fun j hj => by show 10 ≠ 70 + j; omega)).trans rfl
            exact wpOp_runG rfl (wanted_some rfl rfl rfl e2) (.slice va2 (nexts (eRows l) up).length vc2) w' (by unfold execOp; simp [go_sem, eb]) (hK _ w' (Fr.refl _) rfl)
          · -- 4
            obtain ⟨_, (e2 : a.tmps[72]? = _), rfl⟩ := hw 2 (by omega) (by kernel_rfl)
            have eb : a.tmps[8]? = some (Pt y) := (ho 8 (fun j hj => by show 8 ≠ 70 + j; omega)).trans rfl
            exact wpOp_runG rfl (wanted_some rfl rfl rfl e2) (Pt y) w' (by unfold execOp; simp [go_sem, eb]) (hK _ w' (Fr.refl _) rfl)
          · -- 5
            obtain ⟨_, (e2 : a.tmps[72]? = _), rfl⟩ := hw 2 (by omega) (by kernel_rfl)
            obtain ⟨_, (e4 : a.tmps[74]? = _), rfl⟩ := hw 4 (by omega) (by kernel_rfl)
            have hP := HZ.out.fr hf
            exact wpOp_enterE rfl (wanted_some rfl rfl rfl e2) 20 #[Pt y] (run_call Try.func20 (by kernel_rfl) rfl _ _ rfl _ (by simp [Act.eval, e4])) ((rNext_c hP.2.2.1).mono fun e w2 ⟨v, he, hO, hf'⟩ => ⟨v, he, hK _ w2 hf' (by obtain ⟨va, vc, rfl⟩ := ints_at hO; exact ⟨va, vc, rfl, RdI.own hO⟩)⟩)
          · -- 6
            obtain ⟨_, (e2 : a.tmps[72]? = _), rfl⟩ := hw 2 (by omega) (by kernel_rfl)
            obtain ⟨_, (e3 : a.tmps[73]? = _), rfl⟩ := hw 3 (by omega) (by kernel_rfl)
            obtain ⟨v5, (e5 : a.tmps[75]? = _), va5, vc5, rfl, hr5⟩ := hw 5 (by omega) (by kernel_rfl)
            have hs := same16_c _ _ _ _ w' ((HR10.out).fr hf) hr5 HL20.out
            rw [decide_eq_true rfl] at hs
            exact wpOp_enterG rfl (wanted_some rfl rfl rfl e2) 19 #[(.slice va2 (nexts (eRows l) up).length vc2), .slice va5 (nexts (eRows l) up).length vc5] (run_call Try.func19 (by kernel_rfl) rfl _ _ rfl _ (by simp [Act.eval, e3, e5])) _ (hs.mono fun e w2 ⟨he, hf'⟩ => ⟨he, hK _ w2 hf' rfl⟩)
          · -- 7
            obtain ⟨_, (e2 : a.tmps[72]? = _), rfl⟩ := hw 2 (by omega) (by kernel_rfl)
            obtain ⟨_, (e6 : a.tmps[76]? = _), rfl⟩ := hw 6 (by omega) (by kernel_rfl)
            exact wpOp_runG rfl (wanted_some rfl rfl rfl e2) (.bool false) w' (by unfold execOp; simp [go_sem, e6]) (hK _ w' (Fr.refl _) rfl)
          · -- 8
            obtain ⟨_, (e2 : a.tmps[72]? = _), rfl⟩ := hw 2 (by omega) (by kernel_rfl)
            obtain ⟨_, (e7 : a.tmps[77]? = _), rfl⟩ := hw 7 (by omega) (by kernel_rfl)
            exact wpOp_runG rfl (wanted_plain rfl _) (.bool false) w' (by unfold execOp; simp [go_sem, e2, e7]) (hK _ w' (Fr.refl _) rfl)
          · -- 9
            obtain ⟨_, (e8 : a.tmps[78]? = _), rfl⟩ := hw 8 (by omega) (by kernel_rfl)
            exact wpOp_runG rfl (wanted_plain rfl _) (.bool false) w' (by unfold execOp; simp [go_sem, e8]) (hK _ w' (Fr.refl _) rfl)
          · -- 10
            obtain ⟨_, (e9 : a.tmps[79]? = _), rfl⟩ := hw 9 (by omega) (by kernel_rfl)
            have eb : a.tmps[7]? = some (Pt x) := (ho 7 (fun j hj => by show 7 ≠ 70 + j; omega)).trans rfl
            exact wpOp_runG rfl (wanted_some rfl rfl rfl e9) (Pt x) w' (by unfold execOp; simp [go_sem, eb]) (hK _ w' (Fr.refl _) rfl)
          · -- 11
            obtain ⟨_, (e9 : a.tmps[79]? = _), rfl⟩ := hw 9 (by omega) (by kernel_rfl)
            obtain ⟨_, (e10 : a.tmps[80]? = _), rfl⟩ := hw 10 (by omega) (by kernel_rfl)
            have hP := HZ.out.fr hf
            exact wpOp_enterG rfl (wanted_some rfl rfl rfl e9) 15 #[Pt x] (run_call Try.func15 (by kernel_rfl) rfl _ _ rfl _ (by simp [Act.eval, e10])) _ ((count_c (hP.2.1.at_)).mono fun e w2 ⟨he, hf'⟩ => ⟨he, hK _ w2 hf' rfl⟩)
          · -- 12
            obtain ⟨_, (e9 : a.tmps[79]? = _), rfl⟩ := hw 9 (by omega) (by kernel_rfl)
            have eb : a.tmps[8]? = some (Pt y) := (ho 8 (fun j hj => by show 8 ≠ 70 + j; omega)).trans rfl
            exact wpOp_runG rfl (wanted_some rfl rfl rfl e9) (Pt y) w' (by unfold execOp; simp [go_sem, eb]) (hK _ w' (Fr.refl _) rfl)
          · -- 13
            obtain ⟨_, (e9 : a.tmps[79]? = _), rfl⟩ := hw 9 (by omega) (by kernel_rfl)
            obtain ⟨_, (e12 : a.tmps[82]? = _), rfl⟩ := hw 12 (by omega) (by kernel_rfl)
            exact wpOp_runG rfl (wanted_some rfl rfl rfl e9) (Pt y) w' (by unfold execOp; simp [go_sem, e12]) (hK _ w' (Fr.refl _) rfl)
          · -- 14
            obtain ⟨_, (e9 : a.tmps[79]? = _), rfl⟩ := hw 9 (by omega) (by kernel_rfl)
            obtain ⟨_, (e13 : a.tmps[83]? = _), rfl⟩ := hw 13 (by omega) (by kernel_rfl)
            exact wpOp_runG rfl (wanted_some rfl rfl rfl e9) (.pointer (some ⟨y, 1, none⟩)) w' (by unfold execOp; simp [go_sem, e13]) (hK _ w' (Fr.refl _) rfl)
          · -- 15
            obtain ⟨_, (e9 : a.tmps[79]? = _), rfl⟩ := hw 9 (by omega) (by kernel_rfl)
            obtain ⟨_, (e14 : a.tmps[84]? = _), rfl⟩ := hw 14 (by omega) (by kernel_rfl)
            have cy := cell_keep2 HCU.out hf
            exact wpOp_runG rfl (wanted_some rfl rfl rfl e9) (.slice ua up.length uc) w' (by unfold execOp; simp [go_sem, e14, cy]) (hK _ w' (Fr.refl _) rfl)
          · -- 16
            obtain ⟨_, (e9 : a.tmps[79]? = _), rfl⟩ := hw 9 (by omega) (by kernel_rfl)
            obtain ⟨_, (e15 : a.tmps[85]? = _), rfl⟩ := hw 15 (by omega) (by kernel_rfl)
            exact wpOp_runG rfl (wanted_some rfl rfl rfl e9) (.int .i64 (up.length : Nat)) w' (by unfold execOp; simp [go_sem, e15]) (hK _ w' (Fr.refl _) rfl)
          · -- 17
            obtain ⟨_, (e9 : a.tmps[79]? = _), rfl⟩ := hw 9 (by omega) (by kernel_rfl)
            obtain ⟨_, (e11 : a.tmps[81]? = _), rfl⟩ := hw 11 (by omega) (by kernel_rfl)
            obtain ⟨_, (e16 : a.tmps[86]? = _), rfl⟩ := hw 16 (by omega) (by kernel_rfl)
            exact wpOp_runG rfl (wanted_some rfl rfl rfl e9) (.bool false) w' (by unfold execOp; simp [go_sem, e11, e16]) (hK _ w' (Fr.refl _) rfl)
          · -- 18
            obtain ⟨_, (e9 : a.tmps[79]? = _), rfl⟩ := hw 9 (by omega) (by kernel_rfl)
            obtain ⟨_, (e17 : a.tmps[87]? = _), rfl⟩ := hw 17 (by omega) (by kernel_rfl)
            exact wpOp_runG rfl (wanted_plain rfl _) (.bool false) w' (by unfold execOp; simp [go_sem, e9, e17]) (hK _ w' (Fr.refl _) rfl)
          · -- 19
            obtain ⟨_, (e18 : a.tmps[88]? = _), rfl⟩ := hw 18 (by omega) (by kernel_rfl)
            exact wpOp_runG rfl (wanted_plain rfl _) (.bool false) w' (by unfold execOp; simp [go_sem, e18]) (hK _ w' (Fr.refl _) rfl)
          · -- 20
            obtain ⟨_, (e19 : a.tmps[89]? = _), rfl⟩ := hw 19 (by omega) (by kernel_rfl)
            have eb : a.tmps[7]? = some (Pt x) := (ho 7 (fun j hj => by show 7 ≠ 70 + j; omega)).trans rfl
            exact wpOp_runG rfl (wanted_some rfl rfl rfl e19) (Pt x) w' (by unfold execOp; simp [go_sem, eb]) (hK _ w' (Fr.refl _) rfl)
          · -- 21
            obtain ⟨_, (e19 : a.tmps[89]? = _), rfl⟩ := hw 19 (by omega) (by kernel_rfl)
            obtain ⟨_, (e20 : a.tmps[90]? = _), rfl⟩ := hw 20 (by omega) (by kernel_rfl)
            have hP := HZ.out.fr hf
            exact wpOp_enterG rfl (wanted_some rfl rfl rfl e19) 13 #[Pt x] (run_call Try.func13 (by kernel_rfl) rfl _ _ rfl _ (by simp [Act.eval, e20])) _ ((whole_c (hP.2.1.at_)).mono fun e w2 ⟨he, hf'⟩ => ⟨he, hK _ w2 hf' rfl⟩)
          · -- 22
            obtain ⟨_, (e19 : a.tmps[89]? = _), rfl⟩ := hw 19 (by omega) (by kernel_rfl)
            have eb : a.tmps[8]? = some (Pt y) := (ho 8 (fun j hj => by show 8 ≠ 70 + j; omega)).trans rfl
            exact wpOp_runG rfl (wanted_some rfl rfl rfl e19) (Pt y) w' (by unfold execOp; simp [go_sem, eb]) (hK _ w' (Fr.refl _) rfl)
          · -- 23
            obtain ⟨_, (e19 : a.tmps[89]? = _), rfl⟩ := hw 19 (by omega) (by kernel_rfl)
            obtain ⟨_, (e22 : a.tmps[92]? = _), rfl⟩ := hw 22 (by omega) (by kernel_rfl)
            have hP := HZ.out.fr hf
            exact wpOp_enterG rfl (wanted_some rfl rfl rfl e19) 21 #[Pt y] (run_call Try.func21 (by kernel_rfl) rfl _ _ rfl _ (by simp [Act.eval, e22])) _ ((rWhole_c hP.2.2.1).mono fun e w2 ⟨he, hf'⟩ => ⟨he, hK _ w2 hf' rfl⟩)
          · -- 24
            obtain ⟨_, (e19 : a.tmps[89]? = _), rfl⟩ := hw 19 (by omega) (by kernel_rfl)
            obtain ⟨_, (e21 : a.tmps[91]? = _), rfl⟩ := hw 21 (by omega) (by kernel_rfl)
            obtain ⟨_, (e23 : a.tmps[93]? = _), rfl⟩ := hw 23 (by omega) (by kernel_rfl)
            exact wpOp_runG rfl (wanted_some rfl rfl rfl e19) (.bool false) w' (by unfold execOp; simp [go_sem, e21, e23]) (hK _ w' (Fr.refl _) rfl)
          · -- 25
            obtain ⟨_, (e19 : a.tmps[89]? = _), rfl⟩ := hw 19 (by omega) (by kernel_rfl)
            obtain ⟨_, (e24 : a.tmps[94]? = _), rfl⟩ := hw 24 (by omega) (by kernel_rfl)
            exact wpOp_runG rfl (wanted_plain rfl _) (.bool false) w' (by unfold execOp; simp [go_sem, e19, e24]) (hK _ w' (Fr.refl _) rfl)
          · -- 26
            obtain ⟨_, (e25 : a.tmps[95]? = _), rfl⟩ := hw 25 (by omega) (by kernel_rfl)
            exact wpOp_runG rfl (wanted_plain rfl _) (.bool false) w' (by unfold execOp; simp [go_sem, e25]) (hK _ w' (Fr.refl _) rfl)
          · -- 27
            obtain ⟨_, (e26 : a.tmps[96]? = _), rfl⟩ := hw 26 (by omega) (by kernel_rfl)
            have eb : a.tmps[7]? = some (Pt x) := (ho 7 (fun j hj => by show 7 ≠ 70 + j; omega)).trans rfl
            exact wpOp_runG rfl (wanted_some rfl rfl rfl e26) (Pt x) w' (by unfold execOp; simp [go_sem, eb]) (hK _ w' (Fr.refl _) rfl)
          · -- 28
            obtain ⟨_, (e26 : a.tmps[96]? = _), rfl⟩ := hw 26 (by omega) (by kernel_rfl)
            have eb : a.tmps[2]? = some (.int .i64 asked) := (ho 2 (fun j hj => by show 2 ≠ 70 + j; omega)).trans rfl
            exact wpOp_runG rfl (wanted_some rfl rfl rfl e26) (.int .i64 asked) w' (by unfold execOp; simp [go_sem, eb]) (hK _ w' (Fr.refl _) rfl)
          · -- 29
            obtain ⟨_, (e26 : a.tmps[96]? = _), rfl⟩ := hw 26 (by omega) (by kernel_rfl)
            obtain ⟨_, (e27 : a.tmps[97]? = _), rfl⟩ := hw 27 (by omega) (by kernel_rfl)
            obtain ⟨_, (e28 : a.tmps[98]? = _), rfl⟩ := hw 28 (by omega) (by kernel_rfl)
            have hP := HZ.out.fr hf
            exact wpOp_enterG rfl (wanted_some rfl rfl rfl e26) 22 #[Pt x, .int .i64 asked] (run_call Try.func22 (by kernel_rfl) rfl _ _ rfl _ (by simp [Act.eval, e27, e28])) _ ((lifted16_c hP.2.1.at_ asked).mono fun e w2 ⟨he, hf'⟩ => ⟨he, hK _ w2 hf' rfl⟩)
          · -- 30
            obtain ⟨_, (e26 : a.tmps[96]? = _), rfl⟩ := hw 26 (by omega) (by kernel_rfl)
            have eb : a.tmps[8]? = some (Pt y) := (ho 8 (fun j hj => by show 8 ≠ 70 + j; omega)).trans rfl
            exact wpOp_runG rfl (wanted_some rfl rfl rfl e26) (Pt y) w' (by unfold execOp; simp [go_sem, eb]) (hK _ w' (Fr.refl _) rfl)
          · -- 31
            obtain ⟨_, (e26 : a.tmps[96]? = _), rfl⟩ := hw 26 (by omega) (by kernel_rfl)
            have eb : a.tmps[2]? = some (.int .i64 asked) := (ho 2 (fun j hj => by show 2 ≠ 70 + j; omega)).trans rfl
            exact wpOp_runG rfl (wanted_some rfl rfl rfl e26) (.int .i64 asked) w' (by unfold execOp; simp [go_sem, eb]) (hK _ w' (Fr.refl _) rfl)
          · -- 32
            obtain ⟨_, (e26 : a.tmps[96]? = _), rfl⟩ := hw 26 (by omega) (by kernel_rfl)
            obtain ⟨_, (e30 : a.tmps[100]? = _), rfl⟩ := hw 30 (by omega) (by kernel_rfl)
            obtain ⟨_, (e31 : a.tmps[101]? = _), rfl⟩ := hw 31 (by omega) (by kernel_rfl)
            have hP := HZ.out.fr hf
            exact wpOp_enterG rfl (wanted_some rfl rfl rfl e26) 23 #[Pt y, .int .i64 asked] (run_call Try.func23 (by kernel_rfl) rfl _ _ rfl _ (by simp [Act.eval, e30, e31])) _ ((rLifted_c hP.2.2.1 asked).mono fun e w2 ⟨he, hf'⟩ => ⟨he, hK _ w2 hf' rfl⟩)
          · -- 33
            obtain ⟨_, (e26 : a.tmps[96]? = _), rfl⟩ := hw 26 (by omega) (by kernel_rfl)
            obtain ⟨_, (e29 : a.tmps[99]? = _), rfl⟩ := hw 29 (by omega) (by kernel_rfl)
            obtain ⟨_, (e32 : a.tmps[102]? = _), rfl⟩ := hw 32 (by omega) (by kernel_rfl)
            exact wpOp_runG rfl (wanted_some rfl rfl rfl e26) (.bool false) w' (by unfold execOp; simp [go_sem, e29, e32]) (hK _ w' (Fr.refl _) rfl)
          · -- 34
            obtain ⟨_, (e26 : a.tmps[96]? = _), rfl⟩ := hw 26 (by omega) (by kernel_rfl)
            obtain ⟨_, (e33 : a.tmps[103]? = _), rfl⟩ := hw 33 (by omega) (by kernel_rfl)
            exact wpOp_runG rfl (wanted_plain rfl _) (.bool false) w' (by unfold execOp; simp [go_sem, e26, e33]) (hK _ w' (Fr.refl _) rfl)
        case hend =>
          intro f W17 hf17 hP
          have p34 : f 34 = .bool false := hP 34 (by omega)
          have HPar := Lib.hid (Par.fr ⟨Zx, Zy, HZ.out⟩ hf17)
          clear hP HZ HR10 HL20 HCU hf17
          simp only [laidS, List.setIfInBounds_toArray, List.set_cons_succ, List.set_cons_zero, p34]
          go_wp2_with fail
          go_loopw [12] (fun vk wr => ∃ k : Nat, k ≤ l.length + 2 ∧ vk = .int .i64 ((k : Int) - 1) ∧ Hid (Par w wr x y l up up)) (fun vk _ => (l.length + 2) - ((intOf vk) + 1).toNat)
          case atStart => exact ⟨0, Nat.zero_le _, by go_num, HPar⟩
          case round =>
            clear HPar
            obtain ⟨k, hk, rfl, HPar⟩ := hrel
            by_cases hkt : k ≤ l.length + 1
            · obtain ⟨Zx, Zy, HZ⟩ := HPar.out
              have HB1 := Lib.hid (behind_c HZ.2.1.at_ ((k : Int) - 1))
              have HB2 := Lib.hid (fun W (f : Fr wr W) => rBehind_c (HZ.fr f).2.2.1 ((k : Int) - 1))
              obtain ⟨bh, bb, hbe⟩ : ∃ (bh : Nat) (bb : Bool), firstOf (behindOf (eRows l) up ((k : Int) - 1)) = .tuple #[.int .i64 (bh : Nat), .bool bb] := ⟨_, _, rfl⟩
              rw [hbe] at HB1 HB2
              have hki : (k : Int) - 1 ≤ (l.length : Int) := by omega
              clear hbe HZ
              go_wp2_with fail
              refine HB1.out.mono ?_
              rintro e w3 ⟨rfl, hf3⟩
              clear HB1
              go_wp2_with fail
              refine (HB2.out _ hf3).mono ?_
              rintro e w4 ⟨rfl, hf4⟩
              have HPar := Lib.hid (HPar.out.fr (hf3.trans hf4))
              clear HB2 hf3 hf4
              go_wp2_with fail
              go_roundw
              case rel => exact ⟨k + 1, by omega, by go_num, HPar⟩
              case measure => first | (simp [intOf]; done) | (simp [intOf]; omega)
            · have hki : ¬ ((k : Int) - 1 ≤ (l.length : Int)) := by omega
              obtain ⟨Zx, Zy, HZ⟩ := HPar.out
              have HB1 := Lib.hid (behind_c HZ.2.1.at_ asked)
              have HB2 := Lib.hid (fun W (f : Fr wr W) => rBehind_c (HZ.fr f).2.2.1 asked)
              obtain ⟨bh, bb, hbe⟩ : ∃ (bh : Nat) (bb : Bool), firstOf (behindOf (eRows l) up asked) = .tuple #[.int .i64 (bh : Nat), .bool bb] := ⟨_, _, rfl⟩
              rw [hbe] at HB1 HB2
              clear hbe HZ
              go_wp2_with fail
              refine HB1.out.mono ?_
              rintro e w3 ⟨rfl, hf3⟩
              clear HB1
              go_wp2_with fail
              refine (HB2.out _ hf3).mono ?_
              rintro e w4 ⟨rfl, hf4⟩
              have HPar := Lib.hid (HPar.out.fr (hf3.trans hf4))
              clear HB2 hf3 hf4
              go_wp2_with fail
              go_roundw
              case rel => exact ⟨q + 1, by omega, by go_num, up, HPar.out⟩
              case measure => first | (simp [intOf]; done) | (simp [intOf]; omega)
    · have hqi : ¬ ((q : Int) - 1 < (cs.length : Int)) := by omega
      have hfr := HPar.out.choose_spec.choose_spec.1
      clear HPar
      go_wp2_with fail
      refine (HW.out _).mono ?_
      rintro e w14 ⟨rfl, hf14⟩
      go_wp2_with fail
      go_ret
      exact ⟨rfl, hfr.trans hf14⟩
end Go.Proofs.Ytjomjlodmelnbaa

/- umpirelaw16.EntriesPlay: of any rows, any acts the law returns true. No condition. -/
namespace Go.Proofs.Ytjomjlodmelnbaa
open Go.RowKit Go.Sort
attribute [local go_sem] Oper.semAt_some

set_option maxRecDepth 100000 in
set_option maxHeartbeats 8000000 in
theorem playOff_c (l : List TRow) (v : Value) (cs : List (Nat × Int)) (u : Value) (asked : Int) (w : World) (hl : RdT w v l) (hu : RdA w u cs) (h : 20 < l.length ∨ 60 < cs.length ∨ mayRows (eRows l) = false) :
    Calls Try.prog 5 #[v, u, .int .i64 asked] w fun e w' => e = .returned (.bool true) ∧ Fr w w' := by
  have HW := Lib.hid (fun W => works16_c W)
  have HM := Lib.hid (fun (hn : l.length ≤ 20) (hm : mayRows (eRows l) = false) (W : World) (f : Fr w W) => newNo_c l v W (hl.keep f) (by omega) hm)
  have HTH := Lib.hid (fun (hn : l.length ≤ 20) (W : World) (f : Fr w W) => their_c l v W (hl.keep f) hn)
  obtain ⟨a, cap, rfl, hcap, hmax, _⟩ := id hl
  obtain ⟨b, cb, rfl, hcb, _⟩ := hu.is
  unfold maxLen at hmax
  clear hl hu
  by_cases h1 : 20 < l.length
  · have h1i : (20 : Int) < (l.length : Int) := by omega
    clear h HM HTH
    go_enter Try.func5, Try.ntmps5
    go_wp2_with fail
    refine (HW.out _).mono ?_
    rintro e w3 ⟨rfl, hf3⟩
    go_wp2_with fail
    go_ret
    exact ⟨rfl, hf3⟩
  · have h1i : ¬ (20 : Int) < (l.length : Int) := by omega
    by_cases h2 : 60 < cs.length
    · have h2i : (60 : Int) < (cs.length : Int) := by omega
      clear h HM HTH
      go_enter Try.func5, Try.ntmps5
      go_wp2_with fail
      refine (HW.out _).mono ?_
      rintro e w3 ⟨rfl, hf3⟩
      go_wp2_with fail
      go_ret
      exact ⟨rfl, hf3⟩
    · have h2i : ¬ (60 : Int) < (cs.length : Int) := by omega
      have hm := (h.resolve_left h1).resolve_left h2
      have HM2 := Lib.hid (HM.out (by omega) hm)
      have HT2 := Lib.hid (HTH.out (by omega))
      have HMR := Lib.hid hm
      clear h HM HTH hm
      go_enter Try.func5, Try.ntmps5
      go_wp2_with fail
      refine (HM2.out _ (Fr.refl _)).mono ?_
      rintro e w1 ⟨rfl, hf1⟩
      go_wp2_with fail
      refine (HT2.out _ hf1).mono ?_
      rintro e w2 ⟨vr, rfl, hO2, hf2⟩
      have hB := BoxAt.new w2 #[vr, .slice none 0 0] 48
      have y0 : (w2.alloc (.cells #[vr, .slice none 0 0] 48)).cell? ⟨w2.heap.size, 0, none⟩ = some vr := hB.at 0 rfl
      have HMAY := Lib.hid (rMay_c l vr (w2.alloc (.cells #[vr, .slice none 0 0] 48)) (hO2.fr ((Fr.refl _).alloc _)).rd (by omega))
      rw [HMR.out] at HMAY
      have hfa : Fr w (w2.alloc (.cells #[vr, .slice none 0 0] 48)) := (hf1.trans hf2).alloc _
      obtain ⟨va, vc, hvr⟩ : ∃ va vc, vr = .slice va l.length vc := by obtain ⟨va, vc, h, _⟩ := hO2.rd; exact ⟨va, vc, h⟩
      subst hvr
      clear hO2 hf2 hf1 hB HM2 HT2
      go_wp2_with fail
      refine HMAY.out.mono ?_
      rintro e w3 ⟨rfl, hf3⟩
      have hf4 := hfa.trans hf3
      clear hfa hf3 y0 HMAY
      go_wp2_with fail
      refine (HW.out _).mono ?_
      rintro e w5 ⟨rfl, hf5⟩
      go_wp2_with fail
      go_ret
      exact ⟨rfl, hf4.trans hf5⟩
/-- EntriesPlay: of any rows, any acts, any row asked about. -/
theorem entPlay_c (l : List TRow) (v : Value) (cs : List (Nat × Int)) (u : Value) (asked : Int) (w : World) (hl : RdT w v l) (hu : RdA w u cs) :
    Calls Try.prog 5 #[v, u, .int .i64 asked] w fun e w' => e = .returned (.bool true) ∧ Fr w w' := by
  by_cases h : 20 < l.length ∨ 60 < cs.length ∨ mayRows (eRows l) = false
  · exact playOff_c l v cs u asked w hl hu h
  · simp only [not_or] at h
    exact playOn_c l v cs u asked w hl (by omega) hu (by omega) (by simpa using h.2.2)
end Go.Proofs.Ytjomjlodmelnbaa
