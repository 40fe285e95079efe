/- umpirelaw06.TextKnown: the law holds. No condition but the tables' content. Printed by gen_txtknown2.py. -/
import Derived.Test.YtfklgaeejmeipaaGreatDoorPTxtLen
import Derived.Test.YtfklgaeejmeipaaGreatDoorPTxtAll
import Derived.Test.YtfklgaeejmeipaaGreatDoorPTxtPar
set_option linter.all false
set_option linter.unusedVariables false
set_option linter.unusedSimpArgs false
set_option linter.unnecessarySimpa false
/- umpirelaw06.TextKnown: the law holds. No condition but the tables' content. Printed by gen_txtknown2.py. -/
namespace Go.Proofs.YtfklgaeejmeipaaGreatDoor
open Go.RowKit
attribute [local go_sem] Oper.semAt_some

theorem wp_genK {P : Program} {c : Code} {Q : Exit → Act → World → Prop} {a : Act} {w : World} (h : ∀ W, W = w → c.wp P Q a W) : c.wp P Q a w := h w rfl
/-- A list of micros just made. -/
theorem rdM_lit {w : World} (l : List Mic) (hl : l.length ≤ 1000) : RdM (w.alloc (.cells (micCells l).toArray 58)) (.slice (some ⟨w.heap.size, 0, none⟩) l.length l.length) l := by
  refine ⟨_, _, rfl, Nat.le_refl _, by unfold maxLen; omega, .inr ⟨w.heap.size, 0, rfl, trivial, by simp, fun j u hj => ?_⟩⟩
  rw [Nat.zero_add, (BoxAt.new w _ _).cell]
  simpa using hj
theorem knRead1 (W : World) (h : EnvT W) : Calls Tryz.prog 21 #[.string ⟨[105, 110, 102, 111, 32, 48, 32, 49, 10, 10, 120].toArray⟩] W fun e w' => e = .returned (.tuple #[.slice none 0 0, .int .i64 2, .int .i64 4]) ∧ Fr W w' :=
  readN_c [105, 110, 102, 111, 32, 48, 32, 49, 10, 10, 120] 2 4 W h (by decide) knS1 knR1 (by decide)
theorem knRead2 (W : World) (h : EnvT W) : Calls Tryz.prog 21 #[.string ⟨[105, 110, 102, 111, 32, 48, 32, 49].toArray⟩] W fun e w' => ∃ a c, e = .returned (.tuple #[.slice a 1 c, .int .i64 1, .int .i64 0]) ∧ 1 ≤ c ∧ c ≤ maxLen ∧ Fr W w' := by
  have := readL_c [105, 110, 102, 111, 32, 48, 32, 49] (readT [105, 110, 102, 111, 32, 48, 32, 49]).1 1 0 W h (by decide) knS2 (Prod.ext rfl knR2.2)
  rw [knR2.1] at this
  refine this.mono fun e w' k => ?_
  obtain ⟨a, c, he, _, h1, h2, h3⟩ := k
  exact ⟨a, c, he, h1, h2, h3⟩
theorem knRead3 (W : World) (h : EnvT W) : Calls Tryz.prog 21 #[.string ⟨#[]⟩] W fun e w' => ∃ a c, e = .returned (.tuple #[.slice a 0 c, .int .i64 0, .int .i64 0]) ∧ c ≤ maxLen ∧ Fr W w' := by
  have := readL_c [] [] 0 0 W h (by decide) knS3 knR3
  refine this.mono fun e w' k => ?_
  obtain ⟨a, c, he, _, h1, h2, h3⟩ := k
  exact ⟨a, c, he, h2, h3⟩
theorem knRead4 (W : World) (h : EnvT W) : Calls Tryz.prog 21 #[.string ⟨[10].toArray⟩] W fun e w' => e = .returned (.tuple #[.slice none 0 0, .int .i64 1, .int .i64 4]) ∧ Fr W w' :=
  readN_c [10] 1 4 W h (by decide) knS4 knR4 (by decide)
theorem knLine (W : World) (h : EnvT W) : Calls Tryz.prog 11 #[knY.val nil0 nil0] W fun e w' => e = .returned (.tuple #[.string ⟨#[]⟩, .int .i64 4]) ∧ Fr W w' := by
  have := Line_c knY (knY.val nil0 nil0) W h ⟨nil0, nil0, rfl, RdM.nil _, RdR.nil _⟩ knY_ok
  unfold StrRet at this
  rw [knL] at this
  exact this
theorem knWrite1 (W : World) (v : Value) (h : EnvT W) (hl : RdE W v [knX, knZ]) : Calls Tryz.prog 20 #[v] W fun e w' => e = .returned (.tuple #[.string ⟨#[]⟩, .int .i64 4]) ∧ Fr W w' := by
  have := Write_txt [knX, knZ] v W h hl (fun x hx => by simp only [List.mem_cons, List.not_mem_nil, or_false] at hx; rcases hx with rfl | rfl; exact knX_ok; exact knZ_ok) (by decide)
  unfold StrRet at this
  rw [knW1] at this
  exact this
theorem knWrite2 (W : World) (v : Value) (h : EnvT W) (hl : RdE W v [knX, knV]) : Calls Tryz.prog 20 #[v] W fun e w' => e = .returned (.tuple #[.string ⟨[105, 110, 102, 111, 32, 48, 32, 48, 10, 97, 98, 111, 114, 116, 32, 48, 32, 50, 10].toArray⟩, .int .i64 0]) ∧ Fr W w' := by
  have := Write_txt [knX, knV] v W h hl (fun x hx => by simp only [List.mem_cons, List.not_mem_nil, or_false] at hx; rcases hx with rfl | rfl; exact knX_ok; exact knV_ok) (by decide)
  unfold StrRet at this
  rw [knW2] at this
  exact this
theorem rdE_lit {w : World} (evs : List (Ev × Value × Value)) (hl : evs.length ≤ 1000) (hr : ∀ e ∈ evs, RdM w e.2.1 e.1.txn ∧ RdR w e.2.2 e.1.reads) : RdE (w.alloc (.cells (evFlat evs).toArray 32)) (.slice (some ⟨w.heap.size, 0, none⟩) evs.length evs.length) (evs.map (·.1)) := by
  refine ⟨_, evs.length, by simp, by simp, by unfold maxLen; omega, .inr ⟨w.heap.size, 0, rfl, by simp, fun i hi => ?_⟩⟩
  have hi2 : i < evs.length := by simpa using hi
  have h1 : (evs.map (·.1))[i] = evs[i].1 := by simp
  rw [h1]
  have := hr _ (List.getElem_mem hi2)
  refine ⟨evs[i].2.1, evs[i].2.2, fun j u hj => ?_, this.1.keep ((Fr.refl w).alloc _), this.2.keep ((Fr.refl w).alloc _)⟩
  have := flat19 (g := fun e : Ev × Value × Value => (e.1.cells e.2.1 e.2.2).toList) (fun _ => rfl) evs i j hi2 u hj
  rw [(BoxAt.new w _ _).cell, Nat.zero_add]
  simpa [evFlat] using this
theorem rdE_two {w : World} (x y : Ev) (hx : x.txn = [] ∧ x.reads = []) (hy : y.txn = [] ∧ y.reads = []) : RdE (w.alloc (.cells (evFlat [(x, nil0, nil0), (y, nil0, nil0)]).toArray 32)) (.slice (some ⟨w.heap.size, 0, none⟩) 2 2) [x, y] :=
  rdE_lit [(x, nil0, nil0), (y, nil0, nil0)] (by simp) (fun e he => by
    simp only [List.mem_cons, List.not_mem_nil, or_false] at he
    rcases he with rfl | rfl
    · rw [hx.1, hx.2]; exact ⟨RdM.nil _, RdR.nil _⟩
    · rw [hy.1, hy.2]; exact ⟨RdM.nil _, RdR.nil _⟩)
set_option maxRecDepth 100000 in
set_option maxHeartbeats 8000000 in
theorem known06_law (w : World) (hE : EnvT w) : Calls Tryz.prog 7 #[] w fun e w' => e = .returned (.bool true) ∧ Fr w w' := by
  have HEN := Lib.hid hE
  have HWK := Lib.hid (fun W (f : Fr w W) => works06_c W (hE.keep f))
  have HK1 := Lib.hid (fun W (f : Fr w W) => is06_yes knE1 nil0 nil0 _ W (hE.keep f) (RdM.nil W) (RdR.nil W) knE1_ok knE1_may knE1_line)
  have HK2 := Lib.hid (fun W (f : Fr w W) => is06_yes knE2 nil0 nil0 _ W (hE.keep f) (RdM.nil W) (RdR.nil W) knE2_ok knE2_may knE2_line)
  have HK3 := Lib.hid (fun W (f : Fr w W) => is06_yes knE3 nil0 nil0 _ W (hE.keep f) (RdM.nil W) (RdR.nil W) knE3_ok knE3_may knE3_line)
  have HK4 := Lib.hid (fun W (f : Fr w W) => is06_yes knE4 nil0 nil0 _ W (hE.keep f) (RdM.nil W) (RdR.nil W) knE4_ok knE4_may knE4_line)
  have HK5 := Lib.hid (fun W (t : Value) (ht : RdM W t knE5.txn) (f : Fr w W) => is06_yes knE5 t nil0 _ W (hE.keep f) ht (RdR.nil W) knE5_ok knE5_may knE5_line)
  have HK6 := Lib.hid (fun W (f : Fr w W) => is06_yes knE6 nil0 nil0 _ W (hE.keep f) (RdM.nil W) (RdR.nil W) knE6_ok knE6_may knE6_line)
  have HK7 := Lib.hid (fun W (f : Fr w W) => is06_yes knE7 nil0 nil0 _ W (hE.keep f) (RdM.nil W) (RdR.nil W) knE7_ok knE7_may knE7_line)
  have HK8 := Lib.hid (fun W (f : Fr w W) => is06_yes knE8 nil0 nil0 _ W (hE.keep f) (RdM.nil W) (RdR.nil W) knE8_ok knE8_may knE8_line)
  clear hE
  go_enter Tryz.func7, Tryz.ntmps7
  go_wp2_with fail
  refine (HWK.out _ (Fr.refl w)).mono ?_
  rintro e w1 ⟨rfl, f1⟩
  have F1 := Lib.hid f1
  clear f1
  go_wp2_with fail
  refine (HK1.out _ F1.out).mono ?_
  rintro e w2 ⟨rfl, f2⟩
  have F2 := Lib.hid (F1.out.trans f2)
  clear f2
  go_wp2_with fail
  refine (HK2.out _ F2.out).mono ?_
  rintro e w3 ⟨rfl, f3⟩
  have F3 := Lib.hid (F2.out.trans f3)
  clear f3 F2
  go_wp2_with fail
  refine (HK3.out _ F3.out).mono ?_
  rintro e w4 ⟨rfl, f4⟩
  have F4 := Lib.hid (F3.out.trans f4)
  clear f4 F3
  go_wp2_with fail
  refine (HK4.out _ F4.out).mono ?_
  rintro e w5 ⟨rfl, f5⟩
  have F5 := Lib.hid (F4.out.trans f5)
  clear f5 F4
  go_wp2_with fail
  have hm5 : RdM (w5.alloc (.cells (micCells [⟨true, 2, 0⟩, ⟨false, 2, 6⟩]).toArray 58)) (.slice (some ⟨w5.heap.size, 0, none⟩) 2 2) knE5.txn := rdM_lit [⟨true, 2, 0⟩, ⟨false, 2, 6⟩] (by decide)
  refine (HK5.out _ _ hm5 (F5.out.alloc _)).mono ?_
  rintro e w6 ⟨rfl, f6⟩
  have F6 := Lib.hid ((F5.out.alloc _).trans f6)
  clear f6 F5 hm5
  go_wp2_with fail
  refine (HK6.out _ F6.out).mono ?_
  rintro e w7 ⟨rfl, f7⟩
  have F7 := Lib.hid (F6.out.trans f7)
  clear f7 F6
  go_wp2_with fail
  refine (HK7.out _ F7.out).mono ?_
  rintro e w8 ⟨rfl, f8⟩
  have F8 := Lib.hid (F7.out.trans f8)
  clear f8 F7
  go_wp2_with fail
  refine (HK8.out _ F8.out).mono ?_
  rintro e w9 ⟨rfl, f9⟩
  have F9 := Lib.hid (F8.out.trans f9)
  clear f9 F8
  clear HK1 HK2 HK3 HK4 HK5 HK6 HK7 HK8
  go_wp2_with fail
  refine wp_genK fun W9 hW9 => ?_
  have HR : Hid (RdS W9 (.slice (some ⟨w9.heap.size, 0, none⟩) 28 28) knBad) := Lib.hid (by rw [hW9]; exact (RowS.lit F9.out knBad (by decide)).rd)
  have FA : Hid (Fr w W9) := Lib.hid (by rw [hW9]; exact F9.out.alloc _)
  clear hW9 F9
  generalize w9.heap.size = p9 at HR ⊢
  go_loopw [2] (fun i wr => ∃ j : Nat, j ≤ 28 ∧ i = .int .i64 j ∧ Fr W9 wr) (fun i _ => 28 - (intOf i).toNat)
  case atStart => exact ⟨0, Nat.zero_le _, rfl, by first | exact Fr.refl _ | exact (Fr.refl _).drew⟩
  case round =>
    obtain ⟨j, hj, rfl, hf⟩ := hrel
    have HF := Lib.hid hf
    have hn : knBad.length = 28 := by kernel_rfl
    by_cases hlt : j < 28
    · obtain ⟨b1, o1, c1, he1, _, _, hb1, hc1⟩ := RdS.at (HR.out.keep hf) (k := j) (by omega)
      obtain ⟨hq1, h28, hq2⟩ := Value.slice.inj he1
      obtain ⟨hq3, hq4⟩ : b1 = p9 ∧ o1 = 0 := by simp at hq1; exact ⟨hq1.1.symm, hq1.2.symm⟩
      subst hq3 hq4
      have cj := hc1 j (knBad[j]'(by omega)) (by simp [hn, hlt])
      have hb := knBad_p (List.getElem_mem (show j < knBad.length by omega))
      generalize (knBad[j]'(by omega)) = q at cj hb
      rw [Nat.zero_add] at cj
      have HU := Lib.hid (unparsed06_yes q wr (HEN.out.keep (FA.out.trans hf)) hb.1 hb.2)
      clear hc1 he1 hq1 hf hb hq2 hn h28
      go_wp2_with fail
      refine HU.out.mono ?_
      rintro e w10 ⟨rfl, f10⟩
      have F10 := Lib.hid (HF.out.trans f10)
      clear f10
      go_wp2_with fail
      go_roundw
      case rel => exact ⟨j + 1, by omega, by go_num, F10.out⟩
      case measure => simp [intOf]; omega
    · have FR := Lib.hid (FA.out.trans hf)
      clear hf
      go_wp2_with fail
      refine (knRead1 _ (HEN.out.keep FR.out)).mono ?_
      rintro e w11 ⟨rfl, f11⟩
      have F11 := Lib.hid (FR.out.trans f11)
      clear f11 FR
      go_wp2_with fail
      refine (knRead2 _ (HEN.out.keep F11.out)).mono ?_
      rintro e w12 ⟨a2, c2, rfl, hc2, hm2, f12⟩
      have F12 := Lib.hid (F11.out.trans f12)
      clear f12 F11
      go_wp2_with fail
      refine (knRead3 _ (HEN.out.keep F12.out)).mono ?_
      rintro e w13 ⟨a3, c3, rfl, hm3, f13⟩
      have F13 := Lib.hid (F12.out.trans f13)
      clear f13 F12
      go_wp2_with fail
      refine (knRead4 _ (HEN.out.keep F13.out)).mono ?_
      rintro e w14 ⟨rfl, f14⟩
      have F14 := Lib.hid (F13.out.trans f14)
      clear f14 F13
      go_wp2_with fail
      refine (knLine _ (HEN.out.keep F14.out)).mono ?_
      rintro e w15 ⟨rfl, f15⟩
      have F15 := Lib.hid (F14.out.trans f15)
      clear f15 F14
      go_wp2_with fail
      refine (knWrite1 _ _ (HEN.out.keep (F15.out.alloc _)) (rdE_two knX knZ ⟨rfl, rfl⟩ ⟨rfl, rfl⟩)).mono ?_
      rintro e w16 ⟨rfl, f16⟩
      have F16 := Lib.hid ((F15.out.alloc _).trans f16)
      clear f16 F15
      go_wp2_with fail
      refine (knWrite2 _ _ (HEN.out.keep (F16.out.alloc _)) (rdE_two knX knV ⟨rfl, rfl⟩ ⟨rfl, rfl⟩)).mono ?_
      rintro e w17 ⟨rfl, f17⟩
      have F17 := Lib.hid ((F16.out.alloc _).trans f17)
      clear f17 F16
      go_wp2_with fail
      refine (HWK.out _ F17.out).mono ?_
      rintro e w18 ⟨rfl, f18⟩
      have F18 := Lib.hid (F17.out.trans f18)
      clear f18 F17
      go_wp2_with fail
      go_ret
      exact ⟨rfl, F18.out⟩
end Go.Proofs.YtfklgaeejmeipaaGreatDoor
