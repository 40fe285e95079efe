/- A region that draws its order: a quiet head, whose callees may make memory, then its last operations in their one order. No condition but what each says. -/
import Derived.Test.YtfklgaeejmeipaaGreatDoorPArms
import Derived.StillTail
import Derived.Test.YtfklgaeejmeipaaGreatDoorPTxtPar
import Derived.Test.YtfklgaeejmeipaaGreatDoorPTxtRd
import Derived.Test.YtfklgaeejmeipaaGreatDoorPEvSame
set_option linter.all false
set_option linter.unusedVariables false
set_option linter.unusedSimpArgs false
set_option linter.unnecessarySimpa false
/- A region that draws its order: a quiet head, whose callees may make memory, then its last operations in their one order. No condition but what each says. -/
namespace Go.Proofs.YtfklgaeejmeipaaGreatDoor
open Go.RowKit

end Go.Proofs.YtfklgaeejmeipaaGreatDoor

/- Whole structs that are read in drawn regions whose callees make memory. No condition but what each says. -/
namespace Go.Proofs.YtfklgaeejmeipaaGreatDoor
open Go.RowKit

theorem wpQuiet_here {P : Program} {ops : Array Oper} {C : World → Prop} {Q : Act → Prop} {o : Oper} {rest : List Oper} {a : Act} (i : Op) (ho : o.op = i) (h : wpQuiet P ops C Q (o :: rest) a) : wpQuiet P ops C Q (o :: rest) a := h
theorem wpQuiet_run {P : Program} {ops : Array Oper} {C : World → Prop} {Q : Act → Prop} {o : Oper} {rest : List Oper} {a : Act} (v : Value) (hr : ∀ w, C w → (execOp a.eval o).run P w = .ok (.value v) w) (hw : Region.wanted o (yielded ops a.tmps) = true) (h : wpQuiet P ops C Q rest (a.put o.dst v)) : wpQuiet P ops C Q (o :: rest) a :=
  wpQuiet_step fun K hK => by
    simp only [hw, if_true]
    refine ⟨v, fun w hC => ?_, hK _ h⟩
    unfold Oper.quietAt
    rw [hr w hC]
    exact ⟨rfl, rfl⟩
theorem wpQuiet_load_mid {P : Program} {ops : Array Oper} {C : World → Prop} {Q : Act → Prop} {o : Oper} {rest : List Oper} {a : Act} (ty : TypeId) (x : Operand) (ho : o.op = .load ty x)
    (b off : Nat) (hx : a.eval x = .pointer (some ⟨b, off, none⟩)) (cs : List Value) (d : TypeDesc) (hc : ∀ w, C w → w.rangeAt b off cs) (hu : P.underlying ty = some d) (hd : d.isRow = true) (hi : (P.info? ty).map (·.size) = some cs.length)
    (hw : Region.wanted o (yielded ops a.tmps) = true) (h : wpQuiet P ops C Q rest (a.put o.dst (.agg cs.toArray))) : wpQuiet P ops C Q (o :: rest) a :=
  wpQuiet_run _ (fun w hC => run_ld_mid ty x ho b off hx cs d (hc w hC) hu hd hi) hw h
theorem wpQuiet_load_midD {P : Program} {ops : Array Oper} {C : World → Prop} {Q : Act → Prop} {o : Oper} {rest : List Oper} {t : Array Value} {df : List Deferred} (d0 : Tmp) (hd0 : o.dst = some d0) (ty : TypeId) (x : Operand) (ho : o.op = .load ty x)
    (b off : Nat) (hx : Act.eval ⟨t, df⟩ x = .pointer (some ⟨b, off, none⟩)) (cs : List Value) (d : TypeDesc) (hc : ∀ w, C w → w.rangeAt b off cs) (hu : P.underlying ty = some d) (hd : d.isRow = true) (hi : (P.info? ty).map (·.size) = some cs.length)
    (hw : Region.wanted o (yielded ops t) = true) (h : wpQuiet P ops C Q rest ⟨t.setIfInBounds d0 (.agg cs.toArray), df⟩) : wpQuiet P ops C Q (o :: rest) ⟨t, df⟩ :=
  wpQuiet_load_mid ty x ho b off hx cs d hc hu hd hi hw (by rw [hd0]; exact h)
theorem FrW.range {w0 : World} {b o : Nat} {cs : List Value} (h : w0.rangeAt b o cs) (hb : b < w0.heap.size) : ∀ w, (∃ z : FrW w0, w = z.val) → w.rangeAt b o cs := by
  rintro w ⟨z, rfl⟩
  exact fun j v hj => (World.cell?_of_block (a := ⟨b, o + j, none⟩) (z.fr.block hb)).trans (h j v hj)
end Go.Proofs.YtfklgaeejmeipaaGreatDoor

/- umpirelaw06.TextReads: the law holds. No condition but the tables' content. -/
namespace Go.Proofs.YtfklgaeejmeipaaGreatDoor
open Go.RowKit
attribute [local go_sem] Oper.semAt_some

theorem lines_short {s t : W8} (h : t ∈ linesOf s) : t.length ≤ s.length := by
  unfold linesOf at h
  split at h
  · exact splitS_short ((List.dropLast_sublist _).subset h)
  · exact splitS_short h
set_option maxRecDepth 100000 in
set_option maxHeartbeats 8000000 in
theorem reads06_law (s : W8) (w : World) (hE : EnvT w) :
    Calls Tryz.prog 6 #[.string ⟨s.toArray⟩] w fun e w' => e = .returned (.bool true) ∧ Fr w w' := by
  have hsz := size_mk s
  have HW := Lib.hid (fun W (f : Fr w W) => works06_c W (hE.keep f))
  obtain ⟨L, n, e0, HY⟩ : ∃ L n e0, Hid (readT s = (L, n, e0)) := ⟨_, _, _, Lib.hid rfl⟩
  obtain ⟨ni, hni⟩ : ∃ m : Int, (n : Int) = m := ⟨_, rfl⟩
  obtain ⟨ei, hei⟩ : ∃ m : Int, (e0 : Int) = m := ⟨_, rfl⟩
  have HP : Hid (s.length ≤ 6000 → Calls Tryz.prog 21 #[.string ⟨s.toArray⟩] w fun e w' => ∃ a c, e = .returned (.tuple #[.slice a L.length c, .int .i64 ni, .int .i64 ei]) ∧ RdE w' (.slice a L.length c) L ∧ L.length ≤ c ∧ c ≤ maxLen ∧ Fr w w') := Lib.hid (fun h => by
    have := Read_txt s w hE (by omega) (fun t ht => by have := lines_short ht; omega)
    rw [HY.out] at this
    refine this.mono fun e w' k => ?_
    obtain ⟨v, he, h1, h2⟩ := k
    obtain ⟨a, c, rfl, g1, g2, _⟩ := id h1
    exact ⟨a, c, by rw [he, ← hni, ← hei], h1, g1, g2, h2⟩)
  have HQ : Hid (s.length ≤ 6000 → ∀ W, Calls Tryz.prog 22 #[.string ⟨s.toArray⟩] W fun e w' => ∃ a c, e = .returned (.tuple #[.slice a L.length c, .int .i64 ni, .int .i64 ei]) ∧ RdE w' (.slice a L.length c) L ∧ L.length ≤ c ∧ c ≤ maxLen ∧ Fr W w') := Lib.hid (fun h W => by
    have := rRead6_c s W (by omega) (fun t ht => by have := lines_short ht; omega)
    rw [HY.out] at this
    refine this.mono fun e w' k => ?_
    obtain ⟨v, he, h1, h2⟩ := k
    obtain ⟨a, c, rfl, g1, g2, _⟩ := id h1
    exact ⟨a, c, by rw [he, ← hni, ← hei], h1, g1, g2, h2⟩)
  clear hE hni hei HY
  by_cases h6 : 6000 < s.length
  · have hi : (6000 : Int) < s.length := by omega
    go_enter Tryz.func6, Tryz.ntmps6
    go_wp2_with fail
    refine (HW.out _ (Fr.refl _)).mono ?_
    rintro e w2 ⟨rfl, f2⟩
    go_wp2_with fail
    go_ret
    exact ⟨rfl, f2⟩
  have hi : ¬ (6000 : Int) < s.length := by omega
  have HP := Lib.hid (HP.out (by omega))
  have HQ := Lib.hid (HQ.out (by omega))
  go_enter Tryz.func6, Tryz.ntmps6
  go_wp2_with fail
  refine HP.out.mono ?_
  rintro e w1 ⟨a1, c1, rfl, hr1, hc1, hm1, f1⟩
  have HR1 := Lib.hid hr1
  have F1 := Lib.hid f1
  clear hr1 f1 HP
  go_wp2_with fail
  refine (HQ.out _).mono ?_
  rintro e w2 ⟨a2, c2, rfl, hr2, hc2, hm2, f2⟩
  have HR1 := Lib.hid (RdE.keep HR1.out f2)
  have HR2 := Lib.hid hr2
  have F2 := Lib.hid (F1.out.trans f2)
  unfold maxLen at hm1 hm2
  clear hr2 f2 HQ
  go_wp2_with fail
  obtain ⟨W2, hW2⟩ : ∃ W2, W2 = w2 := ⟨_, rfl⟩
  subst hW2
  go_loopw [9] (fun i wr => ∃ k : Nat, k ≤ L.length ∧ i = .int .i64 k ∧ Fr W2 wr) (fun i _ => L.length - (intOf i).toNat)
  case atStart => exact ⟨0, Nat.zero_le _, rfl, by first | exact Fr.refl _ | exact (Fr.refl _).drew⟩
  case round =>
    obtain ⟨k, hk, rfl, hf⟩ := hrel
    have HF := Lib.hid hf
    by_cases hlt : k < L.length
    · obtain ⟨b1, o1, t1, r1, rfl, hb1, hx1, ht1, hr1⟩ := RdE.at (RdE.keep HR1.out hf) hlt
      obtain ⟨b2, o2, t2, r2, rfl, hb2, hx2, ht2, hr2⟩ := RdE.at (RdE.keep HR2.out hf) hlt
      generalize L[k] = x at hx1 ht1 hr1 hx2 ht2 hr2
      have hk1 : k < c1 := by omega
      have hk2 : k < c2 := by omega
      have HS := Lib.hid (fun (z : FrW wr) => refSame_c (x.val t1 r1) (x.val t2 r2) x x z.val ⟨t1, r1, rfl, ht1.keep z.fr, hr1.keep z.fr⟩ ⟨t2, r2, rfl, ht2.keep z.fr, hr2.keep z.fr⟩)
      rw [show decide (x = x) = true by simp] at HS
      have hex := FrW.range hx1 hb1
      have hey := FrW.range hx2 hb2
      have hlt1 : ∀ z : FrW wr, b1 < z.val.heap.size := fun z => Nat.lt_of_lt_of_le hb1 z.fr.size
      have hlt2 : ∀ z : FrW wr, b2 < z.val.heap.size := fun z => Nat.lt_of_lt_of_le hb2 z.fr.size
      clear hx1 hx2 ht1 hr1 ht2 hr2 hf
      go_wp2_with fail
      refine wp_region_fr (by kernel_rfl) (by kernel_rfl) ?_
      repeat (first | ((with_reducible refine wpQuiet_here (.load 32 (.tmp 49)) rfl ?_); refine wpQuiet_load_midD 50 rfl 32 (.tmp 49) rfl b1 (o1 + k * 19) rfl _ _ hex Tryz.underlying32 rfl Tryz.infoEv rfl ?_; simp only [List.setIfInBounds_toArray, List.set_cons_succ, List.set_cons_zero]) | ((with_reducible refine wpQuiet_here (.load 32 (.tmp 53)) rfl ?_); refine wpQuiet_load_midD 54 rfl 32 (.tmp 53) rfl b2 (o2 + k * 19) rfl _ _ hey Tryz.underlying32 rfl Tryz.infoEv rfl ?_; simp only [List.setIfInBounds_toArray, List.set_cons_succ, List.set_cons_zero]) | go_big_quiet_step ((go_at_call 15; exact frq (HS.out _))))
      refine wpQuiet_nil ?_
      rintro w5 ⟨⟨_, f5⟩, rfl⟩
      have F5 := Lib.hid (HF.out.trans f5)
      clear f5 hex hey hlt1 hlt2 HS
      go_wp2_with fail
      go_roundw
      case rel => exact ⟨k + 1, by omega, by go_num, F5.out⟩
      case measure => simp [intOf]; omega
    · clear hf
      go_wp2_with fail
      refine (HW.out _ (F2.out.trans HF.out)).mono ?_
      rintro e w4 ⟨rfl, f4⟩
      have F4 := Lib.hid ((F2.out.trans HF.out).trans f4)
      clear f4
      go_wp2_with fail
      go_ret
      exact ⟨rfl, F4.out⟩
end Go.Proofs.YtfklgaeejmeipaaGreatDoor
