/- umpirelaw04.OpReads: the law's walk. No condition but what the tables hold. -/
import Derived.Test.YthaocbmkkgeomaaDoorPLawBack
import Derived.Test.YthaocbmkkgeomaaDoorPRefParse
import Derived.Test.YthaocbmkkgeomaaDoorPRefOps
import Derived.Laws.OwnMore
set_option linter.all false
set_option linter.unusedVariables false
set_option linter.unusedSimpArgs false
set_option linter.unnecessarySimpa false
/- umpirelaw04.OpReads: the law's walk. No condition but what the tables hold. -/
namespace Go.Proofs.YthaocbmkkgeomaaDoor
open Go.RowKit

theorem rParse4_c (v : Value) (l : List (List UInt8)) (w : World) (hv : RdS w v l) (hl : l.length < 1000000) : Calls Tryd.prog 38 #[v] w (OpRet w (parseOp l)) := by
  match l, hv, hl with
  | [], hv, _ => exact rparse_short v [] w hv (by simp)
  | [o], hv, _ => exact rparse_short v [o] w hv (by simp)
  | o :: n :: r, hv, hl => exact rparse_long v o n r w hv (by simp at hl; omega)
/-- No elements appended to nil. -/
theorem run_append_none {P : Program} {w : World} (t ty e : TypeId) (i : TypeInfo) (ht : P.underlying t = some (.slice e)) (hi : P.info? e = some i) (la : Option Addr) (lc : Nat) :
    (Builtin.append_ #[t, t] ty #[.slice none 0 0, .slice la 0 lc]).run P w = .ok (.slice none 0 0) w := by
  cases la <;> simp [Builtin.append_, run_underlying ht, sizeOf, typeInfo, hi, Builtin.lenOf, Builtin.firstCells, loadCells, loadCellsFrom]
theorem wpList_append_none {P : Program} {w : World} {ops : Array Oper} {rest : List Oper} {o : Oper} {a : Act} {Q : Exit → Act → World → Prop} (hgd : o.guard = none) (s x : Operand) (t : TypeId)
    (ho : o.op = .call { callee := .builtin .append, args := #[s, x], argTypes := #[t, t] }) (e : TypeId) (i : TypeInfo) (ht : P.underlying t = some (.slice e)) (hi : P.info? e = some i)
    (la : Option Addr) (lc : Nat) (hs : a.eval s = .slice none 0 0) (hx : a.eval x = .slice la 0 lc) (h : wpList P ops Q rest (a.put o.dst (.slice none 0 0)) w) : wpList P ops Q (o :: rest) a w := by
  refine wpList_plain hgd fun K hK => ?_
  have hrun := run_append_none (P := P) (w := w) t o.type e i ht hi la lc
  unfold Oper.wp
  simp [execOp, ho, resolve, invoke, builtin, hs, hx, hrun, Result.andThen]
  exact hK _ _ h
theorem Fr.grown {a b : World} {row : Option Nat} (h : a.grownBy b row) (hr : ∀ k, row = some k → a.heap.size ≤ k) : Fr a b := (Below.refl a.heap.size a).grown h (Nat.le_refl _) (fun k e => hr k e)
set_option maxRecDepth 100000 in
set_option maxHeartbeats 4000000 in
theorem opreads_c (s : List UInt8) (vl : Value) (l : List (List UInt8)) (w : World) (hE : Env w) (hv : RdS w vl l) :
    Calls Tryd.prog 7 #[.string ⟨s.toArray⟩, vl] w fun e w' => e = .returned (.bool true) ∧ Fr w w' := by
  have hfw := fun W (f : Fr w W) => few4_c vl l W (hv.keep f)
  have hvl := fun W (f : Fr w W) => hv.keep f
  obtain ⟨la, lc, rfl, hlc, hlm, hcs⟩ := id hv
  unfold maxLen at hlm
  have hsz := size_mk s
  have HFW := Lib.hid hfw
  have HVL := Lib.hid hvl
  have HE := Lib.hid hE
  clear hfw hvl hE hv
  by_cases hs : 1000 < s.length
  · have hsi : (1000 : Int) < s.length := by omega
    go_enter Tryd.func7, Tryd.ntmps7
    go_wp2_with fail
    refine (works_c _ HE.out).mono ?_
    rintro e wz ⟨rfl, hbz⟩
    go_wp2_with fail
    go_ret
    exact ⟨rfl, hbz⟩
  · have hsi : ¬ (1000 : Int) < s.length := by omega
    go_enter Tryd.func7, Tryd.ntmps7
    go_wp2_with fail
    refine (HFW.out _ (Fr.refl w)).mono ?_
    rintro e w1 ⟨fb, rfl, hfb, hf1⟩
    cases fb with
    | false =>
      go_wp2_with fail
      refine (works_c _ (HE.out.keep hf1)).mono ?_
      rintro e wz ⟨rfl, hbz⟩
      go_wp2_with fail
      go_ret
      exact ⟨rfl, hf1.trans hbz⟩
    | true =>
      obtain ⟨hl10, hl100⟩ := hfb rfl
      have hts := fun W (f : Fr w W) => opTake_c s W (HE.out.keep f) (by omega)
      have htr := fun W => rTake_c s W (by omega)
      have hpl := fun v W (f : Fr w W) (hr : RdS W v l) => Parse_c v l W (HE.out.keep f) hr (fun q hq => by have := hl100 q hq; omega)
      have hpr := fun v W (hr : RdS W v l) => rParse4_c v l W hr (by omega)
      unfold TakesOp at htr
      obtain ⟨⟨y, rest, yf⟩, hy⟩ : ∃ Y, takeOp s = Y := ⟨_, rfl⟩
      obtain ⟨⟨z, zg⟩, hz⟩ : ∃ Z, parseOp l = Z := ⟨_, rfl⟩
      rw [hy] at hts htr
      rw [hz] at hpl hpr
      have hey := fun W => opD_eql y y W
      rw [decide_eq_true rfl] at hey
      have hez := fun W => opD_eql z z W
      rw [decide_eq_true rfl] at hez
      have HTS := Lib.hid hts
      have HTR := Lib.hid htr
      have HPL := Lib.hid hpl
      have HPR := Lib.hid hpr
      clear hts htr hpl hpr hy hz hl100 hfb
      have hsame := fun u v W hu hv => sameS_c u v l l W hu hv
      rw [decide_eq_true rfl] at hsame
      have HSM := Lib.hid hsame
      clear hsame
      go_wp2_with fail
      refine (HTS.out _ hf1).mono ?_
      rintro e w2 ⟨rfl, hb2⟩
      have hf2 := hf1.trans hb2
      simp only
      unfold OpD.val
      have hB2 := BoxAt.new w2 y.row 60
      have hf2a := hf2.alloc (.cells y.row 60)
      go_wp2_with ((with_reducible refine wpList_here (.store 60 (.tmp 5) (.tmp 28)) rfl ?_); refine wpList_store_new 60 (.tmp 5) (.tmp 28) rfl _ y.row _ rfl rfl rfl Tryd.infoOp rfl y.one rfl rfl ?_)
      refine (HTR.out _).mono ?_
      rintro e w3 ⟨rfl, hb3⟩
      have hf3 := hf2a.trans hb3
      have hB3 := (hB2.fr hb3).alloc (.cells y.row 60)
      have hC3 := BoxAt.new w3 y.row 60
      have hf3a := hf3.alloc (.cells y.row 60)
      have hzB := (hB2.fr hb3).lt
      clear hf2a hf2 hf1 hb2 hb3 hB2
      simp only
      unfold OpD.val
      obtain ⟨i0, hi0, hz0, hz1, hz2⟩ := info_parts Tryd.infoStr
      have HI := Lib.hid hi0
      have HZ0 := Lib.hid hz0
      have HZ1 := Lib.hid hz1
      have HZ2 := Lib.hid hz2
      clear hi0 hz0 hz1 hz2
      rcases Nat.eq_zero_or_pos l.length with h0 | hpos
      · have hl := List.eq_nil_of_length_eq_zero h0
        subst hl
        simp only [List.length_nil] at *
        have hrd4 : RdS (w3.alloc (.cells y.row 60)) (.slice none 0 0) [] := RdS.nil _
        go_wp2_with (first | ((with_reducible refine wpList_here (.store 60 (.tmp 8) (.tmp 34)) rfl ?_); refine wpList_store_new 60 (.tmp 8) (.tmp 34) rfl _ y.row _ rfl rfl rfl Tryd.infoOp rfl y.one rfl rfl ?_) | (at_builtin; refine wpList_append_none rfl (.tmp 37) (.tmp 38) 37 rfl 9 i0 Tryd.underlying37 HI.out la lc rfl rfl ?_))
        refine (HPL.out _ _ hf3a hrd4).mono ?_
        rintro e w5 ⟨rfl, hb5⟩
        have hf5 := hf3a.trans hb5
        have hrd5 := hrd4.keep hb5
        have hB5 := (hB3.fr hb5).alloc (.cells z.row 60)
        have hC5 := (hC3.fr hb5).alloc (.cells z.row 60)
        have hD5 := BoxAt.new w5 z.row 60
        have hf5a := hf5.alloc (.cells z.row 60)
        have hrd5a := hrd5.keep ((Fr.refl w5).alloc (.cells z.row 60))
        clear hb5 hf5 hrd5
        unfold OpD.val
        simp only
        go_wp2_with ((with_reducible refine wpList_here (.store 60 (.tmp 12) (.tmp 43)) rfl ?_); refine wpList_store_new 60 (.tmp 12) (.tmp 43) rfl _ z.row _ rfl rfl rfl Tryd.infoOp rfl z.one rfl rfl ?_)
        refine (HPR.out _ _ (HVL.out _ hf5a)).mono ?_
        rintro e w6 ⟨rfl, hb6⟩
        have hf6 := hf5a.trans hb6
        have hrd6 := (hrd5a.keep hb6).keep ((Fr.refl w6).alloc (.cells z.row 60))
        have hB6 := (hB5.fr hb6).alloc (.cells z.row 60)
        have hC6 := (hC5.fr hb6).alloc (.cells z.row 60)
        have hD6 := (hD5.fr hb6).alloc (.cells z.row 60)
        have hE6 := BoxAt.new w6 z.row 60
        have hf6a := hf6.alloc (.cells z.row 60)
        have zB := (hB5.fr hb6).lt
        have zC := (hC5.fr hb6).lt
        have zD := (hD5.fr hb6).lt
        clear hb6 hf6 hf5a hrd5a hB5 hC5 hD5
        unfold OpD.val
        unfold OpD.row at hB6 hC6 hD6 hE6
        simp only
        go_wp2_with (first | ((with_reducible refine wpList_here (.store 60 (.tmp 14) (.tmp 48)) rfl ?_); refine wpList_store_new 60 (.tmp 14) (.tmp 48) rfl _ z.row _ rfl rfl rfl Tryd.infoOp rfl z.one rfl rfl ?_) | ((with_reducible refine wpList_here (.load 60 (.tmp 5)) rfl ?_); refine wpList_load_box 60 (.tmp 5) rfl _ rfl _ hB6 _ Tryd.underlying60 rfl Tryd.infoOp rfl ?_) | ((with_reducible refine wpList_here (.load 60 (.tmp 8)) rfl ?_); refine wpList_load_box 60 (.tmp 8) rfl _ rfl _ hC6 _ Tryd.underlying60 rfl Tryd.infoOp rfl ?_) | ((with_reducible refine wpList_here (.load 60 (.tmp 12)) rfl ?_); refine wpList_load_box 60 (.tmp 12) rfl _ rfl _ hD6 _ Tryd.underlying60 rfl Tryd.infoOp rfl ?_) | ((with_reducible refine wpList_here (.load 60 (.tmp 14)) rfl ?_); refine wpList_load_box 60 (.tmp 14) rfl _ rfl _ hE6 _ Tryd.underlying60 rfl Tryd.infoOp rfl ?_))
        refine (HSM.out _ _ _ hrd6 (HVL.out _ hf6a)).mono ?_
        rintro e w7 ⟨rfl, hb7⟩
        have hf7 := hf6a.trans hb7.fr
        go_wp2_with fail
        refine (works_c _ (HE.out.keep hf7)).mono ?_
        rintro e w8 ⟨rfl, hb8⟩
        go_wp2_with fail
        go_ret
        exact ⟨rfl, hf7.trans hb8⟩
      · have hpi : ¬ l = [] := fun e => by rw [e] at hpos; simp at hpos
        rcases hcs with hcs | ⟨b, off, rfl, _, hbz, hc⟩
        · exact absurd (by have := congrArg List.length hcs; simpa [strCells] using this) hpi
        have hc3 := fun j u h => hf3a.keep (hc j u h)
        go_wp2_with (first | ((with_reducible refine wpList_here (.store 60 (.tmp 8) (.tmp 34)) rfl ?_); refine wpList_store_new 60 (.tmp 8) (.tmp 34) rfl _ y.row _ rfl rfl rfl Tryd.infoOp rfl y.one rfl rfl ?_) | (at_builtin; refine wpList_append_own _ rfl (.tmp 37) (.tmp 38) 37 rfl (w3.alloc (.cells y.row 60)).heap.size 9 i0 (.string ByteArray.empty) 1 16 Tryd.underlying37 HI.out HZ0.out HZ1.out HZ2.out rfl (by decide) _ 0 [] rfl (World.ownsRow_nil _ _ _ _) ⟨b, off, none⟩ l.length lc (strCells l) rfl (by simp [strCells]) ?c1 ?c2 ?c3 ?c4 (Nat.le_refl _) ?_))
        case c1 => intro j u hj; have h9 := hc3 j u hj; by_cases h8 : j = 0 <;> simp_all [Addr.add]
        case c2 => intro u hu; simp [strCells] at hu; obtain ⟨q, _, rfl⟩ := hu; rfl
        case c3 => simp only [maxLen]; omega
        case c4 => omega
        intro v4 w4 hn hgrow _
        (try rw [Nat.zero_add, List.nil_append] at hn)
        have hf4' : Fr (w3.alloc (.cells y.row 60)) w4 := Fr.grown hgrow (fun k hk => by cases hk)
        have hf4 := hf3a.trans hf4'
        have hrd4 : RdS w4 v4 l := (SlAt.own hn).mono fun _ _ => trivial
        have hB4 := hB3.fr hf4'
        have hC4 := hC3.fr hf4'
        clear hn hgrow hf4' hB3 hC3 hf3a hf3 hc3
        go_wp2_with fail
        refine (HPL.out _ _ hf4 hrd4).mono ?_
        rintro e w5 ⟨rfl, hb5⟩
        have hf5 := hf4.trans hb5
        have hrd5 := hrd4.keep hb5
        have hB5 := (hB4.fr hb5).alloc (.cells z.row 60)
        have hC5 := (hC4.fr hb5).alloc (.cells z.row 60)
        have hD5 := BoxAt.new w5 z.row 60
        have hf5a := hf5.alloc (.cells z.row 60)
        have hrd5a := hrd5.keep ((Fr.refl w5).alloc (.cells z.row 60))
        clear hb5 hf5 hrd5
        unfold OpD.val
        simp only
        go_wp2_with ((with_reducible refine wpList_here (.store 60 (.tmp 12) (.tmp 43)) rfl ?_); refine wpList_store_new 60 (.tmp 12) (.tmp 43) rfl _ z.row _ rfl rfl rfl Tryd.infoOp rfl z.one rfl rfl ?_)
        refine (HPR.out _ _ (HVL.out _ hf5a)).mono ?_
        rintro e w6 ⟨rfl, hb6⟩
        have hf6 := hf5a.trans hb6
        have hrd6 := (hrd5a.keep hb6).keep ((Fr.refl w6).alloc (.cells z.row 60))
        have hB6 := (hB5.fr hb6).alloc (.cells z.row 60)
        have hC6 := (hC5.fr hb6).alloc (.cells z.row 60)
        have hD6 := (hD5.fr hb6).alloc (.cells z.row 60)
        have hE6 := BoxAt.new w6 z.row 60
        have hf6a := hf6.alloc (.cells z.row 60)
        have zB := (hB5.fr hb6).lt
        have zC := (hC5.fr hb6).lt
        have zD := (hD5.fr hb6).lt
        clear hb6 hf6 hf5a hrd5a hB5 hC5 hD5
        unfold OpD.val
        unfold OpD.row at hB6 hC6 hD6 hE6
        simp only
        go_wp2_with (first | ((with_reducible refine wpList_here (.store 60 (.tmp 14) (.tmp 48)) rfl ?_); refine wpList_store_new 60 (.tmp 14) (.tmp 48) rfl _ z.row _ rfl rfl rfl Tryd.infoOp rfl z.one rfl rfl ?_) | ((with_reducible refine wpList_here (.load 60 (.tmp 5)) rfl ?_); refine wpList_load_box 60 (.tmp 5) rfl _ rfl _ hB6 _ Tryd.underlying60 rfl Tryd.infoOp rfl ?_) | ((with_reducible refine wpList_here (.load 60 (.tmp 8)) rfl ?_); refine wpList_load_box 60 (.tmp 8) rfl _ rfl _ hC6 _ Tryd.underlying60 rfl Tryd.infoOp rfl ?_) | ((with_reducible refine wpList_here (.load 60 (.tmp 12)) rfl ?_); refine wpList_load_box 60 (.tmp 12) rfl _ rfl _ hD6 _ Tryd.underlying60 rfl Tryd.infoOp rfl ?_) | ((with_reducible refine wpList_here (.load 60 (.tmp 14)) rfl ?_); refine wpList_load_box 60 (.tmp 14) rfl _ rfl _ hE6 _ Tryd.underlying60 rfl Tryd.infoOp rfl ?_))
        refine (HSM.out _ _ _ hrd6 (HVL.out _ hf6a)).mono ?_
        rintro e w7 ⟨rfl, hb7⟩
        have hf7 := hf6a.trans hb7.fr
        go_wp2_with fail
        refine (works_c _ (HE.out.keep hf7)).mono ?_
        rintro e w8 ⟨rfl, hb8⟩
        go_wp2_with fail
        go_ret
        exact ⟨rfl, hf7.trans hb8⟩
end Go.Proofs.YthaocbmkkgeomaaDoor
