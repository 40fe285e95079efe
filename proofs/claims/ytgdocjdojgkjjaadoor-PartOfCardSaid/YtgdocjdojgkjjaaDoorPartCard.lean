/- PartOf's statement: of any operation of any model and any number: the law returns true, its arguments read as before. The tables that are listed are tied by the card. No further condition. -/
import Derived.Test.YtgdocjdojgkjjaaDoorPartLaw
import Derived.Test.YtgdocjdojgkjjaaDoorOpen
import Derived.Test.YtgdocjdojgkjjaaDoorKinds
import Derived.Test.YtgdocjdojgkjjaaDoorCards
import Derived.Test.YtgdocjdojgkjjaaDoorTie
import Derived.OpenShut
import Derived.Deep.DeepHandedRow
import Derived.Lib.LaidTab
import Derived.ChangeOld
import Derived.LaidMore
import Derived.Stop.Joined
namespace Go.Proofs.YtgdocjdojgkjjaaDoor.partOf
open Go.ChangeShapes Go.WideShapes Go.ChangeAt Go.RowKit Go.Joins

theorem own : ownKnob Tryd.prog.godebug = none := by kernel_rfl
theorem laidOut : laidOutB Tryd.prog = true := by kernel_rfl
theorem cellsOp : Tryd.prog.cellsOf 24 = 5 := by kernel_rfl
theorem cellsAsked : Tryd.prog.cellsOf 26 = 2 := by kernel_rfl

theorem env {W : World} (h : laidMetH Tryd.prog Rows.partOfRow.laid W) : Env W := by
  have hp := pow10_of h (by rfl)
  exact { triv := trivial, kinds := kinds_of h (by rfl), pow10 := hp.1, many := hp.2 }

theorem contract (H : Type) (enc : TypeId × Value → H) (W : World) (base : Nat) (args : Array Value) (ds gs : List (DataW H)) (before : List MemPlace)
    (hval : ∀ (j : Nat) t v, Tryd.f3.params[j]? = some t → args[j]? = some v → Value.okWide Tryd.prog W .any base t v)
    (hW : DataW.Whole enc Tryd.prog Tryd.f3.params.toList Rows.partOfSpec.vars false W args.toList ds gs before) (hL : laidMetH Tryd.prog Rows.partOfRow.laid W) :
    Calls Tryd.prog 3 args W fun e W' => ∃ v, e = .returned v ∧ Rows.partOfSpec.post enc Tryd.prog Tryd.f3 false true false false W args v W' := by
  have hW' := hW
  obtain ⟨p, q, hA0, hV, rfl, hfz, hnd⟩ := hW
  have hA : DataW.TrodAll enc Tryd.prog W 0 (fun _ => true) true Tryd.f3.params.toList args.toList ds p := hA0
  rw [Tryd.params3] at hA hval
  obtain ⟨v0, vs0, d0, ds0, p0, q0, hargs, rfl, rfl, h0, r0⟩ := trodAll_cons hA
  obtain ⟨v1, vs1, d1, ds1, p1, q1, rfl, rfl, rfl, h1, r1⟩ := trodAll_cons r0
  obtain ⟨v2, vs2, d2, ds2, p2, q2, rfl, rfl, rfl, h2, r2⟩ := trodAll_cons r1
  obtain ⟨rfl, rfl, rfl⟩ := trodAll_nil r2
  obtain rfl : args = #[v0, v1, v2] := by cases args; simp_all
  obtain ⟨rfl, rfl⟩ := trodVars_none hV
  have k0 := h0
  have k1 := h1
  have k2 := h2
  have lt0 : ∀ x ∈ p0, x.block < W.heap.size := by obtain ⟨m, hm⟩ := k0; exact DataW.trod_lt m _ _ _ hm
  have lt1 : ∀ x ∈ p1, x.block < W.heap.size := by obtain ⟨m, hm⟩ := k1; exact DataW.trod_lt m _ _ _ hm
  have lt2 : ∀ x ∈ p2, x.block < W.heap.size := by obtain ⟨m, hm⟩ := k2; exact DataW.trod_lt m _ _ _ hm
  obtain ⟨m, rfl, _, _, wm⟩ := open_int Tryd.underlying5 (hval 0 5 v0 rfl rfl) h0
  obtain ⟨c0, c1, c2, c3, c4, y0, y1, y2, y3, y4, n1, rfl, _, _, g0, g1, g2, g3, g4⟩ := open_agg5 Tryd.underlying24 (by kernel_rfl) cellsOp (hval 1 24 v1 rfl rfl) h1
  obtain ⟨F, e0, _, wF⟩ := DataW.trod_int Tryd.underlying5 g0
  obtain ⟨O, e1, _, wO⟩ := DataW.trod_int Tryd.underlying5 g1
  obtain ⟨K, e2, _, wK⟩ := DataW.trod_int Tryd.underlying5 g2
  obtain ⟨A, e3, _, wA⟩ := DataW.trod_int Tryd.underlying22 g3
  obtain ⟨B, e4, _, wB⟩ := DataW.trod_int Tryd.underlying22 g4
  simp only [List.cons.injEq, and_true] at e0 e1 e2 e3 e4
  subst e0 e1 e2 e3 e4
  obtain ⟨c5, c6, y5, y6, n2, rfl, _, _, g5, g6⟩ := open_agg2 Tryd.underlying26 (by kernel_rfl) cellsAsked (hval 2 26 v2 rfl rfl) h2
  obtain ⟨n, e5, _, wn⟩ := DataW.trod_int Tryd.underlying3 g5
  obtain ⟨pt, e6, _⟩ := DataW.trod_bool Tryd.underlying4 g6
  simp only [List.cons.injEq, and_true] at e5 e6
  subst e5 e6
  have bm := bounds_u8 wm
  have bF := bounds_u8 wF
  have bO := bounds_u8 wO
  have bK := bounds_u8 wK
  obtain ⟨Fn, rfl⟩ := Int.eq_ofNat_of_zero_le bF.1
  refine (PartOf_c m Fn O K A B n pt W (env hL) (by omega) bm.1 bm.2 bO.1 bO.2 bK.1 bK.2).mono fun e W' ⟨he, bel⟩ => ?_
  subst he
  exact ⟨_, rfl, _, _, _, [], _, [], hW', trodAll_mk1 (shut_bool Tryd.underlying4 _), (trodAll_cons_mk (Below.trod laidOut (by kernel_rfl) (of_decide_eq_true (by kernel_rfl)) k0 bel lt0) (trodAll_cons_mk (Below.trod laidOut (by kernel_rfl) (of_decide_eq_true (by kernel_rfl)) k1 bel lt1) (trodAll_cons_mk (Below.trod laidOut (by kernel_rfl) (of_decide_eq_true (by kernel_rfl)) k2 bel lt2) trodAll_mk0))), rfl, bel.frame _, fun h => by cases h⟩

/-- A world for the witness: the program's own door has laid the tables. -/
theorem laid_met (os : Os) (args : Array Value) : laidMet Tryd.prog Rows.partOfRow.laid ((World.doorLaid Tryd.prog 400 os).forCall (fun _ _ => 0) ⟨#[], args, []⟩).memory :=
  laidMet_of_run' 8 (by kernel_rfl) (by kernel_rfl)
def wit : Array Value := #[.int .u8 0, .agg #[.int .u8 0, .int .u8 0, .int .u8 0, .int .u16 0, .int .u16 0], .agg #[.int .i64 0, .bool false]]
def witD {H : Type} : List (DataW H) := [.lit (.int .u8 0), .agg [.lit (.int .u8 0), .lit (.int .u8 0), .lit (.int .u8 0), .lit (.int .u16 0), .lit (.int .u16 0)], .agg [.lit (.int .i64 0), .lit (.bool false)]]
theorem reads (os : Os) {H : Type} (enc : TypeId × Value → H) : ∃ places, DataW.whole enc Tryd.prog ((World.doorLaid Tryd.prog 400 os).forCall (fun _ _ => 0) ⟨#[], wit, []⟩).memory Tryd.f3.params.toList Rows.partOfSpec.vars false wit.toList 8 = some (witD, [], places) :=
  ⟨[], by kernel_rfl⟩

set_option maxRecDepth 100000 in
theorem lifted (os : Os) (started : os.Started) (H : Type) (enc : TypeId × Value → H) (F : Stop.Interp) :
    ReturnsInHanded {} Tryd.checked os 3 .any ((OpenSpec.ofChange Rows.partOfSpec).preRow enc Tryd.prog Tryd.f3 Rows.partOfRow.domain false Rows.partOfRow.laid) (((OpenSpec.ofChange Rows.partOfSpec).at F).post enc Tryd.prog Tryd.f3 false true false false) := by
  obtain ⟨places, hx⟩ := reads os enc
  refine returnsInHanded_of_row (C := Tryd.checked) (s := OpenSpec.ofChange Rows.partOfSpec) own started (by kernel_rfl) Tryd.func3
    (witness_row_at (enc := enc) (C := Tryd.checked) false (World.doorLaid Tryd.prog 400 os) wit rfl (by kernel_rfl) (by kernel_rfl) (by kernel_rfl)
      (OpenSpec.preRow_of_cond 8 hx (by kernel_rfl) (fun k hk => by cases hk) (by kernel_rfl) (laid_met os _))) ?_
  intro W base args ds gs before hval hW _ _ _ hL _ _
  exact contract H enc W base args ds gs before hval hW hL

theorem said : Rows.PartOfSaid :=
  OpenClaim.holds_of_cond 3 Tryd.f3 rfl rfl rfl rfl rfl rfl rfl ⟨rfl, rfl, rfl, rfl, rfl⟩ rfl rfl rfl rfl rfl (by kernel_rfl) Tryd.func3 (by kernel_rfl)
    (of_decide_eq_true (by kernel_rfl)) (by unfold Func.isWrapper; first | (rw [if_pos (by decide +kernel)]; kernel_rfl) | (rw [if_neg (by decide +kernel)]; exact ⟨rfl, rfl⟩))
    (fun os started H enc _ F => by rw [OpenClaim.pre_eq_preRow]; exact lifted os started H enc F)

theorem plain (f : FuncId) (fn : Func) (hf : Tryd.pinned.checked.prog.funcNamed "umpire/umpirelaw21.PartOf" = some f) (hfn : Tryd.pinned.checked.prog.funcs[f]? = some fn) :
    false = Tryd.pinned.checked.prog.looks [] ∧ ∀ (j : Nat) t, fn.params[j]? = some t → Tryd.pinned.checked.prog.wantsStandIn t = false := by
  obtain rfl : f = 3 := Option.some.inj ((show Tryd.prog.funcNamed "umpire/umpirelaw21.PartOf" = some 3 by kernel_rfl).symm.trans hf) |>.symm
  obtain rfl : fn = Tryd.f3 := (Option.some.inj (Tryd.func3.symm.trans hfn)).symm
  refine ⟨by kernel_rfl, fun j t ht => ?_⟩
  rw [Tryd.params3] at ht
  have hm := Array.mem_of_getElem? ht
  simp at hm
  rcases hm with rfl | rfl | rfl
  · exact (show Tryd.prog.wantsStandIn 5 = false by kernel_rfl)
  · exact (show Tryd.prog.wantsStandIn 24 = false by kernel_rfl)
  · exact (show Tryd.prog.wantsStandIn 26 = false by kernel_rfl)

/-- PartOf's card. -/
theorem card : Rows.PartOfCardSaid :=
  Claim7.holds_tied_plain_at .later [] _ _ _ _ said (fun _ h => by cases h) (by kernel_rfl) (fun _ h => by cases h) partOf_row_tie rfl ⟨rfl, rfl⟩ (by kernel_rfl) rfl plain (by kernel_rfl)
#print axioms card
end Go.Proofs.YtgdocjdojgkjjaaDoor.partOf
