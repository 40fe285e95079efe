/- The walk of OpTells: it answers true. No condition but the tables' content. -/
import Derived.Test.YthaocbmkkgeomaaDoorPParseP
import Derived.Test.YthaocbmkkgeomaaDoorPWordsR
import Derived.Test.YthaocbmkkgeomaaDoorPRefOps
set_option linter.all false
set_option linter.unusedVariables false
set_option linter.unusedSimpArgs false
set_option linter.unnecessarySimpa false
/- The walk of OpTells: it answers true. No condition but the tables' content. -/
namespace Go.Proofs.YthaocbmkkgeomaaDoor
open Go.RowKit

/-- What the last statement reads. -/
def TellS (w : World) (n m : Nat) (x : OpD) (md : Int) (W : World) : Prop :=
  Fr w W ∧ W.cell? ⟨n, 0, none⟩ = some (.int .u8 x.F) ∧ W.cell? ⟨n, 1, none⟩ = some (.int .u8 x.O) ∧ W.cell? ⟨n, 2, none⟩ = some (.int .u8 x.K) ∧ W.cell? ⟨n, 3, none⟩ = some (.int .u16 x.A) ∧ W.cell? ⟨n, 4, none⟩ = some (.int .u16 x.B) ∧ W.cell? ⟨m, 0, none⟩ = some (.int .i64 md)
theorem TellS.keep {w : World} {n m : Nat} {x : OpD} {md : Int} {W W' : World} (h : TellS w n m x md W) (f : Fr W W') : TellS w n m x md W' :=
  ⟨h.1.trans f, f.keep h.2.1, f.keep h.2.2.1, f.keep h.2.2.2.1, f.keep h.2.2.2.2.1, f.keep h.2.2.2.2.2.1, f.keep h.2.2.2.2.2.2⟩
theorem kModel_range (f : Int) : 0 ≤ kModel f ∧ kModel f ≤ 3 := by unfold kModel; repeat (first | split | omega)
set_option maxRecDepth 100000 in
set_option maxHeartbeats 2000000 in
theorem tells_c (x : OpD) (m : Nat) (w : World) (hE : Env w) (ok : x.Ok) (hm : m < 256) :
    Calls Tryd.prog 9 #[x.val, .int .u8 m] w fun e w' => e = .returned (.bool true) ∧ Fr w w' := by
  obtain ⟨md, isB, nm, k, a, b, hmo, hof, hm0, hm3⟩ : ∃ (md : Int) (isB : Bool) (nm : ByteArray) (k a b : Bool), (∀ W, Fr w W → Calls Tryd.prog 42 #[.int .u8 x.F] W fun e w' => e = .returned (.tuple #[.int .u8 md, .bool isB]) ∧ Fr W w') ∧
      (∀ W, Calls Tryd.prog 43 #[.int .u8 x.F] W fun e w' => e = .returned (.tuple #[.agg #[.int .i64 md, .string nm, .bool k, .bool a, .bool b], .bool isB]) ∧ Fr W w') ∧ 0 ≤ md ∧ md ≤ 3 := by
    by_cases h : 1 ≤ x.F ∧ x.F ≤ 11
    · have := kModel_range x.F
      exact ⟨kModel x.F, true, _, _, _, _, fun W f => Model_yes x.F W h.1 h.2 (hE.keep f), fun W => rOf_yes x.F W (by omega) (by omega), this.1, this.2⟩
    · have hF := ok.F
      exact ⟨0, false, _, _, _, _, fun W f => Model_no x.F W (by omega) (by omega) (by omega), fun W => rOf_no x.F W (by omega) (by omega) (by omega), by omega, by omega⟩
  have hpu := fun W (f : Fr w W) => opPut_c x.F x.O x.K x.A x.B W (hE.keep f) ok.F ok.O ok.K
  have hrp := fun W => rPut_c x.F x.O x.K x.A x.B W (by have := ok.F; omega) ok.A ok.B
  have hck := fun W (f : Fr w W) => Check_c m x.F x.O x.K x.A x.B W (hE.keep f) (by have := ok.F; omega)
  have hrc := fun W => rCheck_c m x.F x.O x.K x.A x.B W (by omega) (by omega) (by have := ok.F; omega)
  have hwd := fun W (f : Fr w W) => Words_c x W (hE.keep f) ok
  have hrw := fun W => rWords_c x W ok
  have hsm := fun u v W (h1 : RdS W u x.words) (h2 : RdS W v x.words) => sameS_c u v x.words x.words W h1 h2
  rw [decide_eq_true rfl] at hsm
  generalize checkN m x.F x.O x.K x.A x.B = C at hck hrc
  generalize putOp x.F x.O x.K x.A x.B = PQ at hpu hrp
  obtain ⟨PB, PE⟩ := PQ
  generalize x.words = ws at hwd hrw hsm
  have HMO := Lib.hid hmo
  have HOF := Lib.hid hof
  have HPU := Lib.hid hpu
  have HRP := Lib.hid hrp
  have HCK := Lib.hid hck
  have HRC := Lib.hid hrc
  have HWD := Lib.hid hwd
  have HRW := Lib.hid hrw
  have HSM := Lib.hid hsm
  have HE := Lib.hid hE
  have kM : IntKind.i64.wrap md = md := by simp [IntKind.wrap, IntKind.bits, IntKind.signed]; omega
  clear hmo hof hpu hrp hck hrc hwd hrw hsm hE ok
  have hB := BoxAt.new w x.row 60
  unfold OpD.row at hB
  have hf0 : Fr w (w.alloc (.cells #[.int .u8 x.F, .int .u8 x.O, .int .u8 x.K, .int .u16 x.A, .int .u16 x.B] 60)) := (Fr.refl w).alloc _
  unfold OpD.val
  go_enter Tryd.func9, Tryd.ntmps9
  go_wp2_with fail
  refine (HMO.out _ hf0).mono ?_
  rintro e w1 ⟨rfl, hb1⟩
  have hf1 := hf0.trans hb1
  have hB1 := hB.fr hb1
  have c1 := hB1.at 0 rfl
  have z1 := hB1.lt
  go_wp2_with fail
  refine (HOF.out _).mono ?_
  rintro e w2 ⟨rfl, hb2⟩
  have hf2 := (hf1.trans hb2).alloc (.cells #[.int .i64 md, .string nm, .bool k, .bool a, .bool b] 77)
  have hB2 := (hB1.fr hb2).alloc (.cells #[.int .i64 md, .string nm, .bool k, .bool a, .bool b] 77)
  have hR2 := BoxAt.new w2 #[.int .i64 md, .string nm, .bool k, .bool a, .bool b] 77
  have z2 := (hB1.fr hb2).lt
  clear c1 z1 hB1
  go_wp2_with ((with_reducible refine wpList_here (.load 60 (.tmp 2)) rfl ?_); refine wpList_load_box 60 (.tmp 2) rfl _ rfl _ hB2 _ Tryd.underlying60 rfl Tryd.infoOp rfl ?_)
  refine (HPU.out _ hf2).mono ?_
  rintro e w3 ⟨rfl, hb3⟩
  have hf3 := hf2.trans hb3
  have hB3 := hB2.fr hb3
  have hR3 := hR2.fr hb3
  have z3 := hB3.lt
  simp only
  go_wp2_with ((with_reducible refine wpList_here (.load 60 (.tmp 2)) rfl ?_); refine wpList_load_box 60 (.tmp 2) rfl _ rfl _ hB3 _ Tryd.underlying60 rfl Tryd.infoOp rfl ?_)
  refine (HRP.out _).mono ?_
  rintro e w4 ⟨rfl, hb4⟩
  have hf4 := hf3.trans hb4
  have hB4 := hB3.fr hb4
  have hR4 := hR3.fr hb4
  have hS : TellS w w.heap.size w2.heap.size x md w4.drew := ⟨hf4.drew, (hB4.drew).at 0 rfl, (hB4.drew).at 1 rfl, (hB4.drew).at 2 rfl, (hB4.drew).at 3 rfl, (hB4.drew).at 4 rfl, (hR4.drew).at 0 rfl⟩
  have z4 := hB4.lt
  have z5 := hR4.lt
  clear hB hB2 hB3 hB4 hR2 hR3 hR4 hf0 hf1 hf2 hf3 hb1 hb2 hb3 hb4 z2 z3
  simp only
  cases isB
  all_goals
    go_wp2_with fail
    unfold TellS at hS
    go_region_held (fun W' => Fr w W' ∧ W'.cell? ⟨w.heap.size, 0, none⟩ = some (.int .u8 x.F) ∧ W'.cell? ⟨w.heap.size, 1, none⟩ = some (.int .u8 x.O) ∧ W'.cell? ⟨w.heap.size, 2, none⟩ = some (.int .u8 x.K) ∧ W'.cell? ⟨w.heap.size, 3, none⟩ = some (.int .u16 x.A) ∧ W'.cell? ⟨w.heap.size, 4, none⟩ = some (.int .u16 x.B) ∧ W'.cell? ⟨w2.heap.size, 0, none⟩ = some (.int .i64 md)) (assumption) ((first
      | (go_at_call 45; refine (HCK.out _ (And.left (by assumption))).mono ?_; rintro e w5 ⟨rfl, hb5⟩; have hS5 := TellS.keep (by assumption) hb5; unfold TellS at hS5)
      | (go_at_call 46; refine (HRC.out _).mono ?_; rintro e w5 ⟨rfl, hb5⟩; have hS5 := TellS.keep (by assumption) hb5; unfold TellS at hS5)
      | (go_at_call 41; refine (HWD.out _ (And.left (by assumption))).mono ?_; rintro e w5 ⟨v1, rfl, hv1, hb5⟩; have hS5 := TellS.keep (by assumption) hb5; unfold TellS at hS5)
      | (go_at_call 47; refine (HRW.out _).mono ?_; rintro e w5 ⟨v2, rfl, hv2, hb5⟩; have hv1 := hv1.keep hb5; have hS5 := TellS.keep (by assumption) hb5; unfold TellS at hS5)
      | (go_at_call 39; refine (HSM.out _ _ _ hv1 hv2).mono ?_; rintro e w5 ⟨rfl, hb5⟩; have hb5 := hb5.fr; have hS5 := TellS.keep (by assumption) hb5; unfold TellS at hS5)
      | (go_at_call 34; refine (works_c _ (HE.out.keep (And.left (by assumption)))).mono ?_; rintro e w5 ⟨rfl, hb5⟩; have hS5 := TellS.keep (by assumption) hb5; unfold TellS at hS5)))
    all_goals
      go_wp2_with fail
      go_ret
      exact ⟨rfl, And.left (by assumption)⟩
end Go.Proofs.YthaocbmkkgeomaaDoor
