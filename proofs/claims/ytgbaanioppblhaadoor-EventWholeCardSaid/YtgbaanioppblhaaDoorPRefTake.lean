/- umpireref04.Take: the operation that bytes begin with. No condition but that the bytes are fewer than 2^47. -/
import Derived.Test.YtgbaanioppblhaaDoorPOpTake
import Derived.Test.YtgbaanioppblhaaDoorPBase
set_option linter.unusedVariables false
set_option linter.unusedSimpArgs false
/- umpireref04.Take: the operation that bytes begin with. No condition but that the bytes are fewer than 2^47. -/
namespace Go.Proofs.YtgbaanioppblhaaDoor
open Go.RowKit

def b2n (k : Bool) (n : Nat) : Nat := if k then n else 0
theorem opBoxFr {w wi : World} {c0 c1 c2 c3 c4 : Value} {t : TypeId} (h : Fr (w.alloc (.cells #[c0, c1, c2, c3, c4] t)) wi) :
    wi.frozen? ⟨w.heap.size, 0, none⟩ = false ∧ wi.frozen? ⟨w.heap.size, 1, none⟩ = false ∧ wi.frozen? ⟨w.heap.size, 2, none⟩ = false ∧ wi.frozen? ⟨w.heap.size, 3, none⟩ = false ∧ wi.frozen? ⟨w.heap.size, 4, none⟩ = false := by
  have e : ∀ o, wi.frozen? ⟨w.heap.size, o, none⟩ = false := fun o => by
    rw [h.frozen _ _ (by simp)]; simp
  exact ⟨e _, e _, e _, e _, e _⟩

theorem rTake_nil (w : World) :
    Calls Tryd.prog 53 #[.string ⟨#[]⟩] w fun e w' => e = .returned (.tuple #[.agg #[.int .u8 0, .int .u8 0, .int .u8 0, .int .u16 0, .int .u16 0], .string ⟨#[]⟩, .int .i64 5]) ∧ Fr w w' := by
  go_enter Tryd.func53, Tryd.ntmps53
  go_wp2
  exact bodyPost_ret (v := .tuple #[.agg #[.int .u8 0, .int .u8 0, .int .u8 0, .int .u16 0, .int .u16 0], .string ⟨#[]⟩, .int .i64 5]) (by simp [results, Tryd.results53, go_sem]) rfl ⟨rfl, ((Fr.refl _).alloc _)⟩
set_option maxHeartbeats 400000 in
theorem rTake_none (f : UInt8) (s : List UInt8) (w : World) (hf : f.toNat = 0 ∨ 12 ≤ f.toNat) :
    Calls Tryd.prog 53 #[.string ⟨(f :: s).toArray⟩] w fun e w' => e = .returned (.tuple #[.agg #[.int .u8 0, .int .u8 0, .int .u8 0, .int .u16 0, .int .u16 0], .string ⟨#[]⟩, .int .i64 4]) ∧ Fr w w' := by
  have hlt := f.toNat_lt
  have hfind := fun W => rOf_no (f.toNat : Int) W (by omega) (by omega) (by omega)
  have HF := Lib.hid hfind
  have hl0 : (((s.length : Int) + 1) == 0) = false := by simp; omega
  clear hfind hlt hf
  have hsz := size_mk (f :: s)
  have g0 : ∀ hh, ((⟨(f :: s).toArray⟩ : ByteArray)[0]'hh) = f := fun _ => rfl
  go_enter Tryd.func53, Tryd.ntmps53
  go_wp2_with fail
  refine (HF.out _).mono ?_
  rintro e w1 ⟨rfl, hb1⟩
  obtain ⟨a0, a1, a2, a3, a4, s0⟩ := opBoxOnly hb1
  obtain ⟨z0, z1, z2, z3, z4⟩ := opBoxFr hb1
  have hfr1 : Fr w w1 := Fr.trans ((Fr.refl w).alloc _) hb1
  go_wp2
  refine bodyPost_ret (v := .tuple #[.agg #[.int .u8 0, .int .u8 0, .int .u8 0, .int .u16 0, .int .u16 0], .string ⟨#[]⟩, .int .i64 4]) (by simp [results, Tryd.results53, go_sem, a0, a1, a2, a3, a4, s0]) rfl ⟨rfl, ?_⟩
  repeat (with_reducible first | assumption | apply Fr.alloc | refine Fr.setCell ?_ (by simp) _)
set_option maxHeartbeats 2000000 in
set_option maxRecDepth 100000 in
theorem rTake_torn (k a b : Bool) (f : UInt8) (s : List UInt8) (w : World) (hf : 1 ≤ f.toNat ∧ f.toNat ≤ 11) (hk : hasK f.toNat = k) (ha : hasA f.toNat = a) (hb : hasB f.toNat = b) (hl : s.length < 1 + b2n k 1 + b2n a 2 + b2n b 2) :
    Calls Tryd.prog 53 #[.string ⟨(f :: s).toArray⟩] w fun e w' => e = .returned (.tuple #[.agg #[.int .u8 0, .int .u8 0, .int .u8 0, .int .u16 0, .int .u16 0], .string ⟨#[]⟩, .int .i64 5]) ∧ Fr w w' := by
  have hfind := fun W => rOf_yes (f.toNat : Int) W (by omega) (by omega)
  rw [hk, ha, hb] at hfind
  have HF := Lib.hid hfind
  have hl0 : (((s.length : Int) + 1) == 0) = false := by simp; omega
  have hsz := size_mk (f :: s)
  have g0 : ∀ hh, ((⟨(f :: s).toArray⟩ : ByteArray)[0]'hh) = f := fun _ => rfl
  clear hfind hf hk ha hb
  cases k <;> cases a <;> cases b
  all_goals
    simp only [b2n, if_true, if_false, Bool.false_eq_true] at hl
    go_enter Tryd.func53, Tryd.ntmps53
    go_wp2_with fail
    refine (HF.out _).mono ?_
    rintro e w1 ⟨rfl, hb1⟩
    obtain ⟨a0, a1, a2, a3, a4, s0⟩ := opBoxOnly hb1
    obtain ⟨z0, z1, z2, z3, z4⟩ := opBoxFr hb1
    have hfr1 : Fr w w1 := Fr.trans ((Fr.refl w).alloc _) hb1
    clear hb1
    go_wp2
    refine bodyPost_ret (v := .tuple #[.agg #[.int .u8 0, .int .u8 0, .int .u8 0, .int .u16 0, .int .u16 0], .string ⟨#[]⟩, .int .i64 5]) (by simp [results, Tryd.results53, go_sem, a0, a1, a2, a3, a4, s0]) rfl ⟨rfl, ?_⟩
    repeat (with_reducible first | assumption | apply Fr.alloc | refine Fr.setCell ?_ (by simp) _)
-- GENERATED BELOW (gen_reftake.py)

set_option maxHeartbeats 4000000 in
set_option maxRecDepth 100000 in
theorem rTake_0 (f o : UInt8) (r : List UInt8) (w : World) (hf : 1 ≤ f.toNat ∧ f.toNat ≤ 11) (hk : hasK f.toNat = false) (ha : hasA f.toNat = false) (hb : hasB f.toNat = false) (hbig : r.length ≤ 140737488355328) (m : Bool) (hm : mayB f.toNat o.toNat (0 : Nat) (0 : Nat) (0 : Nat) = m) :
    Calls Tryd.prog 53 #[.string ⟨(f :: o :: r).toArray⟩] w fun e w' => e = .returned (if m then .tuple #[.agg #[.int .u8 f.toNat, .int .u8 o.toNat, .int .u8 (0 : Nat), .int .u16 (0 : Nat), .int .u16 (0 : Nat)], .string ⟨r.toArray⟩, .int .i64 0] else .tuple #[.agg #[.int .u8 0, .int .u8 0, .int .u8 0, .int .u16 0, .int .u16 0], .string ⟨#[]⟩, .int .i64 4]) ∧ Fr w w' := by
  have hfind := fun W => rOf_yes (f.toNat : Int) W (by omega) (by omega)
  rw [hk, ha, hb] at hfind
  have HF := Lib.hid hfind
  have tf := f.toNat_lt
  have to := o.toNat_lt
  have hmay := fun W => rMay_c f.toNat o.toNat (0 : Nat) (0 : Nat) (0 : Nat) W (by omega)
  rw [hm] at hmay
  have HM := Lib.hid hmay
  have hsz := size_mk (f :: o :: r)
  have g0 : ∀ hh, ((⟨(f :: o :: r).toArray⟩ : ByteArray)[0]'hh) = f := fun _ => rfl
  have g1 : ∀ hh, ((⟨(f :: o :: r).toArray⟩ : ByteArray)[1]'hh) = o := fun _ => rfl
  have hext : (⟨(f :: o :: r).toArray⟩ : ByteArray).extract 2 (r.length + 1 + 1) = ⟨r.toArray⟩ := by apply ByteArray.ext; simp [ByteArray.data_extract]
  have HEX := Lib.hid hext
  clear hfind hf hk ha hb hmay hm hext tf to
  go_enter Tryd.func53, Tryd.ntmps53
  go_wp2_with fail
  refine (HF.out _).mono ?_
  rintro e w1 ⟨rfl, hb1⟩
  obtain ⟨a0, a1', a2', a3, a4, s0⟩ := opBoxOnly hb1
  obtain ⟨z0, z1, z2, z3, z4⟩ := opBoxFr hb1
  have hfr1 : Fr w w1 := Fr.trans ((Fr.refl w).alloc _) hb1
  have s01 : w.heap.size < w1.heap.size + 1 := by omega
  have s02 : w.heap.size < w1.heap.size + 1 + 1 := by omega
  have hne1 : w1.heap.size ≠ w.heap.size := by omega
  have s12 : w1.heap.size < w1.heap.size + 1 + 1 := by omega
  clear hb1
  go_wp2_with fail
  go_region
  go_wp2_with fail
  refine (HM.out _).mono ?_
  rintro e w2 ⟨rfl, hb2⟩
  have x0 := hb2.cell (w1.heap.size + 1) 0 (by simp)
  have x1 := hb2.cell (w1.heap.size + 1) 1 (by simp)
  have x2 := hb2.cell (w1.heap.size + 1) 2 (by simp)
  have x3 := hb2.cell (w1.heap.size + 1) 3 (by simp)
  have x4 := hb2.cell (w1.heap.size + 1) 4 (by simp)
  simp at x0 x1 x2 x3 x4
  have hb12 : Fr w1 w2 := Fr.trans (by repeat (with_reducible first | exact Fr.refl _ | apply Fr.drew | apply Fr.alloc)) hb2
  have b0 := hb12.keep a0
  have b1' := hb12.keep a1'
  have b2' := hb12.keep a2'
  have b3 := hb12.keep a3
  have b4 := hb12.keep a4
  have y0 := (hb12.frozen _ 0 s0).trans z0
  have y1 := (hb12.frozen _ 1 s0).trans z1
  have y2 := (hb12.frozen _ 2 s0).trans z2
  have y3 := (hb12.frozen _ 3 s0).trans z3
  have y4 := (hb12.frozen _ 4 s0).trans z4
  have hfr2 : Fr w w2 := hfr1.trans hb12
  have s2 : w.heap.size < w2.heap.size := lt_of_cell b0
  clear a0 a1' a2' a3 a4 z0 z1 z2 z3 z4 s0 s01 s02 s12 hne1 hb12 hfr1 hb2 
  cases m
  · go_wp2
    refine bodyPost_ret (v := .tuple #[.agg #[.int .u8 0, .int .u8 0, .int .u8 0, .int .u16 0, .int .u16 0], .string ⟨#[]⟩, .int .i64 4]) (by simp [results, Tryd.results53, go_sem, b0, b1', b2', b3, b4, s2]) rfl ⟨rfl, ?_⟩
    repeat (with_reducible first | assumption | apply Fr.drew | apply Fr.alloc | refine Fr.setCell ?_ (by simp) _)
  · go_wp2_with fail
    go_region
    go_wp2_with fail
    refine bodyPost_ret (v := .tuple #[.agg #[.int .u8 f.toNat, .int .u8 o.toNat, .int .u8 (0 : Nat), .int .u16 (0 : Nat), .int .u16 (0 : Nat)], .string ((⟨(f :: o :: r).toArray⟩ : ByteArray).extract 2 (r.length + 1 + 1)), .int .i64 0]) (by simp [results, Tryd.results53, go_sem, b0, b1', b2', b3, b4, s2]) rfl ⟨by rw [HEX.out]; rfl, ?_⟩
    repeat (with_reducible first | assumption | apply Fr.drew | apply Fr.alloc | refine Fr.setCell ?_ (by simp) _)

set_option maxHeartbeats 4000000 in
set_option maxRecDepth 100000 in
theorem rTake_1 (f o kk : UInt8) (r : List UInt8) (w : World) (hf : 1 ≤ f.toNat ∧ f.toNat ≤ 11) (hk : hasK f.toNat = true) (ha : hasA f.toNat = false) (hb : hasB f.toNat = false) (hbig : r.length ≤ 140737488355328) (m : Bool) (hm : mayB f.toNat o.toNat (kk.toNat : Nat) (0 : Nat) (0 : Nat) = m) :
    Calls Tryd.prog 53 #[.string ⟨(f :: o :: kk :: r).toArray⟩] w fun e w' => e = .returned (if m then .tuple #[.agg #[.int .u8 f.toNat, .int .u8 o.toNat, .int .u8 (kk.toNat : Nat), .int .u16 (0 : Nat), .int .u16 (0 : Nat)], .string ⟨r.toArray⟩, .int .i64 0] else .tuple #[.agg #[.int .u8 0, .int .u8 0, .int .u8 0, .int .u16 0, .int .u16 0], .string ⟨#[]⟩, .int .i64 4]) ∧ Fr w w' := by
  have hfind := fun W => rOf_yes (f.toNat : Int) W (by omega) (by omega)
  rw [hk, ha, hb] at hfind
  have HF := Lib.hid hfind
  have tf := f.toNat_lt
  have to := o.toNat_lt
  have tkk := kk.toNat_lt
  have hmay := fun W => rMay_c f.toNat o.toNat (kk.toNat : Nat) (0 : Nat) (0 : Nat) W (by omega)
  rw [hm] at hmay
  have HM := Lib.hid hmay
  have hsz := size_mk (f :: o :: kk :: r)
  have g0 : ∀ hh, ((⟨(f :: o :: kk :: r).toArray⟩ : ByteArray)[0]'hh) = f := fun _ => rfl
  have g1 : ∀ hh, ((⟨(f :: o :: kk :: r).toArray⟩ : ByteArray)[1]'hh) = o := fun _ => rfl
  have g2 : ∀ hh, ((⟨(f :: o :: kk :: r).toArray⟩ : ByteArray)[2]'hh) = kk := fun _ => rfl
  have hext : (⟨(f :: o :: kk :: r).toArray⟩ : ByteArray).extract 3 (r.length + 1 + 1 + 1) = ⟨r.toArray⟩ := by apply ByteArray.ext; simp [ByteArray.data_extract]
  have HEX := Lib.hid hext
  clear hfind hf hk ha hb hmay hm hext tf to tkk
  go_enter Tryd.func53, Tryd.ntmps53
  go_wp2_with fail
  refine (HF.out _).mono ?_
  rintro e w1 ⟨rfl, hb1⟩
  obtain ⟨a0, a1', a2', a3, a4, s0⟩ := opBoxOnly hb1
  obtain ⟨z0, z1, z2, z3, z4⟩ := opBoxFr hb1
  have hfr1 : Fr w w1 := Fr.trans ((Fr.refl w).alloc _) hb1
  have s01 : w.heap.size < w1.heap.size + 1 := by omega
  have s02 : w.heap.size < w1.heap.size + 1 + 1 := by omega
  have hne1 : w1.heap.size ≠ w.heap.size := by omega
  have s12 : w1.heap.size < w1.heap.size + 1 + 1 := by omega
  clear hb1
  go_wp2_with fail
  go_region
  go_wp2_with fail
  refine (HM.out _).mono ?_
  rintro e w2 ⟨rfl, hb2⟩
  have x0 := hb2.cell (w1.heap.size + 1) 0 (by simp)
  have x1 := hb2.cell (w1.heap.size + 1) 1 (by simp)
  have x2 := hb2.cell (w1.heap.size + 1) 2 (by simp)
  have x3 := hb2.cell (w1.heap.size + 1) 3 (by simp)
  have x4 := hb2.cell (w1.heap.size + 1) 4 (by simp)
  simp at x0 x1 x2 x3 x4
  have hb12 : Fr w1 w2 := Fr.trans (by repeat (with_reducible first | exact Fr.refl _ | apply Fr.drew | apply Fr.alloc)) hb2
  have b0 := hb12.keep a0
  have b1' := hb12.keep a1'
  have b2' := hb12.keep a2'
  have b3 := hb12.keep a3
  have b4 := hb12.keep a4
  have y0 := (hb12.frozen _ 0 s0).trans z0
  have y1 := (hb12.frozen _ 1 s0).trans z1
  have y2 := (hb12.frozen _ 2 s0).trans z2
  have y3 := (hb12.frozen _ 3 s0).trans z3
  have y4 := (hb12.frozen _ 4 s0).trans z4
  have hfr2 : Fr w w2 := hfr1.trans hb12
  have s2 : w.heap.size < w2.heap.size := lt_of_cell b0
  clear a0 a1' a2' a3 a4 z0 z1 z2 z3 z4 s0 s01 s02 s12 hne1 hb12 hfr1 hb2 
  cases m
  · go_wp2
    refine bodyPost_ret (v := .tuple #[.agg #[.int .u8 0, .int .u8 0, .int .u8 0, .int .u16 0, .int .u16 0], .string ⟨#[]⟩, .int .i64 4]) (by simp [results, Tryd.results53, go_sem, b0, b1', b2', b3, b4, s2]) rfl ⟨rfl, ?_⟩
    repeat (with_reducible first | assumption | apply Fr.drew | apply Fr.alloc | refine Fr.setCell ?_ (by simp) _)
  · go_wp2_with fail
    go_region
    go_wp2_with fail
    refine bodyPost_ret (v := .tuple #[.agg #[.int .u8 f.toNat, .int .u8 o.toNat, .int .u8 (kk.toNat : Nat), .int .u16 (0 : Nat), .int .u16 (0 : Nat)], .string ((⟨(f :: o :: kk :: r).toArray⟩ : ByteArray).extract 3 (r.length + 1 + 1 + 1)), .int .i64 0]) (by simp [results, Tryd.results53, go_sem, b0, b1', b2', b3, b4, s2]) rfl ⟨by rw [HEX.out]; rfl, ?_⟩
    repeat (with_reducible first | assumption | apply Fr.drew | apply Fr.alloc | refine Fr.setCell ?_ (by simp) _)

set_option maxHeartbeats 4000000 in
set_option maxRecDepth 100000 in
theorem rTake_2 (f o a1 a2 : UInt8) (r : List UInt8) (w : World) (hf : 1 ≤ f.toNat ∧ f.toNat ≤ 11) (hk : hasK f.toNat = false) (ha : hasA f.toNat = true) (hb : hasB f.toNat = false) (hbig : r.length ≤ 140737488355328) (m : Bool) (hm : mayB f.toNat o.toNat (0 : Nat) ((a1.toNat * 256 + a2.toNat) : Nat) (0 : Nat) = m) :
    Calls Tryd.prog 53 #[.string ⟨(f :: o :: a1 :: a2 :: r).toArray⟩] w fun e w' => e = .returned (if m then .tuple #[.agg #[.int .u8 f.toNat, .int .u8 o.toNat, .int .u8 (0 : Nat), .int .u16 ((a1.toNat * 256 + a2.toNat) : Nat), .int .u16 (0 : Nat)], .string ⟨r.toArray⟩, .int .i64 0] else .tuple #[.agg #[.int .u8 0, .int .u8 0, .int .u8 0, .int .u16 0, .int .u16 0], .string ⟨#[]⟩, .int .i64 4]) ∧ Fr w w' := by
  have hfind := fun W => rOf_yes (f.toNat : Int) W (by omega) (by omega)
  rw [hk, ha, hb] at hfind
  have HF := Lib.hid hfind
  have tf := f.toNat_lt
  have to := o.toNat_lt
  have ta1 := a1.toNat_lt
  have ta2 := a2.toNat_lt
  have hmay := fun W => rMay_c f.toNat o.toNat (0 : Nat) ((a1.toNat * 256 + a2.toNat) : Nat) (0 : Nat) W (by omega)
  rw [hm] at hmay
  have HM := Lib.hid hmay
  have hsz := size_mk (f :: o :: a1 :: a2 :: r)
  have g0 : ∀ hh, ((⟨(f :: o :: a1 :: a2 :: r).toArray⟩ : ByteArray)[0]'hh) = f := fun _ => rfl
  have g1 : ∀ hh, ((⟨(f :: o :: a1 :: a2 :: r).toArray⟩ : ByteArray)[1]'hh) = o := fun _ => rfl
  have g2 : ∀ hh, ((⟨(f :: o :: a1 :: a2 :: r).toArray⟩ : ByteArray)[2]'hh) = a1 := fun _ => rfl
  have g3 : ∀ hh, ((⟨(f :: o :: a1 :: a2 :: r).toArray⟩ : ByteArray)[3]'hh) = a2 := fun _ => rfl
  have hext : (⟨(f :: o :: a1 :: a2 :: r).toArray⟩ : ByteArray).extract 4 (r.length + 1 + 1 + 1 + 1) = ⟨r.toArray⟩ := by apply ByteArray.ext; simp [ByteArray.data_extract]
  have HEX := Lib.hid hext
  have wa1 : IntKind.u16.wrap (a1.toNat : Int) = a1.toNat := IntWalk.u16_in _ (by omega)
  have wa2 : IntKind.u16.wrap (a2.toNat : Int) = a2.toNat := IntWalk.u16_in _ (by omega)
  have wa3 : IntKind.u16.wrap ((a1.toNat : Int) * 256) = (a1.toNat : Int) * 256 := IntWalk.u16_in _ (by omega)
  have wa4 : IntKind.u16.wrap ((a1.toNat : Int) * 256 + a2.toNat) = (a1.toNat : Int) * 256 + a2.toNat := IntWalk.u16_in _ (by omega)
  have ia : IntKind.i64.wrap (2 + 1) = 3 := by decide
  clear hfind hf hk ha hb hmay hm hext tf to ta1 ta2
  go_enter Tryd.func53, Tryd.ntmps53
  go_wp2_with fail
  refine (HF.out _).mono ?_
  rintro e w1 ⟨rfl, hb1⟩
  obtain ⟨a0, a1', a2', a3, a4, s0⟩ := opBoxOnly hb1
  obtain ⟨z0, z1, z2, z3, z4⟩ := opBoxFr hb1
  have hfr1 : Fr w w1 := Fr.trans ((Fr.refl w).alloc _) hb1
  have s01 : w.heap.size < w1.heap.size + 1 := by omega
  have s02 : w.heap.size < w1.heap.size + 1 + 1 := by omega
  have hne1 : w1.heap.size ≠ w.heap.size := by omega
  have s12 : w1.heap.size < w1.heap.size + 1 + 1 := by omega
  clear hb1
  go_wp2_with fail
  go_region
  go_wp2_with fail
  go_region
  go_wp2_with fail
  refine (HM.out _).mono ?_
  rintro e w2 ⟨rfl, hb2⟩
  have x0 := hb2.cell (w1.heap.size + 1) 0 (by simp)
  have x1 := hb2.cell (w1.heap.size + 1) 1 (by simp)
  have x2 := hb2.cell (w1.heap.size + 1) 2 (by simp)
  have x3 := hb2.cell (w1.heap.size + 1) 3 (by simp)
  have x4 := hb2.cell (w1.heap.size + 1) 4 (by simp)
  simp at x0 x1 x2 x3 x4
  have hb12 : Fr w1 w2 := Fr.trans (by repeat (with_reducible first | exact Fr.refl _ | apply Fr.drew | apply Fr.alloc)) hb2
  have b0 := hb12.keep a0
  have b1' := hb12.keep a1'
  have b2' := hb12.keep a2'
  have b3 := hb12.keep a3
  have b4 := hb12.keep a4
  have y0 := (hb12.frozen _ 0 s0).trans z0
  have y1 := (hb12.frozen _ 1 s0).trans z1
  have y2 := (hb12.frozen _ 2 s0).trans z2
  have y3 := (hb12.frozen _ 3 s0).trans z3
  have y4 := (hb12.frozen _ 4 s0).trans z4
  have hfr2 : Fr w w2 := hfr1.trans hb12
  have s2 : w.heap.size < w2.heap.size := lt_of_cell b0
  clear a0 a1' a2' a3 a4 z0 z1 z2 z3 z4 s0 s01 s02 s12 hne1 hb12 hfr1 hb2 wa1 wa2 wa3 wa4 ia
  cases m
  · go_wp2
    refine bodyPost_ret (v := .tuple #[.agg #[.int .u8 0, .int .u8 0, .int .u8 0, .int .u16 0, .int .u16 0], .string ⟨#[]⟩, .int .i64 4]) (by simp [results, Tryd.results53, go_sem, b0, b1', b2', b3, b4, s2]) rfl ⟨rfl, ?_⟩
    repeat (with_reducible first | assumption | apply Fr.drew | apply Fr.alloc | refine Fr.setCell ?_ (by simp) _)
  · go_wp2_with fail
    go_region
    go_wp2_with fail
    refine bodyPost_ret (v := .tuple #[.agg #[.int .u8 f.toNat, .int .u8 o.toNat, .int .u8 (0 : Nat), .int .u16 ((a1.toNat * 256 + a2.toNat) : Nat), .int .u16 (0 : Nat)], .string ((⟨(f :: o :: a1 :: a2 :: r).toArray⟩ : ByteArray).extract 4 (r.length + 1 + 1 + 1 + 1)), .int .i64 0]) (by simp [results, Tryd.results53, go_sem, b0, b1', b2', b3, b4, s2]) rfl ⟨by rw [HEX.out]; rfl, ?_⟩
    repeat (with_reducible first | assumption | apply Fr.drew | apply Fr.alloc | refine Fr.setCell ?_ (by simp) _)

set_option maxHeartbeats 4000000 in
set_option maxRecDepth 100000 in
theorem rTake_3 (f o kk a1 a2 : UInt8) (r : List UInt8) (w : World) (hf : 1 ≤ f.toNat ∧ f.toNat ≤ 11) (hk : hasK f.toNat = true) (ha : hasA f.toNat = true) (hb : hasB f.toNat = false) (hbig : r.length ≤ 140737488355328) (m : Bool) (hm : mayB f.toNat o.toNat (kk.toNat : Nat) ((a1.toNat * 256 + a2.toNat) : Nat) (0 : Nat) = m) :
    Calls Tryd.prog 53 #[.string ⟨(f :: o :: kk :: a1 :: a2 :: r).toArray⟩] w fun e w' => e = .returned (if m then .tuple #[.agg #[.int .u8 f.toNat, .int .u8 o.toNat, .int .u8 (kk.toNat : Nat), .int .u16 ((a1.toNat * 256 + a2.toNat) : Nat), .int .u16 (0 : Nat)], .string ⟨r.toArray⟩, .int .i64 0] else .tuple #[.agg #[.int .u8 0, .int .u8 0, .int .u8 0, .int .u16 0, .int .u16 0], .string ⟨#[]⟩, .int .i64 4]) ∧ Fr w w' := by
  have hfind := fun W => rOf_yes (f.toNat : Int) W (by omega) (by omega)
  rw [hk, ha, hb] at hfind
  have HF := Lib.hid hfind
  have tf := f.toNat_lt
  have to := o.toNat_lt
  have tkk := kk.toNat_lt
  have ta1 := a1.toNat_lt
  have ta2 := a2.toNat_lt
  have hmay := fun W => rMay_c f.toNat o.toNat (kk.toNat : Nat) ((a1.toNat * 256 + a2.toNat) : Nat) (0 : Nat) W (by omega)
  rw [hm] at hmay
  have HM := Lib.hid hmay
  have hsz := size_mk (f :: o :: kk :: a1 :: a2 :: r)
  have g0 : ∀ hh, ((⟨(f :: o :: kk :: a1 :: a2 :: r).toArray⟩ : ByteArray)[0]'hh) = f := fun _ => rfl
  have g1 : ∀ hh, ((⟨(f :: o :: kk :: a1 :: a2 :: r).toArray⟩ : ByteArray)[1]'hh) = o := fun _ => rfl
  have g2 : ∀ hh, ((⟨(f :: o :: kk :: a1 :: a2 :: r).toArray⟩ : ByteArray)[2]'hh) = kk := fun _ => rfl
  have g3 : ∀ hh, ((⟨(f :: o :: kk :: a1 :: a2 :: r).toArray⟩ : ByteArray)[3]'hh) = a1 := fun _ => rfl
  have g4 : ∀ hh, ((⟨(f :: o :: kk :: a1 :: a2 :: r).toArray⟩ : ByteArray)[4]'hh) = a2 := fun _ => rfl
  have hext : (⟨(f :: o :: kk :: a1 :: a2 :: r).toArray⟩ : ByteArray).extract 5 (r.length + 1 + 1 + 1 + 1 + 1) = ⟨r.toArray⟩ := by apply ByteArray.ext; simp [ByteArray.data_extract]
  have HEX := Lib.hid hext
  have wa1 : IntKind.u16.wrap (a1.toNat : Int) = a1.toNat := IntWalk.u16_in _ (by omega)
  have wa2 : IntKind.u16.wrap (a2.toNat : Int) = a2.toNat := IntWalk.u16_in _ (by omega)
  have wa3 : IntKind.u16.wrap ((a1.toNat : Int) * 256) = (a1.toNat : Int) * 256 := IntWalk.u16_in _ (by omega)
  have wa4 : IntKind.u16.wrap ((a1.toNat : Int) * 256 + a2.toNat) = (a1.toNat : Int) * 256 + a2.toNat := IntWalk.u16_in _ (by omega)
  have ia : IntKind.i64.wrap (3 + 1) = 4 := by decide
  clear hfind hf hk ha hb hmay hm hext tf to tkk ta1 ta2
  go_enter Tryd.func53, Tryd.ntmps53
  go_wp2_with fail
  refine (HF.out _).mono ?_
  rintro e w1 ⟨rfl, hb1⟩
  obtain ⟨a0, a1', a2', a3, a4, s0⟩ := opBoxOnly hb1
  obtain ⟨z0, z1, z2, z3, z4⟩ := opBoxFr hb1
  have hfr1 : Fr w w1 := Fr.trans ((Fr.refl w).alloc _) hb1
  have s01 : w.heap.size < w1.heap.size + 1 := by omega
  have s02 : w.heap.size < w1.heap.size + 1 + 1 := by omega
  have hne1 : w1.heap.size ≠ w.heap.size := by omega
  have s12 : w1.heap.size < w1.heap.size + 1 + 1 := by omega
  clear hb1
  go_wp2_with fail
  go_region
  go_wp2_with fail
  go_region
  go_wp2_with fail
  refine (HM.out _).mono ?_
  rintro e w2 ⟨rfl, hb2⟩
  have x0 := hb2.cell (w1.heap.size + 1) 0 (by simp)
  have x1 := hb2.cell (w1.heap.size + 1) 1 (by simp)
  have x2 := hb2.cell (w1.heap.size + 1) 2 (by simp)
  have x3 := hb2.cell (w1.heap.size + 1) 3 (by simp)
  have x4 := hb2.cell (w1.heap.size + 1) 4 (by simp)
  simp at x0 x1 x2 x3 x4
  have hb12 : Fr w1 w2 := Fr.trans (by repeat (with_reducible first | exact Fr.refl _ | apply Fr.drew | apply Fr.alloc)) hb2
  have b0 := hb12.keep a0
  have b1' := hb12.keep a1'
  have b2' := hb12.keep a2'
  have b3 := hb12.keep a3
  have b4 := hb12.keep a4
  have y0 := (hb12.frozen _ 0 s0).trans z0
  have y1 := (hb12.frozen _ 1 s0).trans z1
  have y2 := (hb12.frozen _ 2 s0).trans z2
  have y3 := (hb12.frozen _ 3 s0).trans z3
  have y4 := (hb12.frozen _ 4 s0).trans z4
  have hfr2 : Fr w w2 := hfr1.trans hb12
  have s2 : w.heap.size < w2.heap.size := lt_of_cell b0
  clear a0 a1' a2' a3 a4 z0 z1 z2 z3 z4 s0 s01 s02 s12 hne1 hb12 hfr1 hb2 wa1 wa2 wa3 wa4 ia
  cases m
  · go_wp2
    refine bodyPost_ret (v := .tuple #[.agg #[.int .u8 0, .int .u8 0, .int .u8 0, .int .u16 0, .int .u16 0], .string ⟨#[]⟩, .int .i64 4]) (by simp [results, Tryd.results53, go_sem, b0, b1', b2', b3, b4, s2]) rfl ⟨rfl, ?_⟩
    repeat (with_reducible first | assumption | apply Fr.drew | apply Fr.alloc | refine Fr.setCell ?_ (by simp) _)
  · go_wp2_with fail
    go_region
    go_wp2_with fail
    refine bodyPost_ret (v := .tuple #[.agg #[.int .u8 f.toNat, .int .u8 o.toNat, .int .u8 (kk.toNat : Nat), .int .u16 ((a1.toNat * 256 + a2.toNat) : Nat), .int .u16 (0 : Nat)], .string ((⟨(f :: o :: kk :: a1 :: a2 :: r).toArray⟩ : ByteArray).extract 5 (r.length + 1 + 1 + 1 + 1 + 1)), .int .i64 0]) (by simp [results, Tryd.results53, go_sem, b0, b1', b2', b3, b4, s2]) rfl ⟨by rw [HEX.out]; rfl, ?_⟩
    repeat (with_reducible first | assumption | apply Fr.drew | apply Fr.alloc | refine Fr.setCell ?_ (by simp) _)

set_option maxHeartbeats 4000000 in
set_option maxRecDepth 100000 in
theorem rTake_6 (f o a1 a2 b1 b2 : UInt8) (r : List UInt8) (w : World) (hf : 1 ≤ f.toNat ∧ f.toNat ≤ 11) (hk : hasK f.toNat = false) (ha : hasA f.toNat = true) (hb : hasB f.toNat = true) (hbig : r.length ≤ 140737488355328) (m : Bool) (hm : mayB f.toNat o.toNat (0 : Nat) ((a1.toNat * 256 + a2.toNat) : Nat) ((b1.toNat * 256 + b2.toNat) : Nat) = m) :
    Calls Tryd.prog 53 #[.string ⟨(f :: o :: a1 :: a2 :: b1 :: b2 :: r).toArray⟩] w fun e w' => e = .returned (if m then .tuple #[.agg #[.int .u8 f.toNat, .int .u8 o.toNat, .int .u8 (0 : Nat), .int .u16 ((a1.toNat * 256 + a2.toNat) : Nat), .int .u16 ((b1.toNat * 256 + b2.toNat) : Nat)], .string ⟨r.toArray⟩, .int .i64 0] else .tuple #[.agg #[.int .u8 0, .int .u8 0, .int .u8 0, .int .u16 0, .int .u16 0], .string ⟨#[]⟩, .int .i64 4]) ∧ Fr w w' := by
  have hfind := fun W => rOf_yes (f.toNat : Int) W (by omega) (by omega)
  rw [hk, ha, hb] at hfind
  have HF := Lib.hid hfind
  have tf := f.toNat_lt
  have to := o.toNat_lt
  have ta1 := a1.toNat_lt
  have ta2 := a2.toNat_lt
  have tb1 := b1.toNat_lt
  have tb2 := b2.toNat_lt
  have hmay := fun W => rMay_c f.toNat o.toNat (0 : Nat) ((a1.toNat * 256 + a2.toNat) : Nat) ((b1.toNat * 256 + b2.toNat) : Nat) W (by omega)
  rw [hm] at hmay
  have HM := Lib.hid hmay
  have hsz := size_mk (f :: o :: a1 :: a2 :: b1 :: b2 :: r)
  have g0 : ∀ hh, ((⟨(f :: o :: a1 :: a2 :: b1 :: b2 :: r).toArray⟩ : ByteArray)[0]'hh) = f := fun _ => rfl
  have g1 : ∀ hh, ((⟨(f :: o :: a1 :: a2 :: b1 :: b2 :: r).toArray⟩ : ByteArray)[1]'hh) = o := fun _ => rfl
  have g2 : ∀ hh, ((⟨(f :: o :: a1 :: a2 :: b1 :: b2 :: r).toArray⟩ : ByteArray)[2]'hh) = a1 := fun _ => rfl
  have g3 : ∀ hh, ((⟨(f :: o :: a1 :: a2 :: b1 :: b2 :: r).toArray⟩ : ByteArray)[3]'hh) = a2 := fun _ => rfl
  have g4 : ∀ hh, ((⟨(f :: o :: a1 :: a2 :: b1 :: b2 :: r).toArray⟩ : ByteArray)[4]'hh) = b1 := fun _ => rfl
  have g5 : ∀ hh, ((⟨(f :: o :: a1 :: a2 :: b1 :: b2 :: r).toArray⟩ : ByteArray)[5]'hh) = b2 := fun _ => rfl
  have hext : (⟨(f :: o :: a1 :: a2 :: b1 :: b2 :: r).toArray⟩ : ByteArray).extract 6 (r.length + 1 + 1 + 1 + 1 + 1 + 1) = ⟨r.toArray⟩ := by apply ByteArray.ext; simp [ByteArray.data_extract]
  have HEX := Lib.hid hext
  have wa1 : IntKind.u16.wrap (a1.toNat : Int) = a1.toNat := IntWalk.u16_in _ (by omega)
  have wa2 : IntKind.u16.wrap (a2.toNat : Int) = a2.toNat := IntWalk.u16_in _ (by omega)
  have wa3 : IntKind.u16.wrap ((a1.toNat : Int) * 256) = (a1.toNat : Int) * 256 := IntWalk.u16_in _ (by omega)
  have wa4 : IntKind.u16.wrap ((a1.toNat : Int) * 256 + a2.toNat) = (a1.toNat : Int) * 256 + a2.toNat := IntWalk.u16_in _ (by omega)
  have wb1 : IntKind.u16.wrap (b1.toNat : Int) = b1.toNat := IntWalk.u16_in _ (by omega)
  have wb2 : IntKind.u16.wrap (b2.toNat : Int) = b2.toNat := IntWalk.u16_in _ (by omega)
  have wb3 : IntKind.u16.wrap ((b1.toNat : Int) * 256) = (b1.toNat : Int) * 256 := IntWalk.u16_in _ (by omega)
  have wb4 : IntKind.u16.wrap ((b1.toNat : Int) * 256 + b2.toNat) = (b1.toNat : Int) * 256 + b2.toNat := IntWalk.u16_in _ (by omega)
  have ia : IntKind.i64.wrap (2 + 1) = 3 := by decide
  have ib : IntKind.i64.wrap (4 + 1) = 5 := by decide
  clear hfind hf hk ha hb hmay hm hext tf to ta1 ta2 tb1 tb2
  go_enter Tryd.func53, Tryd.ntmps53
  go_wp2_with fail
  refine (HF.out _).mono ?_
  rintro e w1 ⟨rfl, hb1⟩
  obtain ⟨a0, a1', a2', a3, a4, s0⟩ := opBoxOnly hb1
  obtain ⟨z0, z1, z2, z3, z4⟩ := opBoxFr hb1
  have hfr1 : Fr w w1 := Fr.trans ((Fr.refl w).alloc _) hb1
  have s01 : w.heap.size < w1.heap.size + 1 := by omega
  have s02 : w.heap.size < w1.heap.size + 1 + 1 := by omega
  have hne1 : w1.heap.size ≠ w.heap.size := by omega
  have s12 : w1.heap.size < w1.heap.size + 1 + 1 := by omega
  clear hb1
  go_wp2_with fail
  go_region
  go_wp2_with fail
  go_region
  go_wp2_with fail
  go_region
  go_wp2_with fail
  refine (HM.out _).mono ?_
  rintro e w2 ⟨rfl, hb2⟩
  have x0 := hb2.cell (w1.heap.size + 1) 0 (by simp)
  have x1 := hb2.cell (w1.heap.size + 1) 1 (by simp)
  have x2 := hb2.cell (w1.heap.size + 1) 2 (by simp)
  have x3 := hb2.cell (w1.heap.size + 1) 3 (by simp)
  have x4 := hb2.cell (w1.heap.size + 1) 4 (by simp)
  simp at x0 x1 x2 x3 x4
  have hb12 : Fr w1 w2 := Fr.trans (by repeat (with_reducible first | exact Fr.refl _ | apply Fr.drew | apply Fr.alloc)) hb2
  have b0 := hb12.keep a0
  have b1' := hb12.keep a1'
  have b2' := hb12.keep a2'
  have b3 := hb12.keep a3
  have b4 := hb12.keep a4
  have y0 := (hb12.frozen _ 0 s0).trans z0
  have y1 := (hb12.frozen _ 1 s0).trans z1
  have y2 := (hb12.frozen _ 2 s0).trans z2
  have y3 := (hb12.frozen _ 3 s0).trans z3
  have y4 := (hb12.frozen _ 4 s0).trans z4
  have hfr2 : Fr w w2 := hfr1.trans hb12
  have s2 : w.heap.size < w2.heap.size := lt_of_cell b0
  clear a0 a1' a2' a3 a4 z0 z1 z2 z3 z4 s0 s01 s02 s12 hne1 hb12 hfr1 hb2 wa1 wa2 wa3 wa4 wb1 wb2 wb3 wb4 ia ib
  cases m
  · go_wp2
    refine bodyPost_ret (v := .tuple #[.agg #[.int .u8 0, .int .u8 0, .int .u8 0, .int .u16 0, .int .u16 0], .string ⟨#[]⟩, .int .i64 4]) (by simp [results, Tryd.results53, go_sem, b0, b1', b2', b3, b4, s2]) rfl ⟨rfl, ?_⟩
    repeat (with_reducible first | assumption | apply Fr.drew | apply Fr.alloc | refine Fr.setCell ?_ (by simp) _)
  · go_wp2_with fail
    go_region
    go_wp2_with fail
    refine bodyPost_ret (v := .tuple #[.agg #[.int .u8 f.toNat, .int .u8 o.toNat, .int .u8 (0 : Nat), .int .u16 ((a1.toNat * 256 + a2.toNat) : Nat), .int .u16 ((b1.toNat * 256 + b2.toNat) : Nat)], .string ((⟨(f :: o :: a1 :: a2 :: b1 :: b2 :: r).toArray⟩ : ByteArray).extract 6 (r.length + 1 + 1 + 1 + 1 + 1 + 1)), .int .i64 0]) (by simp [results, Tryd.results53, go_sem, b0, b1', b2', b3, b4, s2]) rfl ⟨by rw [HEX.out]; rfl, ?_⟩
    repeat (with_reducible first | assumption | apply Fr.drew | apply Fr.alloc | refine Fr.setCell ?_ (by simp) _)

set_option maxHeartbeats 4000000 in
set_option maxRecDepth 100000 in
theorem rTake_7 (f o kk a1 a2 b1 b2 : UInt8) (r : List UInt8) (w : World) (hf : 1 ≤ f.toNat ∧ f.toNat ≤ 11) (hk : hasK f.toNat = true) (ha : hasA f.toNat = true) (hb : hasB f.toNat = true) (hbig : r.length ≤ 140737488355328) (m : Bool) (hm : mayB f.toNat o.toNat (kk.toNat : Nat) ((a1.toNat * 256 + a2.toNat) : Nat) ((b1.toNat * 256 + b2.toNat) : Nat) = m) :
    Calls Tryd.prog 53 #[.string ⟨(f :: o :: kk :: a1 :: a2 :: b1 :: b2 :: r).toArray⟩] w fun e w' => e = .returned (if m then .tuple #[.agg #[.int .u8 f.toNat, .int .u8 o.toNat, .int .u8 (kk.toNat : Nat), .int .u16 ((a1.toNat * 256 + a2.toNat) : Nat), .int .u16 ((b1.toNat * 256 + b2.toNat) : Nat)], .string ⟨r.toArray⟩, .int .i64 0] else .tuple #[.agg #[.int .u8 0, .int .u8 0, .int .u8 0, .int .u16 0, .int .u16 0], .string ⟨#[]⟩, .int .i64 4]) ∧ Fr w w' := by
  have hfind := fun W => rOf_yes (f.toNat : Int) W (by omega) (by omega)
  rw [hk, ha, hb] at hfind
  have HF := Lib.hid hfind
  have tf := f.toNat_lt
  have to := o.toNat_lt
  have tkk := kk.toNat_lt
  have ta1 := a1.toNat_lt
  have ta2 := a2.toNat_lt
  have tb1 := b1.toNat_lt
  have tb2 := b2.toNat_lt
  have hmay := fun W => rMay_c f.toNat o.toNat (kk.toNat : Nat) ((a1.toNat * 256 + a2.toNat) : Nat) ((b1.toNat * 256 + b2.toNat) : Nat) W (by omega)
  rw [hm] at hmay
  have HM := Lib.hid hmay
  have hsz := size_mk (f :: o :: kk :: a1 :: a2 :: b1 :: b2 :: r)
  have g0 : ∀ hh, ((⟨(f :: o :: kk :: a1 :: a2 :: b1 :: b2 :: r).toArray⟩ : ByteArray)[0]'hh) = f := fun _ => rfl
  have g1 : ∀ hh, ((⟨(f :: o :: kk :: a1 :: a2 :: b1 :: b2 :: r).toArray⟩ : ByteArray)[1]'hh) = o := fun _ => rfl
  have g2 : ∀ hh, ((⟨(f :: o :: kk :: a1 :: a2 :: b1 :: b2 :: r).toArray⟩ : ByteArray)[2]'hh) = kk := fun _ => rfl
  have g3 : ∀ hh, ((⟨(f :: o :: kk :: a1 :: a2 :: b1 :: b2 :: r).toArray⟩ : ByteArray)[3]'hh) = a1 := fun _ => rfl
  have g4 : ∀ hh, ((⟨(f :: o :: kk :: a1 :: a2 :: b1 :: b2 :: r).toArray⟩ : ByteArray)[4]'hh) = a2 := fun _ => rfl
  have g5 : ∀ hh, ((⟨(f :: o :: kk :: a1 :: a2 :: b1 :: b2 :: r).toArray⟩ : ByteArray)[5]'hh) = b1 := fun _ => rfl
  have g6 : ∀ hh, ((⟨(f :: o :: kk :: a1 :: a2 :: b1 :: b2 :: r).toArray⟩ : ByteArray)[6]'hh) = b2 := fun _ => rfl
  have hext : (⟨(f :: o :: kk :: a1 :: a2 :: b1 :: b2 :: r).toArray⟩ : ByteArray).extract 7 (r.length + 1 + 1 + 1 + 1 + 1 + 1 + 1) = ⟨r.toArray⟩ := by apply ByteArray.ext; simp [ByteArray.data_extract]
  have HEX := Lib.hid hext
  have wa1 : IntKind.u16.wrap (a1.toNat : Int) = a1.toNat := IntWalk.u16_in _ (by omega)
  have wa2 : IntKind.u16.wrap (a2.toNat : Int) = a2.toNat := IntWalk.u16_in _ (by omega)
  have wa3 : IntKind.u16.wrap ((a1.toNat : Int) * 256) = (a1.toNat : Int) * 256 := IntWalk.u16_in _ (by omega)
  have wa4 : IntKind.u16.wrap ((a1.toNat : Int) * 256 + a2.toNat) = (a1.toNat : Int) * 256 + a2.toNat := IntWalk.u16_in _ (by omega)
  have wb1 : IntKind.u16.wrap (b1.toNat : Int) = b1.toNat := IntWalk.u16_in _ (by omega)
  have wb2 : IntKind.u16.wrap (b2.toNat : Int) = b2.toNat := IntWalk.u16_in _ (by omega)
  have wb3 : IntKind.u16.wrap ((b1.toNat : Int) * 256) = (b1.toNat : Int) * 256 := IntWalk.u16_in _ (by omega)
  have wb4 : IntKind.u16.wrap ((b1.toNat : Int) * 256 + b2.toNat) = (b1.toNat : Int) * 256 + b2.toNat := IntWalk.u16_in _ (by omega)
  have ia : IntKind.i64.wrap (3 + 1) = 4 := by decide
  have ib : IntKind.i64.wrap (5 + 1) = 6 := by decide
  clear hfind hf hk ha hb hmay hm hext tf to tkk ta1 ta2 tb1 tb2
  go_enter Tryd.func53, Tryd.ntmps53
  go_wp2_with fail
  refine (HF.out _).mono ?_
  rintro e w1 ⟨rfl, hb1⟩
  obtain ⟨a0, a1', a2', a3, a4, s0⟩ := opBoxOnly hb1
  obtain ⟨z0, z1, z2, z3, z4⟩ := opBoxFr hb1
  have hfr1 : Fr w w1 := Fr.trans ((Fr.refl w).alloc _) hb1
  have s01 : w.heap.size < w1.heap.size + 1 := by omega
  have s02 : w.heap.size < w1.heap.size + 1 + 1 := by omega
  have hne1 : w1.heap.size ≠ w.heap.size := by omega
  have s12 : w1.heap.size < w1.heap.size + 1 + 1 := by omega
  clear hb1
  go_wp2_with fail
  go_region
  go_wp2_with fail
  go_region
  go_wp2_with fail
  go_region
  go_wp2_with fail
  refine (HM.out _).mono ?_
  rintro e w2 ⟨rfl, hb2⟩
  have x0 := hb2.cell (w1.heap.size + 1) 0 (by simp)
  have x1 := hb2.cell (w1.heap.size + 1) 1 (by simp)
  have x2 := hb2.cell (w1.heap.size + 1) 2 (by simp)
  have x3 := hb2.cell (w1.heap.size + 1) 3 (by simp)
  have x4 := hb2.cell (w1.heap.size + 1) 4 (by simp)
  simp at x0 x1 x2 x3 x4
  have hb12 : Fr w1 w2 := Fr.trans (by repeat (with_reducible first | exact Fr.refl _ | apply Fr.drew | apply Fr.alloc)) hb2
  have b0 := hb12.keep a0
  have b1' := hb12.keep a1'
  have b2' := hb12.keep a2'
  have b3 := hb12.keep a3
  have b4 := hb12.keep a4
  have y0 := (hb12.frozen _ 0 s0).trans z0
  have y1 := (hb12.frozen _ 1 s0).trans z1
  have y2 := (hb12.frozen _ 2 s0).trans z2
  have y3 := (hb12.frozen _ 3 s0).trans z3
  have y4 := (hb12.frozen _ 4 s0).trans z4
  have hfr2 : Fr w w2 := hfr1.trans hb12
  have s2 : w.heap.size < w2.heap.size := lt_of_cell b0
  clear a0 a1' a2' a3 a4 z0 z1 z2 z3 z4 s0 s01 s02 s12 hne1 hb12 hfr1 hb2 wa1 wa2 wa3 wa4 wb1 wb2 wb3 wb4 ia ib
  cases m
  · go_wp2
    refine bodyPost_ret (v := .tuple #[.agg #[.int .u8 0, .int .u8 0, .int .u8 0, .int .u16 0, .int .u16 0], .string ⟨#[]⟩, .int .i64 4]) (by simp [results, Tryd.results53, go_sem, b0, b1', b2', b3, b4, s2]) rfl ⟨rfl, ?_⟩
    repeat (with_reducible first | assumption | apply Fr.drew | apply Fr.alloc | refine Fr.setCell ?_ (by simp) _)
  · go_wp2_with fail
    go_region
    go_wp2_with fail
    refine bodyPost_ret (v := .tuple #[.agg #[.int .u8 f.toNat, .int .u8 o.toNat, .int .u8 (kk.toNat : Nat), .int .u16 ((a1.toNat * 256 + a2.toNat) : Nat), .int .u16 ((b1.toNat * 256 + b2.toNat) : Nat)], .string ((⟨(f :: o :: kk :: a1 :: a2 :: b1 :: b2 :: r).toArray⟩ : ByteArray).extract 7 (r.length + 1 + 1 + 1 + 1 + 1 + 1 + 1)), .int .i64 0]) (by simp [results, Tryd.results53, go_sem, b0, b1', b2', b3, b4, s2]) rfl ⟨by rw [HEX.out]; rfl, ?_⟩
    repeat (with_reducible first | assumption | apply Fr.drew | apply Fr.alloc | refine Fr.setCell ?_ (by simp) _)
end Go.Proofs.YtgbaanioppblhaaDoor

/- umpireref04.Take, whole: what 'takeOp' tells. -/
namespace Go.Proofs.YtgbaanioppblhaaDoor
open Go.RowKit

theorem hasKAB {F : Nat} (h0 : 1 ≤ F) (h1 : F ≤ 11) : (hasK F = false ∧ hasA F = false ∧ hasB F = false) ∨ (hasK F = true ∧ hasA F = false ∧ hasB F = false) ∨ (hasK F = false ∧ hasA F = true ∧ hasB F = false) ∨ (hasK F = true ∧ hasA F = true ∧ hasB F = false) ∨ (hasK F = false ∧ hasA F = true ∧ hasB F = true) ∨ (hasK F = true ∧ hasA F = true ∧ hasB F = true) := by
  rcases kNeeds_cases (f := F) (by omega) (by omega) with h | h | h | h | h | h <;> simp only [hasK, hasA, hasB, h] <;> decide
theorem takeOp_torn {k a b : Bool} {f : UInt8} {s : List UInt8} (hf : 1 ≤ f.toNat ∧ f.toNat ≤ 11) (hk : hasK f.toNat = k) (ha : hasA f.toNat = a) (hb : hasB f.toNat = b) (hl : s.length < 1 + b2n k 1 + b2n a 2 + b2n b 2) : takeOp (f :: s) = (.zero, [], 5) := by
  have hn : ¬ (f.toNat = 0 ∨ 12 ≤ f.toNat) := by omega
  rw [takeOp, if_neg hn, hk, ha, hb]
  clear hk ha hb hn hf
  rcases s with _ | ⟨o, _ | ⟨x1, _ | ⟨x2, _ | ⟨x3, _ | ⟨x4, _ | ⟨x5, s⟩⟩⟩⟩⟩⟩ <;> cases k <;> cases a <;> cases b <;> first | (exfalso; simp [b2n] at hl; done) | (exfalso; simp [b2n] at hl; omega) | simp [tk]
theorem tk_no (n : Nat) (r : List UInt8) : tk n false r = some (0, r) := by simp [tk]
theorem tk_one (c : UInt8) (r : List UInt8) : tk 1 true (c :: r) = some (c.toNat, r) := by simp [tk, ofBe]
theorem tk_two (c d : UInt8) (r : List UInt8) : tk 2 true (c :: d :: r) = some (c.toNat * 256 + d.toNat, r) := by
  have h : ¬ (c :: d :: r).length < 2 := by simp
  simp only [tk, if_true, if_neg h]; simp [ofBe]
def TakesOp (l : List UInt8) (w : World) : Prop :=
    Calls Tryd.prog 53 #[.string ⟨l.toArray⟩] w fun e w' => e = .returned (.tuple #[(takeOp l).1.val, .string ⟨(takeOp l).2.1.toArray⟩, .int .i64 (takeOp l).2.2]) ∧ Fr w w'
theorem takesOp_of {l : List UInt8} {w : World} {m : Bool} {F O K A B : Nat} {r : List UInt8} (he : takeOp l = if (OpD.mk F O K A B).may then (⟨F, O, K, A, B⟩, r, 0) else (.zero, [], 4)) (hm : mayB F O K A B = m)
    (h : Calls Tryd.prog 53 #[.string ⟨l.toArray⟩] w fun e w' => e = .returned (if m then .tuple #[.agg #[.int .u8 F, .int .u8 O, .int .u8 K, .int .u16 A, .int .u16 B], .string ⟨r.toArray⟩, .int .i64 0] else .tuple #[.agg #[.int .u8 0, .int .u8 0, .int .u8 0, .int .u16 0, .int .u16 0], .string ⟨#[]⟩, .int .i64 4]) ∧ Fr w w') : TakesOp l w := by
  have e : (OpD.mk F O K A B).may = m := hm
  unfold TakesOp
  rw [he, e]
  cases m <;> exact h
theorem rTake_c (l : List UInt8) (w : World) (hbig : l.length ≤ 140737488355328) : TakesOp l w := by
  match l, hbig with
  | [], _ => exact rTake_nil w
  | f :: s, hbig =>
    by_cases hn : f.toNat = 0 ∨ 12 ≤ f.toNat
    · unfold TakesOp
      rw [takeOp, if_pos hn]
      exact rTake_none f s w hn
    · have hf : 1 ≤ f.toNat ∧ f.toNat ≤ 11 := by omega
      by_cases hl : s.length < 1 + b2n (hasK f.toNat) 1 + b2n (hasA f.toNat) 2 + b2n (hasB f.toNat) 2
      · unfold TakesOp
        rw [takeOp_torn hf rfl rfl rfl hl]
        exact rTake_torn _ _ _ f s w hf rfl rfl rfl hl
      · simp only [List.length_cons] at hbig
        rcases hasKAB hf.1 hf.2 with ⟨hk, ha, hb⟩ | ⟨hk, ha, hb⟩ | ⟨hk, ha, hb⟩ | ⟨hk, ha, hb⟩ | ⟨hk, ha, hb⟩ | ⟨hk, ha, hb⟩ <;> simp only [hk, ha, hb, b2n, if_true, if_false, Bool.false_eq_true] at hl
        · match s, hl with
          | [], hl => simp at hl
          | o :: r, hl => exact takesOp_of (by rw [takeOp, if_neg hn, hk, ha, hb]; simp only [tk_no, tk_one, tk_two]) rfl (rTake_0 f o r w hf hk ha hb (by simp at hbig; omega) _ rfl)
        · match s, hl with
          | [], hl => simp at hl
          | [o], hl => simp at hl
          | o :: kk :: r, hl => exact takesOp_of (by rw [takeOp, if_neg hn, hk, ha, hb]; simp only [tk_no, tk_one, tk_two]) rfl (rTake_1 f o kk r w hf hk ha hb (by simp at hbig; omega) _ rfl)
        · match s, hl with
          | [], hl => simp at hl
          | [o], hl => simp at hl
          | [o, a1], hl => simp at hl
          | o :: a1 :: a2 :: r, hl => exact takesOp_of (by rw [takeOp, if_neg hn, hk, ha, hb]; simp only [tk_no, tk_one, tk_two]) rfl (rTake_2 f o a1 a2 r w hf hk ha hb (by simp at hbig; omega) _ rfl)
        · match s, hl with
          | [], hl => simp at hl
          | [o], hl => simp at hl
          | [o, kk], hl => simp at hl
          | [o, kk, a1], hl => simp at hl
          | o :: kk :: a1 :: a2 :: r, hl => exact takesOp_of (by rw [takeOp, if_neg hn, hk, ha, hb]; simp only [tk_no, tk_one, tk_two]) rfl (rTake_3 f o kk a1 a2 r w hf hk ha hb (by simp at hbig; omega) _ rfl)
        · match s, hl with
          | [], hl => simp at hl
          | [o], hl => simp at hl
          | [o, a1], hl => simp at hl
          | [o, a1, a2], hl => simp at hl
          | [o, a1, a2, b1], hl => simp at hl
          | o :: a1 :: a2 :: b1 :: b2 :: r, hl => exact takesOp_of (by rw [takeOp, if_neg hn, hk, ha, hb]; simp only [tk_no, tk_one, tk_two]) rfl (rTake_6 f o a1 a2 b1 b2 r w hf hk ha hb (by simp at hbig; omega) _ rfl)
        · match s, hl with
          | [], hl => simp at hl
          | [o], hl => simp at hl
          | [o, kk], hl => simp at hl
          | [o, kk, a1], hl => simp at hl
          | [o, kk, a1, a2], hl => simp at hl
          | [o, kk, a1, a2, b1], hl => simp at hl
          | o :: kk :: a1 :: a2 :: b1 :: b2 :: r, hl => exact takesOp_of (by rw [takeOp, if_neg hn, hk, ha, hb]; simp only [tk_no, tk_one, tk_two]) rfl (rTake_7 f o kk a1 a2 b1 b2 r w hf hk ha hb (by simp at hbig; omega) _ rfl)
end Go.Proofs.YtgbaanioppblhaaDoor

/- Events: what one is; two are the same or not, by the program and by the document. No condition but that both can be read. -/
namespace Go.Proofs.YtgbaanioppblhaaDoor
open Go.RowKit

/-- Lists of numbers that can be read. -/
structure RdR (w : World) (v : Value) (ls : List (List Nat)) : Prop where
  cells : ∃ vs : List Value, vs.length = ls.length ∧ SlAt w Any v ls.length vs ∧ ∀ (i : Nat) (l : List Nat) (u : Value), ls[i]? = some l → vs[i]? = some u → Rd16 w u l
theorem RdR.keep {w w' : World} {v : Value} {ls : List (List Nat)} (h : RdR w v ls) (f : Fr w w') : RdR w' v ls := by
  obtain ⟨vs, h1, h2, h3⟩ := h
  exact ⟨vs, h1, h2.fr f, fun i l u hl hu => (h3 i l u hl hu).keep f⟩
theorem RdR.at {w : World} {a : Option Addr} {n cap k : Nat} {vs : List Value} {ls : List (List Nat)} (hlen : vs.length = ls.length) (hx : vs = [] ∨ ∃ b off, a = some ⟨b, off, none⟩ ∧ Any b ∧ b < w.heap.size ∧ ∀ j u, vs[j]? = some u → w.cell? ⟨b, off + j, none⟩ = some u)
    (h3 : ∀ (i : Nat) (l : List Nat) (u : Value), ls[i]? = some l → vs[i]? = some u → Rd16 w u l) (hk : k < ls.length) : ∃ b off u, a = some ⟨b, off, none⟩ ∧ w.cell? ⟨b, off + k, none⟩ = some u ∧ Rd16 w u ls[k] := by
  have hk2 : k < vs.length := by omega
  rcases hx with rfl | ⟨b, off, h1, _, h2, hc⟩
  · simp at hk2
  · exact ⟨b, off, vs[k], h1, hc k _ (by simp [hk2]), h3 k _ _ (by simp [hk]) (by simp [hk2])⟩

set_option maxRecDepth 100000 in
theorem equalR_c (u v : Value) (l m : List (List Nat)) (w : World) (hu : RdR w u l) (hv : RdR w v m) :
    Calls Tryd.prog 34 #[u, v, .func (.func 35) #[] #[]] w fun e w' => e = .returned (.bool (decide (l = m))) ∧ Fr w w' := by
  obtain ⟨us, hlu, ⟨a, capa, rfl, hca, hma, hxa⟩, h3a⟩ := hu
  obtain ⟨vs, hlv, ⟨b, capb, rfl, hcb, hmb, hxb⟩, h3b⟩ := hv
  unfold maxLen at hma hmb
  by_cases hlen : l.length = m.length
  · have hl2 : ((l.length : Int) != m.length) = false := by simp; omega
    have HL := Lib.hid hlen
    clear hlen
    go_enter Tryd.func34, Tryd.ntmps34
    go_wp2
    go_loopw [17] (fun i wr => ∃ k : Nat, k ≤ l.length ∧ i = .int .i64 k ∧ l.take k = m.take k ∧ Fr w wr) (fun i _ => l.length - (intOf i).toNat)
    case atStart => exact ⟨0, Nat.zero_le _, rfl, rfl, Fr.refl _⟩
    case round =>
      obtain ⟨k, hk, rfl, htk, hfr⟩ := hrel
      by_cases hlt : k < l.length
      · have hltm : k < m.length := HL.out ▸ hlt
        obtain ⟨b1, o1, u1, rfl, hc1, hr1⟩ := RdR.at (n := 0) (cap := 0) hlu hxa h3a hlt
        obtain ⟨b2, o2, u2, rfl, hc2, hr2⟩ := RdR.at (n := 0) (cap := 0) hlv hxb h3b hltm
        have c1 := hfr.keep hc1
        have c2 := hfr.keep hc2
        have r1 := hr1.keep hfr
        have r2 := hr2.keep hfr
        have hk1 : k < capa := by omega
        have hk2 : k < capb := by omega
        clear hc1 hc2 hr1 hr2 hxa hxb h3a h3b
        by_cases he : l[k] = m[k]
        · have hT := Lib.hid (take_next htk hlt hltm he)
          rw [← he] at r2
          generalize l[k] = x at r1 r2
          clear htk he
          go_wp2_with (go_at_call 35; refine (equal16_c _ _ x x _ r1 r2).mono ?_; rintro e w1 ⟨rfl, hb1⟩; have hb1 := hb1.fr; rw [decide_eq_true rfl])
          go_roundw
          case rel => exact ⟨k + 1, by omega, by go_num, hT.out, hfr.trans hb1⟩
          case measure => simp [intOf]; omega
        · have hT := Lib.hid (ne_at hlt hltm he)
          generalize l[k] = x at r1 he
          generalize m[k] = y at r2 he
          have he2 := decide_eq_false he
          clear htk he
          go_wp2_with (go_at_call 35; refine (equal16_c _ _ x y _ r1 r2).mono ?_; rintro e w1 ⟨rfl, hb1⟩; have hb1 := hb1.fr; rw [he2])
          go_ret
          exact ⟨by rw [decide_eq_false hT.out]; rfl, hfr.trans hb1⟩
      · have hT := Lib.hid (eq_all htk hlt HL.out)
        go_wp2
        go_ret
        exact ⟨by rw [decide_eq_true hT.out]; rfl, hfr⟩
  · have hl2 : ((l.length : Int) != m.length) = true := by simp; omega
    have hne : l ≠ m := fun h => hlen (by rw [h])
    have hT := Lib.hid hne
    clear hne hlen hxa hxb
    go_enter Tryd.func34, Tryd.ntmps34
    go_wp2
    go_ret
    exact ⟨by rw [decide_eq_false hT.out]; rfl, Fr.refl _⟩

/-- A config. -/
structure Cfg where
  model : Nat
  opens : Int
  states : Int
  steps : Int
  part : Bool
  cut : Bool
  memo : Bool
  deriving DecidableEq
def Cfg.zero : Cfg := ⟨0, 0, 0, 0, false, false, false⟩
def Cfg.cells (g : Cfg) : List Value := [.int .u8 g.model, .int .i64 g.opens, .int .i64 g.states, .int .i64 g.steps, .bool g.part, .bool g.cut, .bool g.memo]
/-- An event. -/
structure Ev where
  kind : Nat
  client : Nat
  id : Nat
  op : OpD
  rk : Nat
  rv : Nat
  txn : List Mic
  reads : List (List Nat)
  cfg : Cfg
  deriving DecidableEq
def Ev.zero : Ev := ⟨0, 0, 0, .zero, 0, 0, [], [], .zero⟩
/-- An event's value, its two slices apart. -/
def Ev.val (x : Ev) (t r : Value) : Value := .agg #[.int .u8 x.kind, .int .u8 x.client, .int .u16 x.id, .int .u8 x.op.F, .int .u8 x.op.O, .int .u8 x.op.K, .int .u16 x.op.A, .int .u16 x.op.B, .int .u8 x.rk, .int .u16 x.rv, t, r, .int .u8 x.cfg.model, .int .i64 x.cfg.opens, .int .i64 x.cfg.states, .int .i64 x.cfg.steps, .bool x.cfg.part, .bool x.cfg.cut, .bool x.cfg.memo]
/-- A value that is an event. -/
structure EvAt (w : World) (v : Value) (x : Ev) : Prop where
  is : ∃ t r, v = x.val t r ∧ RdM w t x.txn ∧ RdR w r x.reads
theorem EvAt.keep {w w' : World} {v : Value} {x : Ev} (h : EvAt w v x) (f : Fr w w') : EvAt w' v x := by
  obtain ⟨t, r, h1, h2, h3⟩ := h
  exact ⟨t, r, h1, h2.keep f, h3.keep f⟩
end Go.Proofs.YtgbaanioppblhaaDoor

/- slices.IndexFunc and ContainsFunc with the two tests of event. No condition but that the list can be read. -/
namespace Go.Proofs.YtgbaanioppblhaaDoor
open Go.RowKit

/-- A micro that may not be. -/
def micBad (m : Mic) : Bool := decide (8 ≤ m.key) || (m.read && decide (m.v ≠ 0))
/-- A list that is too long. -/
def listBad (l : List Nat) : Bool := decide (32 < l.length)
theorem any_take {α : Type} {p : α → Bool} {l : List α} {k : Nat} (h : (l.take k).any p = false) (hk : k < l.length) (hp : p l[k] = false) : (l.take (k + 1)).any p = false := by
  rw [List.take_succ_eq_append_getElem hk, List.any_append, h]; simp [hp]
theorem any_at {α : Type} {p : α → Bool} {l : List α} {k : Nat} (hk : k < l.length) (hp : p l[k] = true) : l.any p = true := List.any_eq_true.2 ⟨_, List.getElem_mem hk, hp⟩
theorem any_none {α : Type} {p : α → Bool} {l : List α} {k : Nat} (h : (l.take k).any p = false) (hk : ¬ k < l.length) : l.any p = false := by
  rwa [List.take_of_length_le (by omega)] at h

theorem micBad_c (m : Mic) (w : World) :
    Calls Tryd.prog 92 #[.agg #[.bool m.read, .int .u8 m.key, .int .u16 m.v]] w fun e w' => e = .returned (.bool (micBad m)) ∧ Fr w w' := by
  obtain ⟨r, k, v⟩ := m
  have hB : micBad ⟨r, k, v⟩ = (decide (8 ≤ k) || (r && decide (v ≠ 0))) := rfl
  have HB := Lib.hid hB
  clear hB
  by_cases h : 8 ≤ k
  · have h1 : (8 : Int) ≤ k := by omega
    have hd := decide_eq_true h
    have HD := Lib.hid hd
    clear h hd
    go_enter Tryd.func92, Tryd.ntmps92
    go_wp2
    go_ret
    exact ⟨by rw [HB.out, HD.out]; rfl, (Fr.refl _).alloc _⟩
  · have h1 : ¬ (8 : Int) ≤ k := by omega
    have hd := decide_eq_false h
    have HD := Lib.hid hd
    clear h hd
    cases r
    · go_enter Tryd.func92, Tryd.ntmps92
      go_wp2
      go_ret
      exact ⟨by rw [HB.out, HD.out]; rfl, (Fr.refl _).alloc _⟩
    · have h2 : ((v : Int) != 0) = decide (v ≠ 0) := by
        by_cases hv : v = 0
        · simp [hv]
        · simp [hv]
      generalize decide (v ≠ 0) = b at h2 HB
      go_enter Tryd.func92, Tryd.ntmps92
      go_wp2
      go_ret
      exact ⟨by rw [HB.out, HD.out]; rfl, (Fr.refl _).alloc _⟩
theorem listBad_c (v : Value) (l : List Nat) (w : World) (hv : Rd16 w v l) :
    Calls Tryd.prog 94 #[v] w fun e w' => e = .returned (.bool (listBad l)) ∧ Fr w w' := by
  obtain ⟨a, cap, rfl, _⟩ := hv
  have hB : listBad l = decide ((32 : Int) < l.length) := by unfold listBad; by_cases h : 32 < l.length <;> simp [h] <;> omega
  rw [hB]
  clear hB
  go_enter Tryd.func94, Tryd.ntmps94
  go_wp2
  go_ret
  exact ⟨rfl, Fr.refl _⟩
set_option maxRecDepth 100000 in
theorem indexMic_c (u : Value) (l : List Mic) (w : World) (hu : RdM w u l) :
    Calls Tryd.prog 104 #[u, .func (.func 92) #[] #[]] w fun e w' => (∃ r : Int, e = .returned (.int .i64 r) ∧ decide (0 ≤ r) = l.any micBad) ∧ Fr w w' := by
  obtain ⟨a, capa, rfl, hca, hma, hxa⟩ := hu
  unfold maxLen at hma
  go_enter Tryd.func104, Tryd.ntmps104
  go_wp2
  go_loopw [8] (fun i wr => ∃ k : Nat, k ≤ l.length ∧ i = .int .i64 k ∧ (l.take k).any micBad = false ∧ Fr w wr) (fun i _ => l.length - (intOf i).toNat)
  case atStart => exact ⟨0, Nat.zero_le _, rfl, rfl, Fr.refl _⟩
  case round =>
    obtain ⟨k, hk, rfl, htk, hfr⟩ := hrel
    by_cases hlt : k < l.length
    · obtain ⟨b1, o1, rfl, hb1, hc1⟩ := SlAt.at (n := 0) (cap := 0) hxa (mic_ne_nil hlt)
      obtain ⟨c10, c11, c12⟩ := micAt hfr hc1 hlt
      have hk1 : k < capa := by omega
      by_cases he : micBad l[k] = true
      · have hT := Lib.hid (any_at hlt he)
        have hcall := fun W (_ : True) => micBad_c l[k] W
        generalize l[k] = x at c10 c11 c12 hcall he
        rw [he] at hcall
        have HC := Lib.hid hcall
        clear hcall htk he hxa hc1
        go_wp2_with fail
        refine (HC.out _ trivial).mono ?_
        rintro e w1 ⟨rfl, hb1⟩
        go_wp2
        go_ret
        exact ⟨⟨k, rfl, by rw [hT.out]; simp⟩, hfr.trans hb1⟩
      · rw [Bool.not_eq_true] at he
        have hT := Lib.hid (any_take htk hlt he)
        have hcall := fun W (_ : True) => micBad_c l[k] W
        generalize l[k] = x at c10 c11 c12 hcall he
        rw [he] at hcall
        have HC := Lib.hid hcall
        clear hcall htk he hxa hc1
        go_wp2_with fail
        refine (HC.out _ trivial).mono ?_
        rintro e w1 ⟨rfl, hb1⟩
        go_wp2
        go_roundw
        case rel => exact ⟨k + 1, by omega, by go_num, hT.out, hfr.trans hb1⟩
        case measure => simp [intOf]; omega
    · have hT := Lib.hid (any_none htk hlt)
      go_wp2
      go_ret
      exact ⟨⟨-1, rfl, by rw [hT.out]; rfl⟩, hfr⟩
theorem containsMic_c (u : Value) (l : List Mic) (w : World) (hu : RdM w u l) :
    Calls Tryd.prog 93 #[u, .func (.func 92) #[] #[]] w fun e w' => e = .returned (.bool (l.any micBad)) ∧ Fr w w' := by
  have hi := fun W hW => indexMic_c u l W hW
  generalize l.any micBad = b at hi ⊢
  have HI := Lib.hid hi
  clear hi
  go_enter Tryd.func93, Tryd.ntmps93
  go_wp2_with fail
  refine (HI.out _ hu).mono ?_
  rintro e w1 ⟨⟨r, rfl, hr⟩, hb⟩
  go_wp2
  go_ret
  exact ⟨rfl, hb⟩
set_option maxRecDepth 100000 in
theorem indexR_c (u : Value) (l : List (List Nat)) (w : World) (hu : RdR w u l) :
    Calls Tryd.prog 105 #[u, .func (.func 94) #[] #[]] w fun e w' => (∃ r : Int, e = .returned (.int .i64 r) ∧ decide (0 ≤ r) = l.any listBad) ∧ Fr w w' := by
  obtain ⟨us, hlu, ⟨a, capa, rfl, hca, hma, hxa⟩, h3a⟩ := hu
  unfold maxLen at hma
  go_enter Tryd.func105, Tryd.ntmps105
  go_wp2
  go_loopw [8] (fun i wr => ∃ k : Nat, k ≤ l.length ∧ i = .int .i64 k ∧ (l.take k).any listBad = false ∧ Fr w wr) (fun i _ => l.length - (intOf i).toNat)
  case atStart => exact ⟨0, Nat.zero_le _, rfl, rfl, Fr.refl _⟩
  case round =>
    obtain ⟨k, hk, rfl, htk, hfr⟩ := hrel
    by_cases hlt : k < l.length
    · obtain ⟨b1, o1, u1, rfl, hc1, hr1⟩ := RdR.at (n := 0) (cap := 0) hlu hxa h3a hlt
      have c1 := hfr.keep hc1
      have r1 := hr1.keep hfr
      have hk1 : k < capa := by omega
      by_cases he : listBad l[k] = true
      · have hT := Lib.hid (any_at hlt he)
        have hcall := fun W (hh : Rd16 W u1 (l[k])) => listBad_c u1 (l[k]) W hh
        generalize l[k] = x at r1 hcall he hr1
        rw [he] at hcall
        have HC := Lib.hid hcall
        clear hcall htk he hxa hc1 hr1 h3a
        go_wp2_with fail
        refine (HC.out _ r1).mono ?_
        rintro e w1 ⟨rfl, hb1⟩
        go_wp2
        go_ret
        exact ⟨⟨k, rfl, by rw [hT.out]; simp⟩, hfr.trans hb1⟩
      · rw [Bool.not_eq_true] at he
        have hT := Lib.hid (any_take htk hlt he)
        have hcall := fun W (hh : Rd16 W u1 (l[k])) => listBad_c u1 (l[k]) W hh
        generalize l[k] = x at r1 hcall he hr1
        rw [he] at hcall
        have HC := Lib.hid hcall
        clear hcall htk he hxa hc1 hr1 h3a
        go_wp2_with fail
        refine (HC.out _ r1).mono ?_
        rintro e w1 ⟨rfl, hb1⟩
        go_wp2
        go_roundw
        case rel => exact ⟨k + 1, by omega, by go_num, hT.out, hfr.trans hb1⟩
        case measure => simp [intOf]; omega
    · have hT := Lib.hid (any_none htk hlt)
      go_wp2
      go_ret
      exact ⟨⟨-1, rfl, by rw [hT.out]; rfl⟩, hfr⟩
theorem containsR_c (u : Value) (l : List (List Nat)) (w : World) (hu : RdR w u l) :
    Calls Tryd.prog 95 #[u, .func (.func 94) #[] #[]] w fun e w' => e = .returned (.bool (l.any listBad)) ∧ Fr w w' := by
  have hi := fun W hW => indexR_c u l W hW
  generalize l.any listBad = b at hi ⊢
  have HI := Lib.hid hi
  clear hi
  go_enter Tryd.func95, Tryd.ntmps95
  go_wp2_with fail
  refine (HI.out _ hu).mono ?_
  rintro e w1 ⟨⟨r, rfl, hr⟩, hb⟩
  go_wp2
  go_ret
  exact ⟨rfl, hb⟩
end Go.Proofs.YtgbaanioppblhaaDoor
