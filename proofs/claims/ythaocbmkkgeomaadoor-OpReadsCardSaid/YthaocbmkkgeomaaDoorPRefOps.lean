/- The walks of umpireref04: an operation's bytes, and the operation that bytes begin with. No condition but the numbers' bounds. -/
import Derived.Test.YthaocbmkkgeomaaDoorPRefOp
import Derived.Test.YthaocbmkkgeomaaDoorPOpTake
import Derived.Test.YthaocbmkkgeomaaDoorPReader
set_option linter.all false
set_option linter.unusedVariables false
set_option linter.unusedSimpArgs false
set_option linter.unnecessarySimpa false
/- The walks of umpireref04: an operation's bytes, and the operation that bytes begin with. No condition but the numbers' bounds. -/
namespace Go.Proofs.YthaocbmkkgeomaaDoor
open Go.RowKit

theorem two_c (n : Nat) (w : World) (hn : n < 65536) :
    Calls Tryd.prog 73 #[.int .u16 n] w fun e w' => e = .returned (.string ⟨(be n 2).toArray⟩) ∧ Fr w w' := by
  have HB := Lib.hid (two_bytes n)
  go_enter Tryd.func73, Tryd.ntmps73
  go_wp2
  go_ret
  exact ⟨by rw [HB.out, ← ofNat_mod n]; exact ret_str (by simp), (Fr.refl _).alloc _⟩

theorem rPut_no (F O K A B : Nat) (w : World) (hF : F ≤ 255) (hm : mayB F O K A B = false) :
    Calls Tryd.prog 44 #[.agg #[.int .u8 F, .int .u8 O, .int .u8 K, .int .u16 A, .int .u16 B]] w fun e w' => e = .returned (.tuple #[.string ⟨#[]⟩, .int .i64 4]) ∧ Fr w w' := by
  have HM := Lib.hid hm
  clear hm
  go_enter Tryd.func44, Tryd.ntmps44
  go_wp2_with (go_at_call 68; refine (rMay_c F O K A B _ hF).mono ?_; rw [HM.out]; rintro e w1 ⟨rfl, hb⟩)
  go_ret2
  exact ⟨rfl, by repeat (first | exact Fr.refl _ | assumption | apply Fr.alloc | refine Fr.trans ?_ (by assumption))⟩
theorem opBoxOnly {w wi : World} {c0 c1 c2 c3 c4 : Value} {t : TypeId} (h : Fr (w.alloc (.cells #[c0, c1, c2, c3, c4] t)) wi) :
    wi.cell? ⟨w.heap.size, 0, none⟩ = some c0 ∧ wi.cell? ⟨w.heap.size, 1, none⟩ = some c1 ∧ wi.cell? ⟨w.heap.size, 2, none⟩ = some c2 ∧ wi.cell? ⟨w.heap.size, 3, none⟩ = some c3 ∧ wi.cell? ⟨w.heap.size, 4, none⟩ = some c4 ∧ w.heap.size < wi.heap.size := by
  have e : ∀ o, wi.cell? ⟨w.heap.size, o, none⟩ = #[c0, c1, c2, c3, c4][o]? := fun o => by
    rw [h.cell _ _ (by simp), World.cell?_alloc_new]
  exact ⟨by rw [e]; rfl, by rw [e]; rfl, by rw [e]; rfl, by rw [e]; rfl, by rw [e]; rfl, h.size1⟩
theorem ret_str2 {a : ByteArray} {l : List UInt8} {v : Value} (h : a.data.toList = l) : Ending.returned (.tuple #[.string a, v]) = Ending.returned (.tuple #[.string ⟨l.toArray⟩, v]) := by subst h; simp
theorem opBytes_of {F O K A B : Nat} {k a b : Bool} (hk : hasK F = k) (ha : hasA F = a) (hb : hasB F = b) : opBytes F O K A B = [UInt8.ofNat F, UInt8.ofNat O] ++ (if k then [UInt8.ofNat K] else []) ++ (if a then be A 2 else []) ++ (if b then be B 2 else []) := by
  subst hk ha hb; rfl
set_option maxHeartbeats 1000000 in
set_option maxRecDepth 100000 in
theorem rPut_yes (k a b : Bool) (F O K A B : Nat) (w : World) (hA : A < 65536) (hB : B < 65536) (hm : mayB F O K A B = true) (hk : hasK F = k) (ha : hasA F = a) (hb : hasB F = b) :
    Calls Tryd.prog 44 #[.agg #[.int .u8 F, .int .u8 O, .int .u8 K, .int .u16 A, .int .u16 B]] w fun e w' => e = .returned (.tuple #[.string ⟨(opBytes F O K A B).toArray⟩, .int .i64 0]) ∧ Fr w w' := by
  obtain ⟨h0, h1, _, _⟩ := mayB_F hm
  have hof := fun W => rOf_yes F W h0 h1
  have hmay := fun W => rMay_c F O K A B W (by omega)
  rw [hm] at hmay
  have HM := Lib.hid hmay
  have hla := be_len A 2
  have hlb := be_len B 2
  have hbb := opBytes_of (O := O) (K := K) (A := A) (B := B) hk ha hb
  rw [hk, ha, hb] at hof
  have HO := Lib.hid hof
  clear hof hmay hm hk ha hb h0 h1
  cases k <;> cases a <;> cases b
  all_goals
    simp only [if_true, if_false, Bool.false_eq_true, List.append_nil] at hbb
    have HBB := Lib.hid hbb
    clear hbb
    go_enter Tryd.func44, Tryd.ntmps44
    go_wp2_with fail
    refine (HM.out _).mono ?_
    rintro e w1 ⟨rfl, hb1⟩
    obtain ⟨b0, b1, b2, b3, b4, s0⟩ := opBoxOnly hb1
    go_wp2_with fail
    refine (HO.out _).mono ?_
    rintro e w2 ⟨rfl, hb2⟩
    have hb12 := hb1.trans hb2
    have hf2 : Fr w w2 := Fr.trans ((Fr.refl _).alloc _) hb12
    clear b0 b1 b2 b3 b4 s0 hb1 hb2
    obtain ⟨b0, b1, b2, b3, b4, s0⟩ := opBoxOnly hb12
    clear hb12
    have s01 : w.heap.size < w2.heap.size + 1 := by omega
    have s02 : w.heap.size < w2.heap.size + 1 + 1 := by omega
    have s03 : w.heap.size < w2.heap.size + 1 + 1 + 1 := by omega
    have s12 : w2.heap.size < w2.heap.size + 1 + 1 := by omega
    have s13 : w2.heap.size < w2.heap.size + 1 + 1 + 1 := by omega
    go_wp2_with (go_at_call 73; refine (two_c _ _ (by first | exact hA | exact hB)).mono ?_; rintro e w3 ⟨rfl, hb3⟩; have hc3 := hb3.cell; have hz3 := hb3.size; (try simp only [World.size_alloc] at hz3); have hz30 : w2.heap.size < w3.heap.size := (by omega); have hz31 : w.heap.size < w3.heap.size := (by omega))
    go_ret2
    refine ⟨?_, by repeat (with_reducible first | assumption | apply Fr.alloc | refine Fr.trans ?_ (by assumption))⟩
    rw [HBB.out]
    exact ret_str2 (by simp)
theorem rPut_c (F O K A B : Nat) (w : World) (hF : F ≤ 255) (hA : A < 65536) (hB : B < 65536) :
    Calls Tryd.prog 44 #[.agg #[.int .u8 F, .int .u8 O, .int .u8 K, .int .u16 A, .int .u16 B]] w fun e w' => e = .returned (.tuple #[.string ⟨(putOp F O K A B).1.toArray⟩, .int .i64 (putOp F O K A B).2]) ∧ Fr w w' := by
  unfold putOp
  cases hm : mayB F O K A B
  · exact rPut_no F O K A B w hF hm
  · exact rPut_yes _ _ _ F O K A B w hA hB hm rfl rfl rfl
end Go.Proofs.YthaocbmkkgeomaaDoor

/- umpireref04.Take: the operation that bytes begin with. No condition but that the bytes are fewer than 2^47. -/
namespace Go.Proofs.YthaocbmkkgeomaaDoor
open Go.RowKit

def b2n (k : Bool) (n : Nat) : Nat := if k then n else 0
theorem opBoxFr {w wi : World} {c0 c1 c2 c3 c4 : Value} {t : TypeId} (h : Fr (w.alloc (.cells #[c0, c1, c2, c3, c4] t)) wi) :
    wi.frozen? ⟨w.heap.size, 0, none⟩ = false ∧ wi.frozen? ⟨w.heap.size, 1, none⟩ = false ∧ wi.frozen? ⟨w.heap.size, 2, none⟩ = false ∧ wi.frozen? ⟨w.heap.size, 3, none⟩ = false ∧ wi.frozen? ⟨w.heap.size, 4, none⟩ = false := by
  have e : ∀ o, wi.frozen? ⟨w.heap.size, o, none⟩ = false := fun o => by
    rw [h.frozen _ _ (by simp)]; simp
  exact ⟨e _, e _, e _, e _, e _⟩

theorem rTake_nil (w : World) :
    Calls Tryd.prog 36 #[.string ⟨#[]⟩] w fun e w' => e = .returned (.tuple #[.agg #[.int .u8 0, .int .u8 0, .int .u8 0, .int .u16 0, .int .u16 0], .string ⟨#[]⟩, .int .i64 5]) ∧ Fr w w' := by
  go_enter Tryd.func36, Tryd.ntmps36
  go_wp2
  exact bodyPost_ret (v := .tuple #[.agg #[.int .u8 0, .int .u8 0, .int .u8 0, .int .u16 0, .int .u16 0], .string ⟨#[]⟩, .int .i64 5]) (by simp [results, Tryd.results36, go_sem]) rfl ⟨rfl, ((Fr.refl _).alloc _)⟩
set_option maxHeartbeats 400000 in
theorem rTake_none (f : UInt8) (s : List UInt8) (w : World) (hf : f.toNat = 0 ∨ 12 ≤ f.toNat) :
    Calls Tryd.prog 36 #[.string ⟨(f :: s).toArray⟩] w fun e w' => e = .returned (.tuple #[.agg #[.int .u8 0, .int .u8 0, .int .u8 0, .int .u16 0, .int .u16 0], .string ⟨#[]⟩, .int .i64 4]) ∧ Fr w w' := by
  have hlt := f.toNat_lt
  have hfind := fun W => rOf_no (f.toNat : Int) W (by omega) (by omega) (by omega)
  have HF := Lib.hid hfind
  have hl0 : (((s.length : Int) + 1) == 0) = false := by simp; omega
  clear hfind hlt hf
  have hsz := size_mk (f :: s)
  have g0 : ∀ hh, ((⟨(f :: s).toArray⟩ : ByteArray)[0]'hh) = f := fun _ => rfl
  go_enter Tryd.func36, Tryd.ntmps36
  go_wp2_with fail
  refine (HF.out _).mono ?_
  rintro e w1 ⟨rfl, hb1⟩
  obtain ⟨a0, a1, a2, a3, a4, s0⟩ := opBoxOnly hb1
  obtain ⟨z0, z1, z2, z3, z4⟩ := opBoxFr hb1
  have hfr1 : Fr w w1 := Fr.trans ((Fr.refl w).alloc _) hb1
  go_wp2
  refine bodyPost_ret (v := .tuple #[.agg #[.int .u8 0, .int .u8 0, .int .u8 0, .int .u16 0, .int .u16 0], .string ⟨#[]⟩, .int .i64 4]) (by simp [results, Tryd.results36, go_sem, a0, a1, a2, a3, a4, s0]) rfl ⟨rfl, ?_⟩
  repeat (with_reducible first | assumption | apply Fr.alloc | refine Fr.setCell ?_ (by simp) _)
set_option maxHeartbeats 2000000 in
set_option maxRecDepth 100000 in
theorem rTake_torn (k a b : Bool) (f : UInt8) (s : List UInt8) (w : World) (hf : 1 ≤ f.toNat ∧ f.toNat ≤ 11) (hk : hasK f.toNat = k) (ha : hasA f.toNat = a) (hb : hasB f.toNat = b) (hl : s.length < 1 + b2n k 1 + b2n a 2 + b2n b 2) :
    Calls Tryd.prog 36 #[.string ⟨(f :: s).toArray⟩] w fun e w' => e = .returned (.tuple #[.agg #[.int .u8 0, .int .u8 0, .int .u8 0, .int .u16 0, .int .u16 0], .string ⟨#[]⟩, .int .i64 5]) ∧ Fr w w' := by
  have hfind := fun W => rOf_yes (f.toNat : Int) W (by omega) (by omega)
  rw [hk, ha, hb] at hfind
  have HF := Lib.hid hfind
  have hl0 : (((s.length : Int) + 1) == 0) = false := by simp; omega
  have hsz := size_mk (f :: s)
  have g0 : ∀ hh, ((⟨(f :: s).toArray⟩ : ByteArray)[0]'hh) = f := fun _ => rfl
  clear hfind hf hk ha hb
  cases k <;> cases a <;> cases b
  all_goals
    simp only [b2n, if_true, if_false, Bool.false_eq_true] at hl
    go_enter Tryd.func36, Tryd.ntmps36
    go_wp2_with fail
    refine (HF.out _).mono ?_
    rintro e w1 ⟨rfl, hb1⟩
    obtain ⟨a0, a1, a2, a3, a4, s0⟩ := opBoxOnly hb1
    obtain ⟨z0, z1, z2, z3, z4⟩ := opBoxFr hb1
    have hfr1 : Fr w w1 := Fr.trans ((Fr.refl w).alloc _) hb1
    clear hb1
    go_wp2
    refine bodyPost_ret (v := .tuple #[.agg #[.int .u8 0, .int .u8 0, .int .u8 0, .int .u16 0, .int .u16 0], .string ⟨#[]⟩, .int .i64 5]) (by simp [results, Tryd.results36, go_sem, a0, a1, a2, a3, a4, s0]) rfl ⟨rfl, ?_⟩
    repeat (with_reducible first | assumption | apply Fr.alloc | refine Fr.setCell ?_ (by simp) _)
-- GENERATED BELOW (gen_reftake.py)

set_option maxHeartbeats 4000000 in
set_option maxRecDepth 100000 in
theorem rTake_0 (f o : UInt8) (r : List UInt8) (w : World) (hf : 1 ≤ f.toNat ∧ f.toNat ≤ 11) (hk : hasK f.toNat = false) (ha : hasA f.toNat = false) (hb : hasB f.toNat = false) (hbig : r.length ≤ 140737488355328) (m : Bool) (hm : mayB f.toNat o.toNat (0 : Nat) (0 : Nat) (0 : Nat) = m) :
    Calls Tryd.prog 36 #[.string ⟨(f :: o :: r).toArray⟩] w fun e w' => e = .returned (if m then .tuple #[.agg #[.int .u8 f.toNat, .int .u8 o.toNat, .int .u8 (0 : Nat), .int .u16 (0 : Nat), .int .u16 (0 : Nat)], .string ⟨r.toArray⟩, .int .i64 0] else .tuple #[.agg #[.int .u8 0, .int .u8 0, .int .u8 0, .int .u16 0, .int .u16 0], .string ⟨#[]⟩, .int .i64 4]) ∧ Fr w w' := by
  have hfind := fun W => rOf_yes (f.toNat : Int) W (by omega) (by omega)
  rw [hk, ha, hb] at hfind
  have HF := Lib.hid hfind
  have tf := f.toNat_lt
  have to := o.toNat_lt
  have hmay := fun W => rMay_c f.toNat o.toNat (0 : Nat) (0 : Nat) (0 : Nat) W (by omega)
  rw [hm] at hmay
  have HM := Lib.hid hmay
  have hsz := size_mk (f :: o :: r)
  have g0 : ∀ hh, ((⟨(f :: o :: r).toArray⟩ : ByteArray)[0]'hh) = f := fun _ => rfl
  have g1 : ∀ hh, ((⟨(f :: o :: r).toArray⟩ : ByteArray)[1]'hh) = o := fun _ => rfl
  have hext : (⟨(f :: o :: r).toArray⟩ : ByteArray).extract 2 (r.length + 1 + 1) = ⟨r.toArray⟩ := by apply ByteArray.ext; simp [ByteArray.data_extract]
  have HEX := Lib.hid hext
  clear hfind hf hk ha hb hmay hm hext tf to
  go_enter Tryd.func36, Tryd.ntmps36
  go_wp2_with fail
  refine (HF.out _).mono ?_
  rintro e w1 ⟨rfl, hb1⟩
  obtain ⟨a0, a1', a2', a3, a4, s0⟩ := opBoxOnly hb1
  obtain ⟨z0, z1, z2, z3, z4⟩ := opBoxFr hb1
  have hfr1 : Fr w w1 := Fr.trans ((Fr.refl w).alloc _) hb1
  have s01 : w.heap.size < w1.heap.size + 1 := by omega
  have s02 : w.heap.size < w1.heap.size + 1 + 1 := by omega
  have hne1 : w1.heap.size ≠ w.heap.size := by omega
  have s12 : w1.heap.size < w1.heap.size + 1 + 1 := by omega
  clear hb1
  go_wp2_with fail
  go_region
  go_wp2_with fail
  refine (HM.out _).mono ?_
  rintro e w2 ⟨rfl, hb2⟩
  have x0 := hb2.cell (w1.heap.size + 1) 0 (by simp)
  have x1 := hb2.cell (w1.heap.size + 1) 1 (by simp)
  have x2 := hb2.cell (w1.heap.size + 1) 2 (by simp)
  have x3 := hb2.cell (w1.heap.size + 1) 3 (by simp)
  have x4 := hb2.cell (w1.heap.size + 1) 4 (by simp)
  simp at x0 x1 x2 x3 x4
  have hb12 : Fr w1 w2 := Fr.trans (by repeat (with_reducible first | exact Fr.refl _ | apply Fr.drew | apply Fr.alloc)) hb2
  have b0 := hb12.keep a0
  have b1' := hb12.keep a1'
  have b2' := hb12.keep a2'
  have b3 := hb12.keep a3
  have b4 := hb12.keep a4
  have y0 := (hb12.frozen _ 0 s0).trans z0
  have y1 := (hb12.frozen _ 1 s0).trans z1
  have y2 := (hb12.frozen _ 2 s0).trans z2
  have y3 := (hb12.frozen _ 3 s0).trans z3
  have y4 := (hb12.frozen _ 4 s0).trans z4
  have hfr2 : Fr w w2 := hfr1.trans hb12
  have s2 : w.heap.size < w2.heap.size := lt_of_cell b0
  clear a0 a1' a2' a3 a4 z0 z1 z2 z3 z4 s0 s01 s02 s12 hne1 hb12 hfr1 hb2 
  cases m
  · go_wp2
    refine bodyPost_ret (v := .tuple #[.agg #[.int .u8 0, .int .u8 0, .int .u8 0, .int .u16 0, .int .u16 0], .string ⟨#[]⟩, .int .i64 4]) (by simp [results, Tryd.results36, go_sem, b0, b1', b2', b3, b4, s2]) rfl ⟨rfl, ?_⟩
    repeat (with_reducible first | assumption | apply Fr.drew | apply Fr.alloc | refine Fr.setCell ?_ (by simp) _)
  · go_wp2_with fail
    go_region
    go_wp2_with fail
    refine bodyPost_ret (v := .tuple #[.agg #[.int .u8 f.toNat, .int .u8 o.toNat, .int .u8 (0 : Nat), .int .u16 (0 : Nat), .int .u16 (0 : Nat)], .string ((⟨(f :: o :: r).toArray⟩ : ByteArray).extract 2 (r.length + 1 + 1)), .int .i64 0]) (by simp [results, Tryd.results36, go_sem, b0, b1', b2', b3, b4, s2]) rfl ⟨by rw [HEX.out]; rfl, ?_⟩
    repeat (with_reducible first | assumption | apply Fr.drew | apply Fr.alloc | refine Fr.setCell ?_ (by simp) _)

set_option maxHeartbeats 4000000 in
set_option maxRecDepth 100000 in
theorem rTake_1 (f o kk : UInt8) (r : List UInt8) (w : World) (hf : 1 ≤ f.toNat ∧ f.toNat ≤ 11) (hk : hasK f.toNat = true) (ha : hasA f.toNat = false) (hb : hasB f.toNat = false) (hbig : r.length ≤ 140737488355328) (m : Bool) (hm : mayB f.toNat o.toNat (kk.toNat : Nat) (0 : Nat) (0 : Nat) = m) :
    Calls Tryd.prog 36 #[.string ⟨(f :: o :: kk :: r).toArray⟩] w fun e w' => e = .returned (if m then .tuple #[.agg #[.int .u8 f.toNat, .int .u8 o.toNat, .int .u8 (kk.toNat : Nat), .int .u16 (0 : Nat), .int .u16 (0 : Nat)], .string ⟨r.toArray⟩, .int .i64 0] else .tuple #[.agg #[.int .u8 0, .int .u8 0, .int .u8 0, .int .u16 0, .int .u16 0], .string ⟨#[]⟩, .int .i64 4]) ∧ Fr w w' := by
  have hfind := fun W => rOf_yes (f.toNat : Int) W (by omega) (by omega)
  rw [hk, ha, hb] at hfind
  have HF := Lib.hid hfind
  have tf := f.toNat_lt
  have to := o.toNat_lt
  have tkk := kk.toNat_lt
  have hmay := fun W => rMay_c f.toNat o.toNat (kk.toNat : Nat) (0 : Nat) (0 : Nat) W (by omega)
  rw [hm] at hmay
  have HM := Lib.hid hmay
  have hsz := size_mk (f :: o :: kk :: r)
  have g0 : ∀ hh, ((⟨(f :: o :: kk :: r).toArray⟩ : ByteArray)[0]'hh) = f := fun _ => rfl
  have g1 : ∀ hh, ((⟨(f :: o :: kk :: r).toArray⟩ : ByteArray)[1]'hh) = o := fun _ => rfl
  have g2 : ∀ hh, ((⟨(f :: o :: kk :: r).toArray⟩ : ByteArray)[2]'hh) = kk := fun _ => rfl
  have hext : (⟨(f :: o :: kk :: r).toArray⟩ : ByteArray).extract 3 (r.length + 1 + 1 + 1) = ⟨r.toArray⟩ := by apply ByteArray.ext; simp [ByteArray.data_extract]
  have HEX := Lib.hid hext
  clear hfind hf hk ha hb hmay hm hext tf to tkk
  go_enter Tryd.func36, Tryd.ntmps36
  go_wp2_with fail
  refine (HF.out _).mono ?_
  rintro e w1 ⟨rfl, hb1⟩
  obtain ⟨a0, a1', a2', a3, a4, s0⟩ := opBoxOnly hb1
  obtain ⟨z0, z1, z2, z3, z4⟩ := opBoxFr hb1
  have hfr1 : Fr w w1 := Fr.trans ((Fr.refl w).alloc _) hb1
  have s01 : w.heap.size < w1.heap.size + 1 := by omega
  have s02 : w.heap.size < w1.heap.size + 1 + 1 := by omega
  have hne1 : w1.heap.size ≠ w.heap.size := by omega
  have s12 : w1.heap.size < w1.heap.size + 1 + 1 := by omega
  clear hb1
  go_wp2_with fail
  go_region
  go_wp2_with fail
  refine (HM.out _).mono ?_
  rintro e w2 ⟨rfl, hb2⟩
  have x0 := hb2.cell (w1.heap.size + 1) 0 (by simp)
  have x1 := hb2.cell (w1.heap.size + 1) 1 (by simp)
  have x2 := hb2.cell (w1.heap.size + 1) 2 (by simp)
  have x3 := hb2.cell (w1.heap.size + 1) 3 (by simp)
  have x4 := hb2.cell (w1.heap.size + 1) 4 (by simp)
  simp at x0 x1 x2 x3 x4
  have hb12 : Fr w1 w2 := Fr.trans (by repeat (with_reducible first | exact Fr.refl _ | apply Fr.drew | apply Fr.alloc)) hb2
  have b0 := hb12.keep a0
  have b1' := hb12.keep a1'
  have b2' := hb12.keep a2'
  have b3 := hb12.keep a3
  have b4 := hb12.keep a4
  have y0 := (hb12.frozen _ 0 s0).trans z0
  have y1 := (hb12.frozen _ 1 s0).trans z1
  have y2 := (hb12.frozen _ 2 s0).trans z2
  have y3 := (hb12.frozen _ 3 s0).trans z3
  have y4 := (hb12.frozen _ 4 s0).trans z4
  have hfr2 : Fr w w2 := hfr1.trans hb12
  have s2 : w.heap.size < w2.heap.size := lt_of_cell b0
  clear a0 a1' a2' a3 a4 z0 z1 z2 z3 z4 s0 s01 s02 s12 hne1 hb12 hfr1 hb2 
  cases m
  · go_wp2
    refine bodyPost_ret (v := .tuple #[.agg #[.int .u8 0, .int .u8 0, .int .u8 0, .int .u16 0, .int .u16 0], .string ⟨#[]⟩, .int .i64 4]) (by simp [results, Tryd.results36, go_sem, b0, b1', b2', b3, b4, s2]) rfl ⟨rfl, ?_⟩
    repeat (with_reducible first | assumption | apply Fr.drew | apply Fr.alloc | refine Fr.setCell ?_ (by simp) _)
  · go_wp2_with fail
    go_region
    go_wp2_with fail
    refine bodyPost_ret (v := .tuple #[.agg #[.int .u8 f.toNat, .int .u8 o.toNat, .int .u8 (kk.toNat : Nat), .int .u16 (0 : Nat), .int .u16 (0 : Nat)], .string ((⟨(f :: o :: kk :: r).toArray⟩ : ByteArray).extract 3 (r.length + 1 + 1 + 1)), .int .i64 0]) (by simp [results, Tryd.results36, go_sem, b0, b1', b2', b3, b4, s2]) rfl ⟨by rw [HEX.out]; rfl, ?_⟩
    repeat (with_reducible first | assumption | apply Fr.drew | apply Fr.alloc | refine Fr.setCell ?_ (by simp) _)

set_option maxHeartbeats 4000000 in
set_option maxRecDepth 100000 in
theorem rTake_2 (f o a1 a2 : UInt8) (r : List UInt8) (w : World) (hf : 1 ≤ f.toNat ∧ f.toNat ≤ 11) (hk : hasK f.toNat = false) (ha : hasA f.toNat = true) (hb : hasB f.toNat = false) (hbig : r.length ≤ 140737488355328) (m : Bool) (hm : mayB f.toNat o.toNat (0 : Nat) ((a1.toNat * 256 + a2.toNat) : Nat) (0 : Nat) = m) :
    Calls Tryd.prog 36 #[.string ⟨(f :: o :: a1 :: a2 :: r).toArray⟩] w fun e w' => e = .returned (if m then .tuple #[.agg #[.int .u8 f.toNat, .int .u8 o.toNat, .int .u8 (0 : Nat), .int .u16 ((a1.toNat * 256 + a2.toNat) : Nat), .int .u16 (0 : Nat)], .string ⟨r.toArray⟩, .int .i64 0] else .tuple #[.agg #[.int .u8 0, .int .u8 0, .int .u8 0, .int .u16 0, .int .u16 0], .string ⟨#[]⟩, .int .i64 4]) ∧ Fr w w' := by
  have hfind := fun W => rOf_yes (f.toNat : Int) W (by omega) (by omega)
  rw [hk, ha, hb] at hfind
  have HF := Lib.hid hfind
  have tf := f.toNat_lt
  have to := o.toNat_lt
  have ta1 := a1.toNat_lt
  have ta2 := a2.toNat_lt
  have hmay := fun W => rMay_c f.toNat o.toNat (0 : Nat) ((a1.toNat * 256 + a2.toNat) : Nat) (0 : Nat) W (by omega)
  rw [hm] at hmay
  have HM := Lib.hid hmay
  have hsz := size_mk (f :: o :: a1 :: a2 :: r)
  have g0 : ∀ hh, ((⟨(f :: o :: a1 :: a2 :: r).toArray⟩ : ByteArray)[0]'hh) = f := fun _ => rfl
  have g1 : ∀ hh, ((⟨(f :: o :: a1 :: a2 :: r).toArray⟩ : ByteArray)[1]'hh) = o := fun _ => rfl
  have g2 : ∀ hh, ((⟨(f :: o :: a1 :: a2 :: r).toArray⟩ : ByteArray)[2]'hh) = a1 := fun _ => rfl
  have g3 : ∀ hh, ((⟨(f :: o :: a1 :: a2 :: r).toArray⟩ : ByteArray)[3]'hh) = a2 := fun _ => rfl
  have hext : (⟨(f :: o :: a1 :: a2 :: r).toArray⟩ : ByteArray).extract 4 (r.length + 1 + 1 + 1 + 1) = ⟨r.toArray⟩ := by apply ByteArray.ext; simp [ByteArray.data_extract]
  have HEX := Lib.hid hext
  have wa1 : IntKind.u16.wrap (a1.toNat : Int) = a1.toNat := IntWalk.u16_in _ (by omega)
  have wa2 : IntKind.u16.wrap (a2.toNat : Int) = a2.toNat := IntWalk.u16_in _ (by omega)
  have wa3 : IntKind.u16.wrap ((a1.toNat : Int) * 256) = (a1.toNat : Int) * 256 := IntWalk.u16_in _ (by omega)
  have wa4 : IntKind.u16.wrap ((a1.toNat : Int) * 256 + a2.toNat) = (a1.toNat : Int) * 256 + a2.toNat := IntWalk.u16_in _ (by omega)
  have ia : IntKind.i64.wrap (2 + 1) = 3 := by decide
  clear hfind hf hk ha hb hmay hm hext tf to ta1 ta2
  go_enter Tryd.func36, Tryd.ntmps36
  go_wp2_with fail
  refine (HF.out _).mono ?_
  rintro e w1 ⟨rfl, hb1⟩
  obtain ⟨a0, a1', a2', a3, a4, s0⟩ := opBoxOnly hb1
  obtain ⟨z0, z1, z2, z3, z4⟩ := opBoxFr hb1
  have hfr1 : Fr w w1 := Fr.trans ((Fr.refl w).alloc _) hb1
  have s01 : w.heap.size < w1.heap.size + 1 := by omega
  have s02 : w.heap.size < w1.heap.size + 1 + 1 := by omega
  have hne1 : w1.heap.size ≠ w.heap.size := by omega
  have s12 : w1.heap.size < w1.heap.size + 1 + 1 := by omega
  clear hb1
  go_wp2_with fail
  go_region
  go_wp2_with fail
  go_region
  go_wp2_with fail
  refine (HM.out _).mono ?_
  rintro e w2 ⟨rfl, hb2⟩
  have x0 := hb2.cell (w1.heap.size + 1) 0 (by simp)
  have x1 := hb2.cell (w1.heap.size + 1) 1 (by simp)
  have x2 := hb2.cell (w1.heap.size + 1) 2 (by simp)
  have x3 := hb2.cell (w1.heap.size + 1) 3 (by simp)
  have x4 := hb2.cell (w1.heap.size + 1) 4 (by simp)
  simp at x0 x1 x2 x3 x4
  have hb12 : Fr w1 w2 := Fr.trans (by repeat (with_reducible first | exact Fr.refl _ | apply Fr.drew | apply Fr.alloc)) hb2
  have b0 := hb12.keep a0
  have b1' := hb12.keep a1'
  have b2' := hb12.keep a2'
  have b3 := hb12.keep a3
  have b4 := hb12.keep a4
  have y0 := (hb12.frozen _ 0 s0).trans z0
  have y1 := (hb12.frozen _ 1 s0).trans z1
  have y2 := (hb12.frozen _ 2 s0).trans z2
  have y3 := (hb12.frozen _ 3 s0).trans z3
  have y4 := (hb12.frozen _ 4 s0).trans z4
  have hfr2 : Fr w w2 := hfr1.trans hb12
  have s2 : w.heap.size < w2.heap.size := lt_of_cell b0
  clear a0 a1' a2' a3 a4 z0 z1 z2 z3 z4 s0 s01 s02 s12 hne1 hb12 hfr1 hb2 wa1 wa2 wa3 wa4 ia
  cases m
  · go_wp2
    refine bodyPost_ret (v := .tuple #[.agg #[.int .u8 0, .int .u8 0, .int .u8 0, .int .u16 0, .int .u16 0], .string ⟨#[]⟩, .int .i64 4]) (by simp [results, Tryd.results36, go_sem, b0, b1', b2', b3, b4, s2]) rfl ⟨rfl, ?_⟩
    repeat (with_reducible first | assumption | apply Fr.drew | apply Fr.alloc | refine Fr.setCell ?_ (by simp) _)
  · go_wp2_with fail
    go_region
    go_wp2_with fail
    refine bodyPost_ret (v := .tuple #[.agg #[.int .u8 f.toNat, .int .u8 o.toNat, .int .u8 (0 : Nat), .int .u16 ((a1.toNat * 256 + a2.toNat) : Nat), .int .u16 (0 : Nat)], .string ((⟨(f :: o :: a1 :: a2 :: r).toArray⟩ : ByteArray).extract 4 (r.length + 1 + 1 + 1 + 1)), .int .i64 0]) (by simp [results, Tryd.results36, go_sem, b0, b1', b2', b3, b4, s2]) rfl ⟨by rw [HEX.out]; rfl, ?_⟩
    repeat (with_reducible first | assumption | apply Fr.drew | apply Fr.alloc | refine Fr.setCell ?_ (by simp) _)

set_option maxHeartbeats 4000000 in
set_option maxRecDepth 100000 in
theorem rTake_3 (f o kk a1 a2 : UInt8) (r : List UInt8) (w : World) (hf : 1 ≤ f.toNat ∧ f.toNat ≤ 11) (hk : hasK f.toNat = true) (ha : hasA f.toNat = true) (hb : hasB f.toNat = false) (hbig : r.length ≤ 140737488355328) (m : Bool) (hm : mayB f.toNat o.toNat (kk.toNat : Nat) ((a1.toNat * 256 + a2.toNat) : Nat) (0 : Nat) = m) :
    Calls Tryd.prog 36 #[.string ⟨(f :: o :: kk :: a1 :: a2 :: r).toArray⟩] w fun e w' => e = .returned (if m then .tuple #[.agg #[.int .u8 f.toNat, .int .u8 o.toNat, .int .u8 (kk.toNat : Nat), .int .u16 ((a1.toNat * 256 + a2.toNat) : Nat), .int .u16 (0 : Nat)], .string ⟨r.toArray⟩, .int .i64 0] else .tuple #[.agg #[.int .u8 0, .int .u8 0, .int .u8 0, .int .u16 0, .int .u16 0], .string ⟨#[]⟩, .int .i64 4]) ∧ Fr w w' := by
  have hfind := fun W => rOf_yes (f.toNat : Int) W (by omega) (by omega)
  rw [hk, ha, hb] at hfind
  have HF := Lib.hid hfind
  have tf := f.toNat_lt
  have to := o.toNat_lt
  have tkk := kk.toNat_lt
  have ta1 := a1.toNat_lt
  have ta2 := a2.toNat_lt
  have hmay := fun W => rMay_c f.toNat o.toNat (kk.toNat : Nat) ((a1.toNat * 256 + a2.toNat) : Nat) (0 : Nat) W (by omega)
  rw [hm] at hmay
  have HM := Lib.hid hmay
  have hsz := size_mk (f :: o :: kk :: a1 :: a2 :: r)
  have g0 : ∀ hh, ((⟨(f :: o :: kk :: a1 :: a2 :: r).toArray⟩ : ByteArray)[0]'hh) = f := fun _ => rfl
  have g1 : ∀ hh, ((⟨(f :: o :: kk :: a1 :: a2 :: r).toArray⟩ : ByteArray)[1]'hh) = o := fun _ => rfl
  have g2 : ∀ hh, ((⟨(f :: o :: kk :: a1 :: a2 :: r).toArray⟩ : ByteArray)[2]'hh) = kk := fun _ => rfl
  have g3 : ∀ hh, ((⟨(f :: o :: kk :: a1 :: a2 :: r).toArray⟩ : ByteArray)[3]'hh) = a1 := fun _ => rfl
  have g4 : ∀ hh, ((⟨(f :: o :: kk :: a1 :: a2 :: r).toArray⟩ : ByteArray)[4]'hh) = a2 := fun _ => rfl
  have hext : (⟨(f :: o :: kk :: a1 :: a2 :: r).toArray⟩ : ByteArray).extract 5 (r.length + 1 + 1 + 1 + 1 + 1) = ⟨r.toArray⟩ := by apply ByteArray.ext; simp [ByteArray.data_extract]
  have HEX := Lib.hid hext
  have wa1 : IntKind.u16.wrap (a1.toNat : Int) = a1.toNat := IntWalk.u16_in _ (by omega)
  have wa2 : IntKind.u16.wrap (a2.toNat : Int) = a2.toNat := IntWalk.u16_in _ (by omega)
  have wa3 : IntKind.u16.wrap ((a1.toNat : Int) * 256) = (a1.toNat : Int) * 256 := IntWalk.u16_in _ (by omega)
  have wa4 : IntKind.u16.wrap ((a1.toNat : Int) * 256 + a2.toNat) = (a1.toNat : Int) * 256 + a2.toNat := IntWalk.u16_in _ (by omega)
  have ia : IntKind.i64.wrap (3 + 1) = 4 := by decide
  clear hfind hf hk ha hb hmay hm hext tf to tkk ta1 ta2
  go_enter Tryd.func36, Tryd.ntmps36
  go_wp2_with fail
  refine (HF.out _).mono ?_
  rintro e w1 ⟨rfl, hb1⟩
  obtain ⟨a0, a1', a2', a3, a4, s0⟩ := opBoxOnly hb1
  obtain ⟨z0, z1, z2, z3, z4⟩ := opBoxFr hb1
  have hfr1 : Fr w w1 := Fr.trans ((Fr.refl w).alloc _) hb1
  have s01 : w.heap.size < w1.heap.size + 1 := by omega
  have s02 : w.heap.size < w1.heap.size + 1 + 1 := by omega
  have hne1 : w1.heap.size ≠ w.heap.size := by omega
  have s12 : w1.heap.size < w1.heap.size + 1 + 1 := by omega
  clear hb1
  go_wp2_with fail
  go_region
  go_wp2_with fail
  go_region
  go_wp2_with fail
  refine (HM.out _).mono ?_
  rintro e w2 ⟨rfl, hb2⟩
  have x0 := hb2.cell (w1.heap.size + 1) 0 (by simp)
  have x1 := hb2.cell (w1.heap.size + 1) 1 (by simp)
  have x2 := hb2.cell (w1.heap.size + 1) 2 (by simp)
  have x3 := hb2.cell (w1.heap.size + 1) 3 (by simp)
  have x4 := hb2.cell (w1.heap.size + 1) 4 (by simp)
  simp at x0 x1 x2 x3 x4
  have hb12 : Fr w1 w2 := Fr.trans (by repeat (with_reducible first | exact Fr.refl _ | apply Fr.drew | apply Fr.alloc)) hb2
  have b0 := hb12.keep a0
  have b1' := hb12.keep a1'
  have b2' := hb12.keep a2'
  have b3 := hb12.keep a3
  have b4 := hb12.keep a4
  have y0 := (hb12.frozen _ 0 s0).trans z0
  have y1 := (hb12.frozen _ 1 s0).trans z1
  have y2 := (hb12.frozen _ 2 s0).trans z2
  have y3 := (hb12.frozen _ 3 s0).trans z3
  have y4 := (hb12.frozen _ 4 s0).trans z4
  have hfr2 : Fr w w2 := hfr1.trans hb12
  have s2 : w.heap.size < w2.heap.size := lt_of_cell b0
  clear a0 a1' a2' a3 a4 z0 z1 z2 z3 z4 s0 s01 s02 s12 hne1 hb12 hfr1 hb2 wa1 wa2 wa3 wa4 ia
  cases m
  · go_wp2
    refine bodyPost_ret (v := .tuple #[.agg #[.int .u8 0, .int .u8 0, .int .u8 0, .int .u16 0, .int .u16 0], .string ⟨#[]⟩, .int .i64 4]) (by simp [results, Tryd.results36, go_sem, b0, b1', b2', b3, b4, s2]) rfl ⟨rfl, ?_⟩
    repeat (with_reducible first | assumption | apply Fr.drew | apply Fr.alloc | refine Fr.setCell ?_ (by simp) _)
  · go_wp2_with fail
    go_region
    go_wp2_with fail
    refine bodyPost_ret (v := .tuple #[.agg #[.int .u8 f.toNat, .int .u8 o.toNat, .int .u8 (kk.toNat : Nat), .int .u16 ((a1.toNat * 256 + a2.toNat) : Nat), .int .u16 (0 : Nat)], .string ((⟨(f :: o :: kk :: a1 :: a2 :: r).toArray⟩ : ByteArray).extract 5 (r.length + 1 + 1 + 1 + 1 + 1)), .int .i64 0]) (by simp [results, Tryd.results36, go_sem, b0, b1', b2', b3, b4, s2]) rfl ⟨by rw [HEX.out]; rfl, ?_⟩
    repeat (with_reducible first | assumption | apply Fr.drew | apply Fr.alloc | refine Fr.setCell ?_ (by simp) _)

set_option maxHeartbeats 4000000 in
set_option maxRecDepth 100000 in
theorem rTake_6 (f o a1 a2 b1 b2 : UInt8) (r : List UInt8) (w : World) (hf : 1 ≤ f.toNat ∧ f.toNat ≤ 11) (hk : hasK f.toNat = false) (ha : hasA f.toNat = true) (hb : hasB f.toNat = true) (hbig : r.length ≤ 140737488355328) (m : Bool) (hm : mayB f.toNat o.toNat (0 : Nat) ((a1.toNat * 256 + a2.toNat) : Nat) ((b1.toNat * 256 + b2.toNat) : Nat) = m) :
    Calls Tryd.prog 36 #[.string ⟨(f :: o :: a1 :: a2 :: b1 :: b2 :: r).toArray⟩] w fun e w' => e = .returned (if m then .tuple #[.agg #[.int .u8 f.toNat, .int .u8 o.toNat, .int .u8 (0 : Nat), .int .u16 ((a1.toNat * 256 + a2.toNat) : Nat), .int .u16 ((b1.toNat * 256 + b2.toNat) : Nat)], .string ⟨r.toArray⟩, .int .i64 0] else .tuple #[.agg #[.int .u8 0, .int .u8 0, .int .u8 0, .int .u16 0, .int .u16 0], .string ⟨#[]⟩, .int .i64 4]) ∧ Fr w w' := by
  have hfind := fun W => rOf_yes (f.toNat : Int) W (by omega) (by omega)
  rw [hk, ha, hb] at hfind
  have HF := Lib.hid hfind
  have tf := f.toNat_lt
  have to := o.toNat_lt
  have ta1 := a1.toNat_lt
  have ta2 := a2.toNat_lt
  have tb1 := b1.toNat_lt
  have tb2 := b2.toNat_lt
  have hmay := fun W => rMay_c f.toNat o.toNat (0 : Nat) ((a1.toNat * 256 + a2.toNat) : Nat) ((b1.toNat * 256 + b2.toNat) : Nat) W (by omega)
  rw [hm] at hmay
  have HM := Lib.hid hmay
  have hsz := size_mk (f :: o :: a1 :: a2 :: b1 :: b2 :: r)
  have g0 : ∀ hh, ((⟨(f :: o :: a1 :: a2 :: b1 :: b2 :: r).toArray⟩ : ByteArray)[0]'hh) = f := fun _ => rfl
  have g1 : ∀ hh, ((⟨(f :: o :: a1 :: a2 :: b1 :: b2 :: r).toArray⟩ : ByteArray)[1]'hh) = o := fun _ => rfl
  have g2 : ∀ hh, ((⟨(f :: o :: a1 :: a2 :: b1 :: b2 :: r).toArray⟩ : ByteArray)[2]'hh) = a1 := fun _ => rfl
  have g3 : ∀ hh, ((⟨(f :: o :: a1 :: a2 :: b1 :: b2 :: r).toArray⟩ : ByteArray)[3]'hh) = a2 := fun _ => rfl
  have g4 : ∀ hh, ((⟨(f :: o :: a1 :: a2 :: b1 :: b2 :: r).toArray⟩ : ByteArray)[4]'hh) = b1 := fun _ => rfl
  have g5 : ∀ hh, ((⟨(f :: o :: a1 :: a2 :: b1 :: b2 :: r).toArray⟩ : ByteArray)[5]'hh) = b2 := fun _ => rfl
  have hext : (⟨(f :: o :: a1 :: a2 :: b1 :: b2 :: r).toArray⟩ : ByteArray).extract 6 (r.length + 1 + 1 + 1 + 1 + 1 + 1) = ⟨r.toArray⟩ := by apply ByteArray.ext; simp [ByteArray.data_extract]
  have HEX := Lib.hid hext
  have wa1 : IntKind.u16.wrap (a1.toNat : Int) = a1.toNat := IntWalk.u16_in _ (by omega)
  have wa2 : IntKind.u16.wrap (a2.toNat : Int) = a2.toNat := IntWalk.u16_in _ (by omega)
  have wa3 : IntKind.u16.wrap ((a1.toNat : Int) * 256) = (a1.toNat : Int) * 256 := IntWalk.u16_in _ (by omega)
  have wa4 : IntKind.u16.wrap ((a1.toNat : Int) * 256 + a2.toNat) = (a1.toNat : Int) * 256 + a2.toNat := IntWalk.u16_in _ (by omega)
  have wb1 : IntKind.u16.wrap (b1.toNat : Int) = b1.toNat := IntWalk.u16_in _ (by omega)
  have wb2 : IntKind.u16.wrap (b2.toNat : Int) = b2.toNat := IntWalk.u16_in _ (by omega)
  have wb3 : IntKind.u16.wrap ((b1.toNat : Int) * 256) = (b1.toNat : Int) * 256 := IntWalk.u16_in _ (by omega)
  have wb4 : IntKind.u16.wrap ((b1.toNat : Int) * 256 + b2.toNat) = (b1.toNat : Int) * 256 + b2.toNat := IntWalk.u16_in _ (by omega)
  have ia : IntKind.i64.wrap (2 + 1) = 3 := by decide
  have ib : IntKind.i64.wrap (4 + 1) = 5 := by decide
  clear hfind hf hk ha hb hmay hm hext tf to ta1 ta2 tb1 tb2
  go_enter Tryd.func36, Tryd.ntmps36
  go_wp2_with fail
  refine (HF.out _).mono ?_
  rintro e w1 ⟨rfl, hb1⟩
  obtain ⟨a0, a1', a2', a3, a4, s0⟩ := opBoxOnly hb1
  obtain ⟨z0, z1, z2, z3, z4⟩ := opBoxFr hb1
  have hfr1 : Fr w w1 := Fr.trans ((Fr.refl w).alloc _) hb1
  have s01 : w.heap.size < w1.heap.size + 1 := by omega
  have s02 : w.heap.size < w1.heap.size + 1 + 1 := by omega
  have hne1 : w1.heap.size ≠ w.heap.size := by omega
  have s12 : w1.heap.size < w1.heap.size + 1 + 1 := by omega
  clear hb1
  go_wp2_with fail
  go_region
  go_wp2_with fail
  go_region
  go_wp2_with fail
  go_region
  go_wp2_with fail
  refine (HM.out _).mono ?_
  rintro e w2 ⟨rfl, hb2⟩
  have x0 := hb2.cell (w1.heap.size + 1) 0 (by simp)
  have x1 := hb2.cell (w1.heap.size + 1) 1 (by simp)
  have x2 := hb2.cell (w1.heap.size + 1) 2 (by simp)
  have x3 := hb2.cell (w1.heap.size + 1) 3 (by simp)
  have x4 := hb2.cell (w1.heap.size + 1) 4 (by simp)
  simp at x0 x1 x2 x3 x4
  have hb12 : Fr w1 w2 := Fr.trans (by repeat (with_reducible first | exact Fr.refl _ | apply Fr.drew | apply Fr.alloc)) hb2
  have b0 := hb12.keep a0
  have b1' := hb12.keep a1'
  have b2' := hb12.keep a2'
  have b3 := hb12.keep a3
  have b4 := hb12.keep a4
  have y0 := (hb12.frozen _ 0 s0).trans z0
  have y1 := (hb12.frozen _ 1 s0).trans z1
  have y2 := (hb12.frozen _ 2 s0).trans z2
  have y3 := (hb12.frozen _ 3 s0).trans z3
  have y4 := (hb12.frozen _ 4 s0).trans z4
  have hfr2 : Fr w w2 := hfr1.trans hb12
  have s2 : w.heap.size < w2.heap.size := lt_of_cell b0
  clear a0 a1' a2' a3 a4 z0 z1 z2 z3 z4 s0 s01 s02 s12 hne1 hb12 hfr1 hb2 wa1 wa2 wa3 wa4 wb1 wb2 wb3 wb4 ia ib
  cases m
  · go_wp2
    refine bodyPost_ret (v := .tuple #[.agg #[.int .u8 0, .int .u8 0, .int .u8 0, .int .u16 0, .int .u16 0], .string ⟨#[]⟩, .int .i64 4]) (by simp [results, Tryd.results36, go_sem, b0, b1', b2', b3, b4, s2]) rfl ⟨rfl, ?_⟩
    repeat (with_reducible first | assumption | apply Fr.drew | apply Fr.alloc | refine Fr.setCell ?_ (by simp) _)
  · go_wp2_with fail
    go_region
    go_wp2_with fail
    refine bodyPost_ret (v := .tuple #[.agg #[.int .u8 f.toNat, .int .u8 o.toNat, .int .u8 (0 : Nat), .int .u16 ((a1.toNat * 256 + a2.toNat) : Nat), .int .u16 ((b1.toNat * 256 + b2.toNat) : Nat)], .string ((⟨(f :: o :: a1 :: a2 :: b1 :: b2 :: r).toArray⟩ : ByteArray).extract 6 (r.length + 1 + 1 + 1 + 1 + 1 + 1)), .int .i64 0]) (by simp [results, Tryd.results36, go_sem, b0, b1', b2', b3, b4, s2]) rfl ⟨by rw [HEX.out]; rfl, ?_⟩
    repeat (with_reducible first | assumption | apply Fr.drew | apply Fr.alloc | refine Fr.setCell ?_ (by simp) _)

set_option maxHeartbeats 4000000 in
set_option maxRecDepth 100000 in
theorem rTake_7 (f o kk a1 a2 b1 b2 : UInt8) (r : List UInt8) (w : World) (hf : 1 ≤ f.toNat ∧ f.toNat ≤ 11) (hk : hasK f.toNat = true) (ha : hasA f.toNat = true) (hb : hasB f.toNat = true) (hbig : r.length ≤ 140737488355328) (m : Bool) (hm : mayB f.toNat o.toNat (kk.toNat : Nat) ((a1.toNat * 256 + a2.toNat) : Nat) ((b1.toNat * 256 + b2.toNat) : Nat) = m) :
    Calls Tryd.prog 36 #[.string ⟨(f :: o :: kk :: a1 :: a2 :: b1 :: b2 :: r).toArray⟩] w fun e w' => e = .returned (if m then .tuple #[.agg #[.int .u8 f.toNat, .int .u8 o.toNat, .int .u8 (kk.toNat : Nat), .int .u16 ((a1.toNat * 256 + a2.toNat) : Nat), .int .u16 ((b1.toNat * 256 + b2.toNat) : Nat)], .string ⟨r.toArray⟩, .int .i64 0] else .tuple #[.agg #[.int .u8 0, .int .u8 0, .int .u8 0, .int .u16 0, .int .u16 0], .string ⟨#[]⟩, .int .i64 4]) ∧ Fr w w' := by
  have hfind := fun W => rOf_yes (f.toNat : Int) W (by omega) (by omega)
  rw [hk, ha, hb] at hfind
  have HF := Lib.hid hfind
  have tf := f.toNat_lt
  have to := o.toNat_lt
  have tkk := kk.toNat_lt
  have ta1 := a1.toNat_lt
  have ta2 := a2.toNat_lt
  have tb1 := b1.toNat_lt
  have tb2 := b2.toNat_lt
  have hmay := fun W => rMay_c f.toNat o.toNat (kk.toNat : Nat) ((a1.toNat * 256 + a2.toNat) : Nat) ((b1.toNat * 256 + b2.toNat) : Nat) W (by omega)
  rw [hm] at hmay
  have HM := Lib.hid hmay
  have hsz := size_mk (f :: o :: kk :: a1 :: a2 :: b1 :: b2 :: r)
  have g0 : ∀ hh, ((⟨(f :: o :: kk :: a1 :: a2 :: b1 :: b2 :: r).toArray⟩ : ByteArray)[0]'hh) = f := fun _ => rfl
  have g1 : ∀ hh, ((⟨(f :: o :: kk :: a1 :: a2 :: b1 :: b2 :: r).toArray⟩ : ByteArray)[1]'hh) = o := fun _ => rfl
  have g2 : ∀ hh, ((⟨(f :: o :: kk :: a1 :: a2 :: b1 :: b2 :: r).toArray⟩ : ByteArray)[2]'hh) = kk := fun _ => rfl
  have g3 : ∀ hh, ((⟨(f :: o :: kk :: a1 :: a2 :: b1 :: b2 :: r).toArray⟩ : ByteArray)[3]'hh) = a1 := fun _ => rfl
  have g4 : ∀ hh, ((⟨(f :: o :: kk :: a1 :: a2 :: b1 :: b2 :: r).toArray⟩ : ByteArray)[4]'hh) = a2 := fun _ => rfl
  have g5 : ∀ hh, ((⟨(f :: o :: kk :: a1 :: a2 :: b1 :: b2 :: r).toArray⟩ : ByteArray)[5]'hh) = b1 := fun _ => rfl
  have g6 : ∀ hh, ((⟨(f :: o :: kk :: a1 :: a2 :: b1 :: b2 :: r).toArray⟩ : ByteArray)[6]'hh) = b2 := fun _ => rfl
  have hext : (⟨(f :: o :: kk :: a1 :: a2 :: b1 :: b2 :: r).toArray⟩ : ByteArray).extract 7 (r.length + 1 + 1 + 1 + 1 + 1 + 1 + 1) = ⟨r.toArray⟩ := by apply ByteArray.ext; simp [ByteArray.data_extract]
  have HEX := Lib.hid hext
  have wa1 : IntKind.u16.wrap (a1.toNat : Int) = a1.toNat := IntWalk.u16_in _ (by omega)
  have wa2 : IntKind.u16.wrap (a2.toNat : Int) = a2.toNat := IntWalk.u16_in _ (by omega)
  have wa3 : IntKind.u16.wrap ((a1.toNat : Int) * 256) = (a1.toNat : Int) * 256 := IntWalk.u16_in _ (by omega)
  have wa4 : IntKind.u16.wrap ((a1.toNat : Int) * 256 + a2.toNat) = (a1.toNat : Int) * 256 + a2.toNat := IntWalk.u16_in _ (by omega)
  have wb1 : IntKind.u16.wrap (b1.toNat : Int) = b1.toNat := IntWalk.u16_in _ (by omega)
  have wb2 : IntKind.u16.wrap (b2.toNat : Int) = b2.toNat := IntWalk.u16_in _ (by omega)
  have wb3 : IntKind.u16.wrap ((b1.toNat : Int) * 256) = (b1.toNat : Int) * 256 := IntWalk.u16_in _ (by omega)
  have wb4 : IntKind.u16.wrap ((b1.toNat : Int) * 256 + b2.toNat) = (b1.toNat : Int) * 256 + b2.toNat := IntWalk.u16_in _ (by omega)
  have ia : IntKind.i64.wrap (3 + 1) = 4 := by decide
  have ib : IntKind.i64.wrap (5 + 1) = 6 := by decide
  clear hfind hf hk ha hb hmay hm hext tf to tkk ta1 ta2 tb1 tb2
  go_enter Tryd.func36, Tryd.ntmps36
  go_wp2_with fail
  refine (HF.out _).mono ?_
  rintro e w1 ⟨rfl, hb1⟩
  obtain ⟨a0, a1', a2', a3, a4, s0⟩ := opBoxOnly hb1
  obtain ⟨z0, z1, z2, z3, z4⟩ := opBoxFr hb1
  have hfr1 : Fr w w1 := Fr.trans ((Fr.refl w).alloc _) hb1
  have s01 : w.heap.size < w1.heap.size + 1 := by omega
  have s02 : w.heap.size < w1.heap.size + 1 + 1 := by omega
  have hne1 : w1.heap.size ≠ w.heap.size := by omega
  have s12 : w1.heap.size < w1.heap.size + 1 + 1 := by omega
  clear hb1
  go_wp2_with fail
  go_region
  go_wp2_with fail
  go_region
  go_wp2_with fail
  go_region
  go_wp2_with fail
  refine (HM.out _).mono ?_
  rintro e w2 ⟨rfl, hb2⟩
  have x0 := hb2.cell (w1.heap.size + 1) 0 (by simp)
  have x1 := hb2.cell (w1.heap.size + 1) 1 (by simp)
  have x2 := hb2.cell (w1.heap.size + 1) 2 (by simp)
  have x3 := hb2.cell (w1.heap.size + 1) 3 (by simp)
  have x4 := hb2.cell (w1.heap.size + 1) 4 (by simp)
  simp at x0 x1 x2 x3 x4
  have hb12 : Fr w1 w2 := Fr.trans (by repeat (with_reducible first | exact Fr.refl _ | apply Fr.drew | apply Fr.alloc)) hb2
  have b0 := hb12.keep a0
  have b1' := hb12.keep a1'
  have b2' := hb12.keep a2'
  have b3 := hb12.keep a3
  have b4 := hb12.keep a4
  have y0 := (hb12.frozen _ 0 s0).trans z0
  have y1 := (hb12.frozen _ 1 s0).trans z1
  have y2 := (hb12.frozen _ 2 s0).trans z2
  have y3 := (hb12.frozen _ 3 s0).trans z3
  have y4 := (hb12.frozen _ 4 s0).trans z4
  have hfr2 : Fr w w2 := hfr1.trans hb12
  have s2 : w.heap.size < w2.heap.size := lt_of_cell b0
  clear a0 a1' a2' a3 a4 z0 z1 z2 z3 z4 s0 s01 s02 s12 hne1 hb12 hfr1 hb2 wa1 wa2 wa3 wa4 wb1 wb2 wb3 wb4 ia ib
  cases m
  · go_wp2
    refine bodyPost_ret (v := .tuple #[.agg #[.int .u8 0, .int .u8 0, .int .u8 0, .int .u16 0, .int .u16 0], .string ⟨#[]⟩, .int .i64 4]) (by simp [results, Tryd.results36, go_sem, b0, b1', b2', b3, b4, s2]) rfl ⟨rfl, ?_⟩
    repeat (with_reducible first | assumption | apply Fr.drew | apply Fr.alloc | refine Fr.setCell ?_ (by simp) _)
  · go_wp2_with fail
    go_region
    go_wp2_with fail
    refine bodyPost_ret (v := .tuple #[.agg #[.int .u8 f.toNat, .int .u8 o.toNat, .int .u8 (kk.toNat : Nat), .int .u16 ((a1.toNat * 256 + a2.toNat) : Nat), .int .u16 ((b1.toNat * 256 + b2.toNat) : Nat)], .string ((⟨(f :: o :: kk :: a1 :: a2 :: b1 :: b2 :: r).toArray⟩ : ByteArray).extract 7 (r.length + 1 + 1 + 1 + 1 + 1 + 1 + 1)), .int .i64 0]) (by simp [results, Tryd.results36, go_sem, b0, b1', b2', b3, b4, s2]) rfl ⟨by rw [HEX.out]; rfl, ?_⟩
    repeat (with_reducible first | assumption | apply Fr.drew | apply Fr.alloc | refine Fr.setCell ?_ (by simp) _)
end Go.Proofs.YthaocbmkkgeomaaDoor

/- umpireref04.Take, whole: what 'takeOp' tells. -/
namespace Go.Proofs.YthaocbmkkgeomaaDoor
open Go.RowKit

theorem hasKAB {F : Nat} (h0 : 1 ≤ F) (h1 : F ≤ 11) : (hasK F = false ∧ hasA F = false ∧ hasB F = false) ∨ (hasK F = true ∧ hasA F = false ∧ hasB F = false) ∨ (hasK F = false ∧ hasA F = true ∧ hasB F = false) ∨ (hasK F = true ∧ hasA F = true ∧ hasB F = false) ∨ (hasK F = false ∧ hasA F = true ∧ hasB F = true) ∨ (hasK F = true ∧ hasA F = true ∧ hasB F = true) := by
  rcases kNeeds_cases (f := F) (by omega) (by omega) with h | h | h | h | h | h <;> simp only [hasK, hasA, hasB, h] <;> decide
theorem takeOp_torn {k a b : Bool} {f : UInt8} {s : List UInt8} (hf : 1 ≤ f.toNat ∧ f.toNat ≤ 11) (hk : hasK f.toNat = k) (ha : hasA f.toNat = a) (hb : hasB f.toNat = b) (hl : s.length < 1 + b2n k 1 + b2n a 2 + b2n b 2) : takeOp (f :: s) = (.zero, [], 5) := by
  have hn : ¬ (f.toNat = 0 ∨ 12 ≤ f.toNat) := by omega
  rw [takeOp, if_neg hn, hk, ha, hb]
  clear hk ha hb hn hf
  rcases s with _ | ⟨o, _ | ⟨x1, _ | ⟨x2, _ | ⟨x3, _ | ⟨x4, _ | ⟨x5, s⟩⟩⟩⟩⟩⟩ <;> cases k <;> cases a <;> cases b <;> first | (exfalso; simp [b2n] at hl; done) | (exfalso; simp [b2n] at hl; omega) | simp [tk]
theorem tk_no (n : Nat) (r : List UInt8) : tk n false r = some (0, r) := by simp [tk]
theorem tk_one (c : UInt8) (r : List UInt8) : tk 1 true (c :: r) = some (c.toNat, r) := by simp [tk, ofBe]
theorem tk_two (c d : UInt8) (r : List UInt8) : tk 2 true (c :: d :: r) = some (c.toNat * 256 + d.toNat, r) := by
  have h : ¬ (c :: d :: r).length < 2 := by simp
  simp only [tk, if_true, if_neg h]; simp [ofBe]
def TakesOp (l : List UInt8) (w : World) : Prop :=
    Calls Tryd.prog 36 #[.string ⟨l.toArray⟩] w fun e w' => e = .returned (.tuple #[(takeOp l).1.val, .string ⟨(takeOp l).2.1.toArray⟩, .int .i64 (takeOp l).2.2]) ∧ Fr w w'
theorem takesOp_of {l : List UInt8} {w : World} {m : Bool} {F O K A B : Nat} {r : List UInt8} (he : takeOp l = if (OpD.mk F O K A B).may then (⟨F, O, K, A, B⟩, r, 0) else (.zero, [], 4)) (hm : mayB F O K A B = m)
    (h : Calls Tryd.prog 36 #[.string ⟨l.toArray⟩] w fun e w' => e = .returned (if m then .tuple #[.agg #[.int .u8 F, .int .u8 O, .int .u8 K, .int .u16 A, .int .u16 B], .string ⟨r.toArray⟩, .int .i64 0] else .tuple #[.agg #[.int .u8 0, .int .u8 0, .int .u8 0, .int .u16 0, .int .u16 0], .string ⟨#[]⟩, .int .i64 4]) ∧ Fr w w') : TakesOp l w := by
  have e : (OpD.mk F O K A B).may = m := hm
  unfold TakesOp
  rw [he, e]
  cases m <;> exact h
theorem rTake_c (l : List UInt8) (w : World) (hbig : l.length ≤ 140737488355328) : TakesOp l w := by
  match l, hbig with
  | [], _ => exact rTake_nil w
  | f :: s, hbig =>
    by_cases hn : f.toNat = 0 ∨ 12 ≤ f.toNat
    · unfold TakesOp
      rw [takeOp, if_pos hn]
      exact rTake_none f s w hn
    · have hf : 1 ≤ f.toNat ∧ f.toNat ≤ 11 := by omega
      by_cases hl : s.length < 1 + b2n (hasK f.toNat) 1 + b2n (hasA f.toNat) 2 + b2n (hasB f.toNat) 2
      · unfold TakesOp
        rw [takeOp_torn hf rfl rfl rfl hl]
        exact rTake_torn _ _ _ f s w hf rfl rfl rfl hl
      · simp only [List.length_cons] at hbig
        rcases hasKAB hf.1 hf.2 with ⟨hk, ha, hb⟩ | ⟨hk, ha, hb⟩ | ⟨hk, ha, hb⟩ | ⟨hk, ha, hb⟩ | ⟨hk, ha, hb⟩ | ⟨hk, ha, hb⟩ <;> simp only [hk, ha, hb, b2n, if_true, if_false, Bool.false_eq_true] at hl
        · match s, hl with
          | [], hl => simp at hl
          | o :: r, hl => exact takesOp_of (by rw [takeOp, if_neg hn, hk, ha, hb]; simp only [tk_no, tk_one, tk_two]) rfl (rTake_0 f o r w hf hk ha hb (by simp at hbig; omega) _ rfl)
        · match s, hl with
          | [], hl => simp at hl
          | [o], hl => simp at hl
          | o :: kk :: r, hl => exact takesOp_of (by rw [takeOp, if_neg hn, hk, ha, hb]; simp only [tk_no, tk_one, tk_two]) rfl (rTake_1 f o kk r w hf hk ha hb (by simp at hbig; omega) _ rfl)
        · match s, hl with
          | [], hl => simp at hl
          | [o], hl => simp at hl
          | [o, a1], hl => simp at hl
          | o :: a1 :: a2 :: r, hl => exact takesOp_of (by rw [takeOp, if_neg hn, hk, ha, hb]; simp only [tk_no, tk_one, tk_two]) rfl (rTake_2 f o a1 a2 r w hf hk ha hb (by simp at hbig; omega) _ rfl)
        · match s, hl with
          | [], hl => simp at hl
          | [o], hl => simp at hl
          | [o, kk], hl => simp at hl
          | [o, kk, a1], hl => simp at hl
          | o :: kk :: a1 :: a2 :: r, hl => exact takesOp_of (by rw [takeOp, if_neg hn, hk, ha, hb]; simp only [tk_no, tk_one, tk_two]) rfl (rTake_3 f o kk a1 a2 r w hf hk ha hb (by simp at hbig; omega) _ rfl)
        · match s, hl with
          | [], hl => simp at hl
          | [o], hl => simp at hl
          | [o, a1], hl => simp at hl
          | [o, a1, a2], hl => simp at hl
          | [o, a1, a2, b1], hl => simp at hl
          | o :: a1 :: a2 :: b1 :: b2 :: r, hl => exact takesOp_of (by rw [takeOp, if_neg hn, hk, ha, hb]; simp only [tk_no, tk_one, tk_two]) rfl (rTake_6 f o a1 a2 b1 b2 r w hf hk ha hb (by simp at hbig; omega) _ rfl)
        · match s, hl with
          | [], hl => simp at hl
          | [o], hl => simp at hl
          | [o, kk], hl => simp at hl
          | [o, kk, a1], hl => simp at hl
          | [o, kk, a1, a2], hl => simp at hl
          | [o, kk, a1, a2, b1], hl => simp at hl
          | o :: kk :: a1 :: a2 :: b1 :: b2 :: r, hl => exact takesOp_of (by rw [takeOp, if_neg hn, hk, ha, hb]; simp only [tk_no, tk_one, tk_two]) rfl (rTake_7 f o kk a1 a2 b1 b2 r w hf hk ha hb (by simp at hbig; omega) _ rfl)
end Go.Proofs.YthaocbmkkgeomaaDoor
