/- The walks of umpireref04: an operation's bytes, and the operation that bytes begin with. No condition but the numbers' bounds. -/
import Derived.Test.YthaocbmkkgeomaaDoorPRefOp
import Derived.Test.YthaocbmkkgeomaaDoorPOpTake
import Derived.Test.YthaocbmkkgeomaaDoorPReader
set_option linter.all false
set_option linter.unusedVariables false
set_option linter.unusedSimpArgs false
set_option linter.unnecessarySimpa false
/- The walks of umpireref04: an operation's bytes, and the operation that bytes begin with. No condition but the numbers' bounds. -/
namespace Go.Proofs.YthaocbmkkgeomaaDoor
open Go.RowKit

theorem two_c (n : Nat) (w : World) (hn : n < 65536) :
    Calls Tryd.prog 73 #[.int .u16 n] w fun e w' => e = .returned (.string ⟨(be n 2).toArray⟩) ∧ Fr w w' := by
  have HB := Lib.hid (two_bytes n)
  go_enter Tryd.func73, Tryd.ntmps73
  go_wp2
  go_ret
  exact ⟨by rw [HB.out, ← ofNat_mod n]; exact ret_str (by simp), (Fr.refl _).alloc _⟩

theorem rPut_no (F O K A B : Nat) (w : World) (hF : F ≤ 255) (hm : mayB F O K A B = false) :
    Calls Tryd.prog 44 #[.agg #[.int .u8 F, .int .u8 O, .int .u8 K, .int .u16 A, .int .u16 B]] w fun e w' => e = .returned (.tuple #[.string ⟨#[]⟩, .int .i64 4]) ∧ Fr w w' := by
  have HM := Lib.hid hm
  clear hm
  go_enter Tryd.func44, Tryd.ntmps44
  go_wp2_with (go_at_call 68; refine (rMay_c F O K A B _ hF).mono ?_; rw [HM.out]; rintro e w1 ⟨rfl, hb⟩)
  go_ret2
  exact ⟨rfl, by repeat (first | exact Fr.refl _ | assumption | apply Fr.alloc | refine Fr.trans ?_ (by assumption))⟩
theorem opBoxOnly {w wi : World} {c0 c1 c2 c3 c4 : Value} {t : TypeId} (h : Fr (w.alloc (.cells #[c0, c1, c2, c3, c4] t)) wi) :
    wi.cell? ⟨w.heap.size, 0, none⟩ = some c0 ∧ wi.cell? ⟨w.heap.size, 1, none⟩ = some c1 ∧ wi.cell? ⟨w.heap.size, 2, none⟩ = some c2 ∧ wi.cell? ⟨w.heap.size, 3, none⟩ = some c3 ∧ wi.cell? ⟨w.heap.size, 4, none⟩ = some c4 ∧ w.heap.size < wi.heap.size := by
  have e : ∀ o, wi.cell? ⟨w.heap.size, o, none⟩ = #[c0, c1, c2, c3, c4][o]? := fun o => by
    rw [h.cell _ _ (by simp), World.cell?_alloc_new]
  exact ⟨by rw [e]; rfl, by rw [e]; rfl, by rw [e]; rfl, by rw [e]; rfl, by rw [e]; rfl, h.size1⟩
theorem ret_str2 {a : ByteArray} {l : List UInt8} {v : Value} (h : a.data.toList = l) : Ending.returned (.tuple #[.string a, v]) = Ending.returned (.tuple #[.string ⟨l.toArray⟩, v]) := by subst h; simp
theorem opBytes_of {F O K A B : Nat} {k a b : Bool} (hk : hasK F = k) (ha : hasA F = a) (hb : hasB F = b) : opBytes F O K A B = [UInt8.ofNat F, UInt8.ofNat O] ++ (if k then [UInt8.ofNat K] else []) ++ (if a then be A 2 else []) ++ (if b then be B 2 else []) := by
  subst hk ha hb; rfl
set_option maxHeartbeats 1000000 in
set_option maxRecDepth 100000 in
theorem rPut_yes (k a b : Bool) (F O K A B : Nat) (w : World) (hA : A < 65536) (hB : B < 65536) (hm : mayB F O K A B = true) (hk : hasK F = k) (ha : hasA F = a) (hb : hasB F = b) :
    Calls Tryd.prog 44 #[.agg #[.int .u8 F, .int .u8 O, .int .u8 K, .int .u16 A, .int .u16 B]] w fun e w' => e = .returned (.tuple #[.string ⟨(opBytes F O K A B).toArray⟩, .int .i64 0]) ∧ Fr w w' := by
  obtain ⟨h0, h1, _, _⟩ := mayB_F hm
  have hof := fun W => rOf_yes F W h0 h1
  have hmay := fun W => rMay_c F O K A B W (by omega)
  rw [hm] at hmay
  have HM := Lib.hid hmay
  have hla := be_len A 2
  have hlb := be_len B 2
  have hbb := opBytes_of (O := O) (K := K) (A := A) (B := B) hk ha hb
  rw [hk, ha, hb] at hof
  have HO := Lib.hid hof
  clear hof hmay hm hk ha hb h0 h1
  cases k <;> cases a <;> cases b
  all_goals
    simp only [if_true, if_false, Bool.false_eq_true, List.append_nil] at hbb
    have HBB := Lib.hid hbb
    clear hbb
    go_enter Tryd.func44, Tryd.ntmps44
    go_wp2_with fail
    refine (HM.out _).mono ?_
    rintro e w1 ⟨rfl, hb1⟩
    obtain ⟨b0, b1, b2, b3, b4, s0⟩ := opBoxOnly hb1
    go_wp2_with fail
    refine (HO.out _).mono ?_
    rintro e w2 ⟨rfl, hb2⟩
    have hb12 := hb1.trans hb2
    have hf2 : Fr w w2 := Fr.trans ((Fr.refl _).alloc _) hb12
    clear b0 b1 b2 b3 b4 s0 hb1 hb2
    obtain ⟨b0, b1, b2, b3, b4, s0⟩ := opBoxOnly hb12
    clear hb12
    have s01 : w.heap.size < w2.heap.size + 1 := by omega
    have s02 : w.heap.size < w2.heap.size + 1 + 1 := by omega
    have s03 : w.heap.size < w2.heap.size + 1 + 1 + 1 := by omega
    have s12 : w2.heap.size < w2.heap.size + 1 + 1 := by omega
    have s13 : w2.heap.size < w2.heap.size + 1 + 1 + 1 := by omega
    go_wp2_with (go_at_call 73; refine (two_c _ _ (by first | exact hA | exact hB)).mono ?_; rintro e w3 ⟨rfl, hb3⟩; have hc3 := hb3.cell; have hz3 := hb3.size; (try simp only [World.size_alloc] at hz3); have hz30 : w2.heap.size < w3.heap.size := (by omega); have hz31 : w.heap.size < w3.heap.size := (by omega))
    go_ret2
    refine ⟨?_, by repeat (with_reducible first | assumption | apply Fr.alloc | refine Fr.trans ?_ (by assumption))⟩
    rw [HBB.out]
    exact ret_str2 (by simp)
theorem rPut_c (F O K A B : Nat) (w : World) (hF : F ≤ 255) (hA : A < 65536) (hB : B < 65536) :
    Calls Tryd.prog 44 #[.agg #[.int .u8 F, .int .u8 O, .int .u8 K, .int .u16 A, .int .u16 B]] w fun e w' => e = .returned (.tuple #[.string ⟨(putOp F O K A B).1.toArray⟩, .int .i64 (putOp F O K A B).2]) ∧ Fr w w' := by
  unfold putOp
  cases hm : mayB F O K A B
  · exact rPut_no F O K A B w hF hm
  · exact rPut_yes _ _ _ F O K A B w hA hB hm rfl rfl rfl
end Go.Proofs.YthaocbmkkgeomaaDoor
