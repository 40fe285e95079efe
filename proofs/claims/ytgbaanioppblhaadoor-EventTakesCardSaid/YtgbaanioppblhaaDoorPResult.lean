/- The walks of umpire/result: Check, Put, Take. No condition but the numbers' bounds. -/
import Derived.Test.YtgbaanioppblhaaDoorPReader
import Derived.Test.YtgbaanioppblhaaDoorPBase
set_option linter.unusedVariables false
set_option linter.unusedSimpArgs false
/- The walks of umpire/result: Check, Put, Take. No condition but the numbers' bounds. -/
namespace Go.Proofs.YtgbaanioppblhaaDoor
open Go.RowKit

/-- May an answer be? -/
def goodB (K V : Nat) : Bool := K == 1 || (decide (K ≤ 4) && V == 0)
def checkRes (K V : Nat) : Nat := if goodB K V then 0 else 4
def resBytes (K V : Nat) : List UInt8 := if K = 1 then be 1 1 ++ be V 2 else be K 1
theorem res_cases (K V : Nat) : (4 < K ∧ goodB K V = false) ∨ (K = 1 ∧ goodB K V = true) ∨ (K ≤ 4 ∧ K ≠ 1 ∧ V = 0 ∧ goodB K V = true) ∨ (K ≤ 4 ∧ K ≠ 1 ∧ V ≠ 0 ∧ goodB K V = false) := by
  unfold goodB
  by_cases h1 : K = 1
  · simp [h1]
  · by_cases h2 : K ≤ 4
    · by_cases h3 : V = 0
      · simp [h1, h2, h3]
      · simp [h1, h2, h3]
    · simp [h1, h2]; omega

theorem resCheck_c (K V : Nat) (w : World) :
    Calls Tryd.prog 89 #[.agg #[.int .u8 K, .int .u16 V]] w fun e w' => e = .returned (.int .i64 (checkRes K V)) ∧ Fr w w' := by
  rcases res_cases K V with ⟨h, hg⟩ | ⟨h, hg⟩ | ⟨h, h1, h2, hg⟩ | ⟨h, h1, h2, hg⟩
  · have HC : Hid (checkRes K V = 4) := by simp [Hid, checkRes, hg]
    have h' : (4 : Int) < K := by omega
    clear hg h
    go_enter Tryd.func89, Tryd.ntmps89
    go_wp2
    go_ret
    exact ⟨by rw [HC.out]; rfl, (Fr.refl _).alloc _⟩
  · subst h
    have HC : Hid (checkRes 1 V = 0) := by simp [Hid, checkRes, hg]
    clear hg
    go_enter Tryd.func89, Tryd.ntmps89
    go_wp2
    go_ret
    exact ⟨by rw [HC.out]; rfl, (Fr.refl _).alloc _⟩
  · subst h2
    have HC : Hid (checkRes K 0 = 0) := by simp [Hid, checkRes, hg]
    have h' : ¬ (4 : Int) < K := by omega
    have h1' : ((K : Int) != 1) = true := by simp; omega
    clear hg h h1
    go_enter Tryd.func89, Tryd.ntmps89
    go_wp2
    go_ret
    exact ⟨by rw [HC.out]; rfl, (Fr.refl _).alloc _⟩
  · have HC : Hid (checkRes K V = 4) := by simp [Hid, checkRes, hg]
    have h' : ¬ (4 : Int) < K := by omega
    have h1' : ((K : Int) != 1) = true := by simp; omega
    have h2' : ((V : Int) != 0) = true := by simp; omega
    clear hg h h1 h2
    go_enter Tryd.func89, Tryd.ntmps89
    go_wp2
    go_ret
    exact ⟨by rw [HC.out]; rfl, (Fr.refl _).alloc _⟩
theorem rGood_c (K V : Nat) (w : World) :
    Calls Tryd.prog 32 #[.agg #[.int .u8 K, .int .u16 V]] w fun e w' => e = .returned (.bool (goodB K V)) ∧ Fr w w' := by
  rcases res_cases K V with ⟨h, hg⟩ | ⟨h, hg⟩ | ⟨h, h1, h2, hg⟩ | ⟨h, h1, h2, hg⟩
  · have HC := Lib.hid hg
    have h' : ¬ (K : Int) ≤ 4 := by omega
    have h1' : ((K : Int) == 1) = false := by simp; omega
    clear hg h
    go_enter Tryd.func32, Tryd.ntmps32
    go_wp2
    go_ret
    exact ⟨by rw [HC.out]; rfl, (Fr.refl _).alloc _⟩
  · subst h
    have HC := Lib.hid hg
    clear hg
    go_enter Tryd.func32, Tryd.ntmps32
    go_wp2
    go_ret
    exact ⟨by rw [HC.out]; rfl, (Fr.refl _).alloc _⟩
  · subst h2
    have HC := Lib.hid hg
    have h' : (K : Int) ≤ 4 := by omega
    have h1' : ((K : Int) == 1) = false := by simp; omega
    clear hg h h1
    go_enter Tryd.func32, Tryd.ntmps32
    go_wp2
    go_ret
    exact ⟨by rw [HC.out]; rfl, (Fr.refl _).alloc _⟩
  · have HC := Lib.hid hg
    have h' : (K : Int) ≤ 4 := by omega
    have h1' : ((K : Int) == 1) = false := by simp; omega
    have h2' : ((V : Int) == 0) = false := by simp; omega
    clear hg h h1 h2
    go_enter Tryd.func32, Tryd.ntmps32
    go_wp2
    go_ret
    exact ⟨by rw [HC.out]; rfl, (Fr.refl _).alloc _⟩

/-- What result.Put tells: the bytes, and 0; or none, and 4. -/
def putRes (K V : Nat) : List UInt8 × Nat := if goodB K V then (resBytes K V, 0) else ([], 4)
/-- A new writer. -/
theorem WrAt.new {w w1 : World} (hw : w1 = w.alloc (.cells #[.int .i64 0, .slice none 0 0] 60)) : WrAt w1 w.heap.size (.slice none 0 0) [] := by
  subst hw
  exact ⟨by simp, by simp, by simp, by simp, by simpa [byteCells] using World.ownsRow_nil _ _ _ _⟩
theorem Wrote.fr {p : Nat} {v : Value} {l l0 : List UInt8} {a w w' : World} (f : Fr a w) (h : Wrote p v l w w') (hw : WrAt w p v l0) (hp : a.heap.size ≤ p) : Fr a w' := f.trans' (Below.mono (h.below hw) hp)
theorem resPut_no (K V : Nat) (w : World) (hg : goodB K V = false) :
    Calls Tryd.prog 90 #[.agg #[.int .u8 K, .int .u16 V]] w fun e w' => e = .returned (.tuple #[.string ⟨#[]⟩, .int .i64 4]) ∧ Fr w w' := by
  have HC : Hid (checkRes K V = 4) := by simp [Hid, checkRes, hg]
  clear hg
  go_enter Tryd.func90, Tryd.ntmps90
  go_wp2_with fail
  refine (resCheck_c K V _).mono ?_
  rw [HC.out]
  rintro e w1 ⟨rfl, hb⟩
  go_wp2
  go_ret2
  exact ⟨rfl, Fr.trans ((Fr.refl _).alloc _) hb⟩
theorem resPut_yes (K V : Nat) (w : World) (hg : goodB K V = true) (hK : K < 256) (hV : V < 65536) :
    Calls Tryd.prog 90 #[.agg #[.int .u8 K, .int .u16 V]] w fun e w' => e = .returned (.tuple #[.string ⟨(resBytes K V).toArray⟩, .int .i64 0]) ∧ Fr w w' := by
  have HC : Hid (checkRes K V = 0) := by simp [Hid, checkRes, hg]
  clear hg
  go_enter Tryd.func90, Tryd.ntmps90
  go_wp2_with fail
  refine (resCheck_c K V _).mono ?_
  rw [HC.out]
  rintro e w1 ⟨rfl, hb⟩
  have b0 : w1.cell? ⟨w.heap.size, 0, none⟩ = some (.int .u8 K) := by rw [hb.cell _ _ (by simp)]; simp
  have b1 : w1.cell? ⟨w.heap.size, 1, none⟩ = some (.int .u16 V) := by rw [hb.cell _ _ (by simp)]; simp
  have hz := hb.size1
  have hf1 : Fr w w1 := Fr.trans ((Fr.refl _).alloc _) hb
  clear hb
  go_wp2_with fail
  have hw0 := WrAt.new (w := w1) rfl
  refine (U8_c K w1.heap.size _ [] _ hK hw0 (by simp)).mono ?_
  rintro e w2 ⟨rfl, H⟩
  have hbl := H.below hw0
  have hf2 : Fr w w2 := H.fr (hf1.alloc _) hw0 hf1.size
  have b0' : w2.cell? ⟨w.heap.size, 0, none⟩ = some (.int .u8 K) := by rw [Below.cell (p := ⟨w.heap.size, 0, none⟩) hbl hz, World.cell?_alloc_lt _ _ _ hz]; exact b0
  have b1' : w2.cell? ⟨w.heap.size, 1, none⟩ = some (.int .u16 V) := by rw [Below.cell (p := ⟨w.heap.size, 1, none⟩) hbl hz, World.cell?_alloc_lt _ _ _ hz]; exact b1
  obtain ⟨v2, hw2, _, _⟩ := H
  have hsz := hf1.size
  clear b0 b1 hw0 hbl hf1 hz
  generalize w1.heap.size = p at hw2 hsz ⊢
  by_cases hk : K = 1
  · subst hk
    go_wp2_with fail
    refine (U16_c V p v2 _ _ hV hw2 (by simp [be_len])).mono ?_
    rintro e w3 ⟨rfl, H⟩
    have hf3 : Fr w w3 := H.fr hf2 hw2 hsz
    obtain ⟨v3, hw3, _, _⟩ := H
    go_wp2_with fail
    refine (Bytes_c p v3 _ _ hw3).mono ?_
    rintro e w4 ⟨rfl, rfl⟩
    go_wp2
    go_ret2
    exact ⟨rfl, hf3⟩
  · have hk' : ((K : Int) == 1) = false := by simp; omega
    have HR : Hid (resBytes K V = be K 1) := by simp [Hid, resBytes, hk]
    clear hk
    go_wp2_with fail
    refine (Bytes_c p v2 _ _ hw2).mono ?_
    rintro e w4 ⟨rfl, rfl⟩
    go_wp2
    go_ret2
    exact ⟨by rw [HR.out]; rfl, hf2⟩
theorem resPut_c (K V : Nat) (w : World) (hK : K < 256) (hV : V < 65536) :
    Calls Tryd.prog 90 #[.agg #[.int .u8 K, .int .u16 V]] w fun e w' => e = .returned (.tuple #[.string ⟨(putRes K V).1.toArray⟩, .int .i64 (putRes K V).2]) ∧ Fr w w' := by
  unfold putRes
  cases hg : goodB K V
  · exact resPut_no K V w hg
  · exact resPut_yes K V w hg hK hV

/-- What result.Take tells of a reader: the answer's two numbers, the error; the reader's error and place behind. -/
def takeRes (e : Nat) (s : List UInt8) (at_ : Nat) : (Nat × Nat × Nat) × Nat × Nat :=
  let x := rdRaw e s at_ 1
  let y := if ofBe x.1 = 1 then rdRaw x.2.1 s x.2.2 2 else ([], x.2)
  (if y.2.1 ≠ 0 then (0, 0, y.2.1) else if goodB (ofBe x.1) (ofBe y.1) then (ofBe x.1, ofBe y.1, 0) else (0, 0, 4), y.2)
set_option maxHeartbeats 800000 in
theorem resTake_c (p e at_ : Nat) (s : List UInt8) (w : World) (h : RdAt w p e s at_) :
    Calls Tryd.prog 91 #[.pointer (some ⟨p, 0, none⟩)] w fun e' w' => e' = .returned (.tuple #[.agg #[.int .u8 (takeRes e s at_).1.1, .int .u16 (takeRes e s at_).1.2.1], .int .i64 (takeRes e s at_).1.2.2]) ∧ Read p s (takeRes e s at_).2 w w' := by
  have hp := h.lt
  have hT : takeRes e s at_ = takeRes e s at_ := rfl
  generalize hTT : takeRes e s at_ = T at hT ⊢
  clear hT
  unfold takeRes at hTT
  have h8 := fun W hW => rU8_c p e at_ s W hW
  have hl8 := rdRaw_len e s at_ 1
  generalize rdRaw e s at_ 1 = x at h8 hTT hl8
  obtain ⟨l1, e1, at1⟩ := x
  simp only at h8 hTT hl8
  have hK := ofBe_lt l1
  have hK' : ofBe l1 < 256 := Nat.lt_of_lt_of_le hK (Nat.pow_le_pow_right (by omega) (n := 256) hl8)
  generalize ofBe l1 = K at h8 hTT hK'
  have H8 := Lib.hid h8
  have HT := Lib.hid hTT
  clear h8 hTT hK hl8
  go_enter Tryd.func91, Tryd.ntmps91
  go_wp2_with fail
  have hr0 := h.keep ((Fr.refl w).alloc (Obj.cells #[Value.int IntKind.u8 0, Value.int IntKind.u16 0] 26))
  have hc0 : Chp p w (w.alloc (Obj.cells #[Value.int IntKind.u8 0, Value.int IntKind.u16 0] 26)) := Fr.chp ((Fr.refl w).alloc _)
  refine (H8.out _ hr0).mono ?_
  rintro e' w1 ⟨rfl, hr1, hc1⟩
  have hch1 := hc0.trans hc1
  have hz1 : w.heap.size < w1.heap.size := by have := hc1.size; simp at this; omega
  have a0 : w1.cell? ⟨w.heap.size, 0, none⟩ = some (.int .u8 0) := by rw [hc1.cell (by simp) (by omega)]; simp
  have a1 : w1.cell? ⟨w.heap.size, 1, none⟩ = some (.int .u16 0) := by rw [hc1.cell (by simp) (by omega)]; simp
  have f0 : w1.frozen? ⟨w.heap.size, 0, none⟩ = false := by rw [hc1.frozen (by simp) (by omega)]; simp
  have f1 : w1.frozen? ⟨w.heap.size, 1, none⟩ = false := by rw [hc1.frozen (by simp) (by omega)]; simp
  clear hr0 hc0 hc1
  by_cases hk : K = 1
  · subst hk
    simp only [if_true] at HT
    have hr16 := fun W hW => rU16_c p e1 at1 s W hW
    have hl2 := rdRaw_len e1 s at1 2
    generalize rdRaw e1 s at1 2 = y at hr16 HT hl2
    obtain ⟨l2, e2, at2⟩ := y
    simp only at hr16 HT hl2
    generalize ofBe l2 = V at hr16 HT
    have H16 := Lib.hid hr16
    clear hr16 hl2
    go_wp2_with fail
    have hr2 := hr1.keep ((Fr.refl w1).alloc (Obj.cells #[Value.int IntKind.u8 1, Value.int IntKind.u16 0] 26))
    refine (H16.out _ hr2).mono ?_
    rintro e' W2 ⟨rfl, hrt, hc2⟩
    have x0 : W2.cell? ⟨w1.heap.size, 0, none⟩ = some (.int .u8 1) := by rw [hc2.cell (by simp) (by have := hr1.lt; omega)]; simp
    have x1 : W2.cell? ⟨w1.heap.size, 1, none⟩ = some (.int .u16 0) := by rw [hc2.cell (by simp) (by have := hr1.lt; omega)]; simp
    have y0 : W2.frozen? ⟨w1.heap.size, 0, none⟩ = false := by rw [hc2.frozen (by simp) (by have := hr1.lt; omega)]; simp
    have y1 : W2.frozen? ⟨w1.heap.size, 1, none⟩ = false := by rw [hc2.frozen (by simp) (by have := hr1.lt; omega)]; simp
    have a0 : W2.cell? ⟨w.heap.size, 0, none⟩ = some (.int .u8 0) := by rw [hc2.cell (by simp; omega) (by omega), World.cell?_alloc_lt _ _ _ hz1]; exact a0
    have a1 : W2.cell? ⟨w.heap.size, 1, none⟩ = some (.int .u16 0) := by rw [hc2.cell (by simp; omega) (by omega), World.cell?_alloc_lt _ _ _ hz1]; exact a1
    have f0 : W2.frozen? ⟨w.heap.size, 0, none⟩ = false := by rw [hc2.frozen (by simp; omega) (by omega), World.frozen?_alloc_past _ _ _ hz1]; exact f0
    have f1 : W2.frozen? ⟨w.heap.size, 1, none⟩ = false := by rw [hc2.frozen (by simp; omega) (by omega), World.frozen?_alloc_past _ _ _ hz1]; exact f1
    have hcht : Chp p w W2 := (hch1.alloc _).trans hc2
    have hpq : p < w1.heap.size := hr1.lt
    have hq1 : w.heap.size ≠ w1.heap.size := by omega
    clear hr2 hc2 hr1 hch1
    generalize w1.heap.size = q at x0 x1 y0 y1 hpq hz1 hq1 ⊢
    go_wp2_with fail
    have a0' : (W2.setCell ⟨q, 1, none⟩ (.int .u16 V)).cell? ⟨w.heap.size, 0, none⟩ = some (.int .u8 0) := by rw [World.cell?_setCell_other _ _ _ _ (by simp <;> omega)]; exact a0
    have a1' : (W2.setCell ⟨q, 1, none⟩ (.int .u16 V)).cell? ⟨w.heap.size, 1, none⟩ = some (.int .u16 0) := by rw [World.cell?_setCell_other _ _ _ _ (by simp <;> omega)]; exact a1
    have x0' : (W2.setCell ⟨q, 1, none⟩ (.int .u16 V)).cell? ⟨q, 0, none⟩ = some (.int .u8 1) := by rw [World.cell?_setCell_other _ _ _ _ (by simp)]; exact x0
    have x1' : (W2.setCell ⟨q, 1, none⟩ (.int .u16 V)).cell? ⟨q, 1, none⟩ = some (.int .u16 V) := World.cell?_setCell_same _ _ _ x1
    have f0' : (W2.setCell ⟨q, 1, none⟩ (.int .u16 V)).frozen? ⟨w.heap.size, 0, none⟩ = false := (World.frozen?_setCell ..).trans f0
    have f1' : (W2.setCell ⟨q, 1, none⟩ (.int .u16 V)).frozen? ⟨w.heap.size, 1, none⟩ = false := (World.frozen?_setCell ..).trans f1
    have hrt' := hrt.setOther (q := q) (by omega) 1 (.int .u16 V)
    have hcht' := hcht.setAt (q := q) (by omega) 1 (.int .u16 V)
    clear a0 a1 x0 x1 y0 y1 f0 f1 hrt hcht
    generalize W2.setCell ⟨q, 1, none⟩ (.int .u16 (V : Int)) = W2 at a0' a1' x0' x1' f0' f1' hrt' hcht' ⊢
    have a0 := a0'
    have a1 := a1'
    have x0 := x0'
    have x1 := x1'
    have f0 := f0'
    have f1 := f1'
    have hrt := hrt'
    have hcht := hcht'
    clear a0' a1' x0' x1' f0' f1' hrt' hcht'
    have hK1 : (1 : Nat) = 1 := rfl
    clear hK1
    have s0 : w.heap.size < W2.heap.size := lt_of_cell a0
    refine (Err_c p e2 at2 s _ hrt).mono ?_
    rintro e' w' ⟨rfl, rfl⟩
    by_cases he : e2 = 0
    · subst he
      have HE := Lib.hid (rfl : (0 : Nat) = 0)
      go_wp2_with fail
      refine (resCheck_c 1 V _).mono ?_
      rintro e' w3 ⟨rfl, hb⟩
      have hrt := hrt.keep hb
      have hcht := hcht.trans (Fr.chp hb)
      have f0 := (hb.frozen _ 0 s0).trans f0
      have f1 := (hb.frozen _ 1 s0).trans f1
      have a0 := hb.keep a0
      have a1 := hb.keep a1
      have x0 := hb.keep x0
      have x1 := hb.keep x1
      have s0 : w.heap.size < w3.heap.size := lt_of_cell a0
      clear hb
      cases hg : goodB 1 V with
      | false =>
        have HG := Lib.hid hg
        have hck : (checkRes 1 V : Int) = 4 := by simp [checkRes, hg]
        clear hg
        rw [hck]
        clear hck
        go_wp2
        refine bodyPost_ret (v := .tuple #[.agg #[.int .u8 0, .int .u16 0], .int .i64 4]) (by simp [results, Tryd.results91, go_sem, a0, a1, s0]) rfl ⟨?_, ?_, ?_⟩
        · rw [← HT.out]; simp only [ne_eq, not_true_eq_false, if_false, HG.out, Bool.false_eq_true]; rfl
        · rw [← HT.out]; simp only [ne_eq, not_true_eq_false, if_false, HG.out, Bool.false_eq_true]; exact (hrt.setOther (by omega) _ _).setOther (by omega) _ _
        · exact (hcht.setAt (Nat.le_refl _) _ _).setAt (Nat.le_refl _) _ _
      | true =>
        have HG := Lib.hid hg
        have hck : (checkRes 1 V : Int) = 0 := by simp [checkRes, hg]
        clear hg
        rw [hck]
        clear hck
        go_wp2
        refine bodyPost_ret (v := .tuple #[.agg #[.int .u8 1, .int .u16 V], .int .i64 0]) (by simp [results, Tryd.results91, go_sem, a0, a1, s0]) rfl ⟨?_, ?_, ?_⟩
        · rw [← HT.out]; simp only [ne_eq, not_true_eq_false, if_false, HG.out, if_true]; rfl
        · rw [← HT.out]; simp only [ne_eq, not_true_eq_false, if_false, HG.out, if_true]; exact (hrt.setOther (by omega) _ _).setOther (by omega) _ _
        · exact (hcht.setAt (Nat.le_refl _) _ _).setAt (Nat.le_refl _) _ _
    · have he1 : ((e2 : Int) == 0) = false := by simp; omega
      have he2 : ((e2 : Int) != 0) = true := by simp; omega
      have HE := Lib.hid he
      clear he
      go_wp2
      refine bodyPost_ret (v := .tuple #[.agg #[.int .u8 0, .int .u16 0], .int .i64 e2]) (by simp [results, Tryd.results91, go_sem, a0, a1, s0]) rfl ⟨?_, ?_, ?_⟩
      · rw [← HT.out]; simp only [ne_eq, HE.out, not_false_eq_true, if_true]; rfl
      · rw [← HT.out]; simp only [ne_eq, HE.out, not_false_eq_true, if_true]; exact (hrt.setOther (by omega) _ _).setOther (by omega) _ _
      · exact (hcht.setAt (Nat.le_refl _) _ _).setAt (Nat.le_refl _) _ _
  · have hk' : ((K : Int) == 1) = false := by simp; omega
    simp only [if_neg hk] at HT
    have HTT := HT.out
    have hl0 : ofBe ([] : List UInt8) = 0 := rfl
    simp only [hl0] at HTT
    clear HT hl0
    have HT := Lib.hid HTT
    clear hk HTT
    go_wp2_with fail
    have x0 : (w1.alloc (Obj.cells #[Value.int IntKind.u8 ↑K, Value.int IntKind.u16 0] 26)).cell? ⟨w1.heap.size, 0, none⟩ = some (.int .u8 K) := by simp
    have x1 : (w1.alloc (Obj.cells #[Value.int IntKind.u8 ↑K, Value.int IntKind.u16 0] 26)).cell? ⟨w1.heap.size, 1, none⟩ = some (.int .u16 0) := by simp
    have a0' := (World.cell?_alloc_lt w1 (Obj.cells #[Value.int IntKind.u8 ↑K, Value.int IntKind.u16 0] 26) ⟨w.heap.size, 0, none⟩ hz1).trans a0
    have a1' := (World.cell?_alloc_lt w1 (Obj.cells #[Value.int IntKind.u8 ↑K, Value.int IntKind.u16 0] 26) ⟨w.heap.size, 1, none⟩ hz1).trans a1
    have f0' := (World.frozen?_alloc_past (w := w1) (Obj.cells #[Value.int IntKind.u8 ↑K, Value.int IntKind.u16 0] 26) w.heap.size 0 hz1).trans f0
    have f1' := (World.frozen?_alloc_past (w := w1) (Obj.cells #[Value.int IntKind.u8 ↑K, Value.int IntKind.u16 0] 26) w.heap.size 1 hz1).trans f1
    have hrt := hr1.keep ((Fr.refl w1).alloc (Obj.cells #[Value.int IntKind.u8 ↑K, Value.int IntKind.u16 0] 26))
    have hcht := hch1.alloc (Obj.cells #[Value.int IntKind.u8 ↑K, Value.int IntKind.u16 0] 26)
    have hpq : p < w1.heap.size := hr1.lt
    have hq1 : w.heap.size ≠ w1.heap.size := by omega
    clear a0 a1 f0 f1 hr1 hch1
    generalize w1.alloc (Obj.cells #[Value.int IntKind.u8 ↑K, Value.int IntKind.u16 0] 26) = W2 at x0 x1 a0' a1' f0' f1' hrt hcht ⊢
    generalize w1.heap.size = q at x0 x1 hpq hz1 hq1 ⊢
    have a0 := a0'
    have a1 := a1'
    have f0 := f0'
    have f1 := f1'
    clear a0' a1' f0' f1'
    have s0 : w.heap.size < W2.heap.size := lt_of_cell a0
    refine (Err_c p e1 at1 s _ hrt).mono ?_
    rintro e' w' ⟨rfl, rfl⟩
    by_cases he : e1 = 0
    · subst he
      have HE := Lib.hid (rfl : (0 : Nat) = 0)
      go_wp2_with fail
      refine (resCheck_c K 0 _).mono ?_
      rintro e' w3 ⟨rfl, hb⟩
      have hrt := hrt.keep hb
      have hcht := hcht.trans (Fr.chp hb)
      have f0 := (hb.frozen _ 0 s0).trans f0
      have f1 := (hb.frozen _ 1 s0).trans f1
      have a0 := hb.keep a0
      have a1 := hb.keep a1
      have x0 := hb.keep x0
      have x1 := hb.keep x1
      have s0 : w.heap.size < w3.heap.size := lt_of_cell a0
      clear hb
      cases hg : goodB K 0 with
      | false =>
        have HG := Lib.hid hg
        have hck : (checkRes K 0 : Int) = 4 := by simp [checkRes, hg]
        clear hg
        rw [hck]
        clear hck
        go_wp2
        refine bodyPost_ret (v := .tuple #[.agg #[.int .u8 0, .int .u16 0], .int .i64 4]) (by simp [results, Tryd.results91, go_sem, a0, a1, s0]) rfl ⟨?_, ?_, ?_⟩
        · rw [← HT.out]; simp only [ne_eq, not_true_eq_false, if_false, HG.out, Bool.false_eq_true]; rfl
        · rw [← HT.out]; simp only [ne_eq, not_true_eq_false, if_false, HG.out, Bool.false_eq_true]; exact (hrt.setOther (by omega) _ _).setOther (by omega) _ _
        · exact (hcht.setAt (Nat.le_refl _) _ _).setAt (Nat.le_refl _) _ _
      | true =>
        have HG := Lib.hid hg
        have hck : (checkRes K 0 : Int) = 0 := by simp [checkRes, hg]
        clear hg
        rw [hck]
        clear hck
        go_wp2
        refine bodyPost_ret (v := .tuple #[.agg #[.int .u8 K, .int .u16 0], .int .i64 0]) (by simp [results, Tryd.results91, go_sem, a0, a1, s0]) rfl ⟨?_, ?_, ?_⟩
        · rw [← HT.out]; simp only [ne_eq, not_true_eq_false, if_false, HG.out, if_true]; rfl
        · rw [← HT.out]; simp only [ne_eq, not_true_eq_false, if_false, HG.out, if_true]; exact (hrt.setOther (by omega) _ _).setOther (by omega) _ _
        · exact (hcht.setAt (Nat.le_refl _) _ _).setAt (Nat.le_refl _) _ _
    · have he1 : ((e1 : Int) == 0) = false := by simp; omega
      have he2 : ((e1 : Int) != 0) = true := by simp; omega
      have HE := Lib.hid he
      clear he
      go_wp2
      refine bodyPost_ret (v := .tuple #[.agg #[.int .u8 0, .int .u16 0], .int .i64 e1]) (by simp [results, Tryd.results91, go_sem, a0, a1, s0]) rfl ⟨?_, ?_, ?_⟩
      · rw [← HT.out]; simp only [ne_eq, HE.out, not_false_eq_true, if_true]; rfl
      · rw [← HT.out]; simp only [ne_eq, HE.out, not_false_eq_true, if_true]; exact (hrt.setOther (by omega) _ _).setOther (by omega) _ _
      · exact (hcht.setAt (Nat.le_refl _) _ _).setAt (Nat.le_refl _) _ _
end Go.Proofs.YtgbaanioppblhaaDoor

/- umpireref03.Put, Take; umpireref01.List. No condition but the numbers' bounds. -/
namespace Go.Proofs.YtgbaanioppblhaaDoor
open Go.RowKit

theorem RfAt.setOther {w : World} {p e at_ q : Nat} {s : List UInt8} (h : RfAt w p e s at_) (hq : q ≠ p) (o : Nat) (u : Value) : RfAt (w.setCell ⟨q, o, none⟩ u) p e s at_ := h.block (Below.heap_setCell w _ u p (fun e => hq e.symm))
theorem RfAt.drew {w : World} {p e at_ : Nat} {s : List UInt8} (h : RfAt w p e s at_) : RfAt w.drew p e s at_ := h.keep ((Fr.refl w).drew)
theorem ret_str2' {a : ByteArray} {l : List UInt8} {v : Value} (h : a.data.toList = l) : Ending.returned (.tuple #[.string a, v]) = Ending.returned (.tuple #[.string ⟨l.toArray⟩, v]) := by subst h; simp
theorem be_one (K : Nat) : be K 1 = [UInt8.ofNat K] := by simp [be]
theorem rResPut_c (K V : Nat) (w : World) (hK : K < 256) (hV : V < 65536) :
    Calls Tryd.prog 29 #[.agg #[.int .u8 K, .int .u16 V]] w fun e w' => e = .returned (.tuple #[.string ⟨(putRes K V).1.toArray⟩, .int .i64 (putRes K V).2]) ∧ Fr w w' := by
  unfold putRes
  have hgood := fun W => rGood_c K V W
  cases hg : goodB K V
  · rw [hg] at hgood
    have HG := Lib.hid hgood
    clear hg hgood
    go_enter Tryd.func29, Tryd.ntmps29
    go_wp2_with fail
    refine (HG.out _).mono ?_
    rintro e w1 ⟨rfl, hb⟩
    go_wp2
    go_ret2
    exact ⟨rfl, Fr.trans ((Fr.refl _).alloc _) hb⟩
  · rw [hg] at hgood
    have HG := Lib.hid hgood
    clear hg hgood
    by_cases hk : K = 1
    · subst hk
      have HR : Hid (resBytes 1 V = be 1 1 ++ be V 2) := by simp [Hid, resBytes]
      have hl := be_len V 2
      go_enter Tryd.func29, Tryd.ntmps29
      go_wp2_with fail
      refine (HG.out _).mono ?_
      rintro e w1 ⟨rfl, hb⟩
      have b0 : w1.cell? ⟨w.heap.size, 0, none⟩ = some (.int .u8 1) := by rw [hb.cell _ _ (by simp)]; simp
      have b1 : w1.cell? ⟨w.heap.size, 1, none⟩ = some (.int .u16 V) := by rw [hb.cell _ _ (by simp)]; simp
      have hz := hb.size1
      go_wp2_with fail
      refine (rNumber_c V 2 _ (by omega) (by omega)).mono ?_
      rintro e w2 ⟨rfl, hb2⟩
      go_wp2
      go_ret2
      exact ⟨by rw [HR.out]; exact ret_str2' (by simp [be_one]), Fr.trans (Fr.trans ((Fr.refl _).alloc _) hb) hb2⟩
    · have hk' : ((K : Int) == 1) = false := by simp; omega
      have HR : Hid (resBytes K V = be K 1) := by simp [Hid, resBytes, hk]
      clear hk
      go_enter Tryd.func29, Tryd.ntmps29
      go_wp2_with fail
      refine (HG.out _).mono ?_
      rintro e w1 ⟨rfl, hb⟩
      have b0 : w1.cell? ⟨w.heap.size, 0, none⟩ = some (.int .u8 K) := by rw [hb.cell _ _ (by simp)]; simp
      have hz := hb.size1
      go_wp2_with fail
      refine (rNumber_c K 1 _ (by omega) (by omega)).mono ?_
      rintro e w2 ⟨rfl, hb2⟩
      go_wp2
      go_ret2
      exact ⟨by rw [HR.out]; rfl, Fr.trans (Fr.trans ((Fr.refl _).alloc _) hb) hb2⟩
/-- What umpireref01.List tells. -/
def putList (l : List Nat) : List UInt8 × Nat := if 255 < l.length then ([], 3) else (listBytes l, 0)
set_option maxRecDepth 100000 in
theorem rListPut_c (v : Value) (l : List Nat) (w : World) (hv : Rd16 w v l) (hn : ∀ n ∈ l, n < 65536) :
    Calls Tryd.prog 30 #[v] w fun e w' => e = .returned (.tuple #[.string ⟨(putList l).1.toArray⟩, .int .i64 (putList l).2]) ∧ Fr w w' := by
  obtain ⟨a, cap, rfl, hca, hma, hxa⟩ := hv
  unfold maxLen at hma
  by_cases hlen : 255 < l.length
  · have HP : Hid (putList l = ([], 3)) := by simp [Hid, putList, hlen]
    have h' : (255 : Int) < l.length := by omega
    clear hlen hxa
    go_enter Tryd.func30, Tryd.ntmps30
    go_wp2
    go_ret2
    exact ⟨by rw [HP.out]; rfl, Fr.refl _⟩
  · have HP : Hid (putList l = (be l.length 1 ++ l.flatMap (fun n => be n 2), 0)) := by simp [Hid, putList, hlen, listBytes]
    have h' : ¬ (255 : Int) < l.length := by omega
    have hb1 := be_len l.length 1
    go_enter Tryd.func30, Tryd.ntmps30
    go_wp2_with fail
    refine (rNumber_c l.length 1 _ (by omega) (by omega)).mono ?_
    rintro e w1 ⟨rfl, hf1⟩
    go_wp2
    go_loopw [4, 5] (fun s i wr => ∃ k : Nat, k ≤ l.length ∧ i = .int .i64 k ∧ s = .string ⟨(be l.length 1 ++ (l.take k).flatMap (fun n => be n 2)).toArray⟩ ∧ Fr w wr) (fun _ i _ => l.length - (intOf i).toNat)
    case atStart => exact ⟨0, Nat.zero_le _, rfl, by simp, hf1⟩
    case round =>
      obtain ⟨k, hk, rfl, rfl, hfr⟩ := hrel
      by_cases hlt : k < l.length
      · obtain ⟨b, o, rfl, _, hc⟩ := SlAt.at (n := 0) (cap := 0) hxa (by simp [u16Cells]; intro h; subst h; simp at hlt)
        have c1 := hfr.keep (hc k (.int .u16 l[k]) (by simp [u16Cells, hlt]))
        have hk1 : k < cap := by omega
        have ht : l.take (k + 1) = l.take k ++ [l[k]] := List.take_succ_eq_append_getElem hlt
        have HT := Lib.hid ht
        have hnk := hn _ (List.getElem_mem hlt)
        have hlk2 : (be l.length 1 ++ (l.take k).flatMap fun n => be n 2).length ≤ 600 := by rw [List.length_append, flat2_len, be_len]; simp; omega
        have hb2 := be_len l[k] 2
        have hfm : ∀ m : Nat, (be l.length 1 ++ (l.take k).flatMap fun n => be n 2) ++ be m 2 = be l.length 1 ++ (l.take k ++ [m]).flatMap fun n => be n 2 := fun m => by simp
        have HFM := Lib.hid hfm
        generalize l[k] = x at c1 HT hnk hb2
        generalize (be l.length 1 ++ (l.take k).flatMap fun n => be n 2) = z at HFM hlk2 ⊢
        clear hxa hc hfm ht hn
        go_wp2_with fail
        refine (rNumber_c x 2 _ (by omega) (by omega)).mono ?_
        rintro e w2 ⟨rfl, hf2⟩
        go_wp2
        go_roundw
        case rel => exact ⟨k + 1, by omega, by go_num, by rw [HT.out, ← HFM.out]; exact congrArg Value.string (mk_append _ _), hfr.trans hf2⟩
        case measure => simp [intOf]; omega
      · go_wp2
        go_ret2
        exact ⟨by rw [HP.out, List.take_of_length_le (by omega)]; rfl, hfr⟩
theorem rdRaw_err {e : Nat} {s : List UInt8} {at_ n : Nat} (h : (rdRaw e s at_ n).2.1 ≠ 0) : (rdRaw e s at_ n).1 = [] := by
  unfold rdRaw at h ⊢
  split
  · rfl
  · split
    · rfl
    · rename_i h1 h2; simp [h1, h2] at h
set_option maxHeartbeats 1000000 in
set_option maxRecDepth 100000 in
theorem rResTake_c (p e at_ : Nat) (s : List UInt8) (w : World) (h : RfAt w p e s at_) :
    Calls Tryd.prog 54 #[.pointer (some ⟨p, 0, none⟩)] w fun e' w' => e' = .returned (.tuple #[.agg #[.int .u8 (takeRes e s at_).1.1, .int .u16 (takeRes e s at_).1.2.1], .int .i64 (takeRes e s at_).1.2.2]) ∧ RRead p s (takeRes e s at_).2 w w' := by
  have hp := h.lt
  have hT : takeRes e s at_ = takeRes e s at_ := rfl
  generalize hTT : takeRes e s at_ = T at hT ⊢
  clear hT
  unfold takeRes at hTT
  have h8 := fun W hW => fNum_c p e at_ 1 s W hW (by omega) (by omega)
  have hl8 := rdRaw_len e s at_ 1
  have herr := rdRaw_err (e := e) (s := s) (at_ := at_) (n := 1)
  generalize rdRaw e s at_ 1 = x at h8 hTT hl8 herr
  obtain ⟨l1, e1, at1⟩ := x
  simp only at h8 hTT hl8 herr
  have hK := ofBe_lt l1
  have hK' : ofBe l1 < 256 := Nat.lt_of_lt_of_le hK (Nat.pow_le_pow_right (by omega) (n := 256) hl8)
  have herr' : e1 ≠ 0 → ofBe l1 = 0 := fun he => by rw [herr he]; rfl
  generalize ofBe l1 = K at h8 hTT hK' herr'
  have H8 := Lib.hid h8
  have HT := Lib.hid hTT
  have HE := Lib.hid herr'
  clear h8 hTT hK hl8 herr herr'
  go_enter Tryd.func54, Tryd.ntmps54
  go_wp2_with fail
  have hr0 := h.keep ((Fr.refl w).alloc (Obj.cells #[Value.int IntKind.u8 0, Value.int IntKind.u16 0] 26))
  have hc0 : Chp p w (w.alloc (Obj.cells #[Value.int IntKind.u8 0, Value.int IntKind.u16 0] 26)) := Fr.chp ((Fr.refl w).alloc _)
  refine (H8.out _ hr0).mono ?_
  rintro e' w1 ⟨rfl, hr1, hc1⟩
  have hch1 := hc0.trans hc1
  have hz1 : w.heap.size < w1.heap.size := by have := hc1.size; simp at this; omega
  have a0 : w1.cell? ⟨w.heap.size, 0, none⟩ = some (.int .u8 0) := by rw [hc1.cell (by simp) (by omega)]; simp
  have a1 : w1.cell? ⟨w.heap.size, 1, none⟩ = some (.int .u16 0) := by rw [hc1.cell (by simp) (by omega)]; simp
  have f0 : w1.frozen? ⟨w.heap.size, 0, none⟩ = false := by rw [hc1.frozen (by simp) (by omega)]; simp
  have f1 : w1.frozen? ⟨w.heap.size, 1, none⟩ = false := by rw [hc1.frozen (by simp) (by omega)]; simp
  have c2 := hr1.c2
  clear hr0 hc0 hc1 H8
  by_cases he : e1 = 0
  · subst he
    by_cases hk : K = 1
    · subst hk
      simp only [if_true] at HT
      have hr16 := fun W hW => fNum_c p 0 at1 2 s W hW (by omega) (by omega)
      have hl2 := rdRaw_len 0 s at1 2
      generalize rdRaw 0 s at1 2 = y at hr16 HT hl2
      obtain ⟨l2, e2, at2⟩ := y
      simp only at hr16 HT hl2
      have hV : ofBe l2 < 65536 := Nat.lt_of_lt_of_le (ofBe_lt l2) (Nat.pow_le_pow_right (by omega) (n := 256) hl2)
      generalize ofBe l2 = V at hr16 HT hV
      have H16 := Lib.hid hr16
      clear hr16 hl2 HE
      go_wp2_with fail
      refine (H16.out _ hr1).mono ?_
      rintro e' W2 ⟨rfl, hrt, hc2⟩
      have a0' : W2.cell? ⟨w.heap.size, 0, none⟩ = some (.int .u8 0) := by rw [hc2.cell hz1 (by omega)]; exact a0
      have a1' : W2.cell? ⟨w.heap.size, 1, none⟩ = some (.int .u16 0) := by rw [hc2.cell hz1 (by omega)]; exact a1
      have f0' : W2.frozen? ⟨w.heap.size, 0, none⟩ = false := by rw [hc2.frozen hz1 (by omega)]; exact f0
      have f1' : W2.frozen? ⟨w.heap.size, 1, none⟩ = false := by rw [hc2.frozen hz1 (by omega)]; exact f1
      have hcht : Chp p w W2 := hch1.trans hc2
      clear a0 a1 f0 f1 c2 hr1 hch1 hc2 hz1
      have a0 := a0'
      have a1 := a1'
      have f0 := f0'
      have f1 := f1'
      have c2 := hrt.c2
      have s0 : w.heap.size < W2.heap.size := lt_of_cell a0
      clear a0' a1' f0' f1'
      by_cases he2 : e2 = 0
      · subst he2
        have hg : goodB 1 V = true := by simp [goodB]
        have HG := Lib.hid hg
        clear hg
        go_wp2
        refine bodyPost_ret (v := .tuple #[.agg #[.int .u8 1, .int .u16 V], .int .i64 0]) (by simp [results, Tryd.results54, go_sem, a0, a1, s0]) rfl ⟨?_, ?_, ?_⟩
        · rw [← HT.out]; simp only [ne_eq, not_true_eq_false, if_false, HG.out, if_true]; rfl
        · rw [← HT.out]; simp only [ne_eq, not_true_eq_false, if_false, HG.out, if_true]; exact (hrt.setOther (by omega) _ _).setOther (by omega) _ _
        · exact (hcht.setAt (Nat.le_refl _) _ _).setAt (Nat.le_refl _) _ _
      · have h1 : ((e2 : Int) != 0) = true := by simp; omega
        have HE := Lib.hid he2
        clear he2
        go_wp2
        go_region
        go_wp2
        refine bodyPost_ret (v := .tuple #[.agg #[.int .u8 0, .int .u16 0], .int .i64 e2]) (by simp [results, Tryd.results54, go_sem, a0, a1, s0]) rfl ⟨?_, ?_, ?_⟩
        · rw [← HT.out]; simp only [ne_eq, HE.out, not_false_eq_true, if_true]; rfl
        · rw [← HT.out]; simp only [ne_eq, HE.out, not_false_eq_true, if_true]; exact (by repeat (with_reducible first | exact hrt | apply RfAt.drew | refine RfAt.setOther ?_ (by omega) _ _))
        · exact (by repeat (with_reducible first | exact hcht | apply Chp.drew | refine Chp.setAt ?_ (Nat.le_refl _) _ _))
    · have hk' : ((K : Int) == 1) = false := by simp; omega
      simp only [if_neg hk] at HT
      have hl0 : ofBe ([] : List UInt8) = 0 := rfl
      simp only [hl0, ne_eq, not_true_eq_false, if_false] at HT
      have hrt := hr1
      have hcht := hch1
      have s0 := hz1
      clear hk hl0 HE hr1 hch1
      by_cases hg : goodB K 0 = true
      · have h4 : ¬ (4 : Int) < K := by unfold goodB at hg; simp at hg; omega
        simp only [hg, if_true] at HT
        clear hg
        go_wp2
        refine bodyPost_ret (v := .tuple #[.agg #[.int .u8 K, .int .u16 0], .int .i64 0]) (by simp [results, Tryd.results54, go_sem, a0, a1, s0]) rfl ⟨?_, ?_, ?_⟩
        · rw [← HT.out]; rfl
        · rw [← HT.out]; exact (by repeat (with_reducible first | exact hrt | apply RfAt.drew | refine RfAt.setOther ?_ (by omega) _ _))
        · exact (by repeat (with_reducible first | exact hcht | apply Chp.drew | refine Chp.setAt ?_ (Nat.le_refl _) _ _))
      · have h4 : (4 : Int) < K := by unfold goodB at hg; simp at hg; omega
        simp only [hg, if_false, Bool.false_eq_true] at HT
        clear hg
        go_wp2
        refine bodyPost_ret (v := .tuple #[.agg #[.int .u8 0, .int .u16 0], .int .i64 4]) (by simp [results, Tryd.results54, go_sem, a0, a1, s0]) rfl ⟨?_, ?_, ?_⟩
        · rw [← HT.out]; rfl
        · rw [← HT.out]; exact (by repeat (with_reducible first | exact hrt | apply RfAt.drew | refine RfAt.setOther ?_ (by omega) _ _))
        · exact (by repeat (with_reducible first | exact hcht | apply Chp.drew | refine Chp.setAt ?_ (Nat.le_refl _) _ _))
  · have hk0 := HE.out he
    subst hk0
    have h1 : ((e1 : Int) != 0) = true := by simp; omega
    have h2 : ((e1 : Int) == 0) = false := by simp; omega
    simp only [ne_eq, he, not_false_eq_true, if_true, Nat.zero_ne_one, if_false] at HT
    have hrt := hr1
    have hcht := hch1
    have s0 := hz1
    clear he HE hr1 hch1
    go_wp2
    go_region
    go_wp2
    refine bodyPost_ret (v := .tuple #[.agg #[.int .u8 0, .int .u16 0], .int .i64 e1]) (by simp [results, Tryd.results54, go_sem, a0, a1, s0]) rfl ⟨?_, ?_, ?_⟩
    · rw [← HT.out]; rfl
    · rw [← HT.out]; exact (by repeat (with_reducible first | exact hrt | apply RfAt.drew | refine RfAt.setOther ?_ (by omega) _ _))
    · exact (by repeat (with_reducible first | exact hcht | apply Chp.drew | refine Chp.setAt ?_ (Nat.le_refl _) _ _))
end Go.Proofs.YtgbaanioppblhaaDoor
