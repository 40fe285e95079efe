/- The walks of umpire/codec's Reader: numbers. No condition but what each says. -/
import Derived.Test.YthaocbmkkgeomaaDoorPBase
import Derived.Laws.IdiomStrings
import Derived.Laws.BitsAllLaws
set_option linter.all false
set_option linter.unusedVariables false
set_option linter.unusedSimpArgs false
set_option linter.unnecessarySimpa false
/- The walks of umpire/codec's Reader: numbers. No condition but what each says. -/
namespace Go.Proofs.YthaocbmkkgeomaaDoor
open Go.RowKit

/-- Bytes as a number, the highest first. -/
def ofBe (l : List UInt8) : Nat := l.foldl (fun a b => a * 256 + b.toNat) 0
theorem ofBe_snoc (l : List UInt8) (b : UInt8) : ofBe (l ++ [b]) = ofBe l * 256 + b.toNat := by simp [ofBe]
theorem ofBe_step (l : List UInt8) (k : Nat) (h : k < l.length) : ofBe (l.take (k + 1)) = ofBe (l.take k) * 256 + l[k].toNat := by
  rw [List.take_succ_eq_append_getElem h, ofBe_snoc]
theorem ofBe_lt' : ∀ (l : List UInt8) (a : Nat), l.foldl (fun a b => a * 256 + b.toNat) a < (a + 1) * 256 ^ l.length
  | [], a => by simp
  | b :: l, a => by
    have h := ofBe_lt' l (a * 256 + b.toNat)
    have hb := b.toNat_lt
    simp only [List.foldl_cons, List.length_cons, Nat.pow_succ]
    refine Nat.lt_of_lt_of_le h ?_
    rw [Nat.mul_comm (256 ^ l.length) 256, ← Nat.mul_assoc]
    exact Nat.mul_le_mul_right _ (by omega)
theorem ofBe_lt (l : List UInt8) : ofBe l < 256 ^ l.length := by simpa [ofBe] using ofBe_lt' l 0
theorem ofBe_take_lt (l : List UInt8) (k n : Nat) (h : k ≤ n) : ofBe (l.take k) < 256 ^ n := by
  refine Nat.lt_of_lt_of_le (ofBe_lt _) (Nat.pow_le_pow_right (by omega) ?_)
  exact Nat.le_trans (List.length_take_le _ _) h
theorem be_or (a : Nat) (b : UInt8) (ha : a < 16777216) : bits BinOp.or IntKind.u32 ((a : Int) % 4294967296 * 256 % 4294967296) ((b.toNat : Int) % 4294967296) = ((a * 256 + b.toNat : Nat) : Int) := by
  have hb := b.toNat_lt
  have e1 : (a : Int) % 4294967296 * 256 % 4294967296 = ((a * 256 : Nat) : Int) := by omega
  have e2 : (b.toNat : Int) % 4294967296 = ((b.toNat : Nat) : Int) := by omega
  rw [e1, e2, u32_or_nat _ _ (by omega) (by omega)]
  rw [Nat.mul_comm a 256]
  exact congrArg _ (Nat.two_pow_add_eq_or_of_lt (i := 8) (b := b.toNat) (by omega) a).symm
theorem be_or' (a : Nat) (b : UInt8) (ha : a < 16777216) : bits BinOp.or IntKind.u32 ((a : Int) * 256 % 4294967296) ((b.toNat : Int) % 4294967296) = ((a * 256 + b.toNat : Nat) : Int) := by
  have e : (a : Int) % 4294967296 = a := by omega
  have h := be_or a b ha
  rw [e] at h
  exact h
theorem rdRaw_len (e : Nat) (s : List UInt8) (at_ n : Nat) : (rdRaw e s at_ n).1.length ≤ n := by
  unfold rdRaw; split
  · simp
  · split
    · simp
    · simp; omega

set_option maxHeartbeats 400000 in
theorem take8_c (p e at_ : Nat) (s : List UInt8) (w : World) (h : RdAt w p e s at_) :
    Calls Tryd.prog 81 #[.pointer (some ⟨p, 0, none⟩), .int .i64 1] w fun e' w' => e' = .returned (.int .u8 (ofBe (rdRaw e s at_ 1).1)) ∧ Read p s (rdRaw e s at_ 1).2 w w' := by
  have hcv := fun (W : World) (l : List UInt8) => run_bytes_of_string (P := Tryd.prog) W 9 25 5 ⟨l.toArray⟩ Tryd.underlying9 Tryd.underlying25 Tryd.underlying5
  have hraw := rRaw_c p e at_ 1 s w h (by omega)
  have hlen := rdRaw_len e s at_ 1
  generalize rdRaw e s at_ 1 = x at hraw hlen ⊢
  have HR := Lib.hid hraw
  clear hraw
  go_enter Tryd.func81, Tryd.ntmps81
  go_wp2_with fail
  refine HR.out.mono ?_
  rintro e w1 ⟨rfl, hr⟩
  go_wp2
  have hcell : ∀ j (hj : j < x.1.length), (w1.alloc (Obj.cells (bytesRow ⟨x.1.toArray⟩ (grownCap w1 x.1.length 0 5)) 5 ((bytesRow ⟨x.1.toArray⟩ (grownCap w1 x.1.length 0 5)).size, (bytesRow ⟨x.1.toArray⟩ (grownCap w1 x.1.length 0 5)).size + 1))).drew.cell? ⟨w1.heap.size, j, none⟩ = some (.int .u8 (x.1[j].toNat : Int)) := by
    intro j hj
    rw [World.cell?_drew, World.cell?_alloc_mark, bytesRow_at _ _ _ (by simpa using hj)]
    simp
  generalize hcap : grownCap w1 x.1.length 0 5 = cap
  rw [hcap] at hcell
  have hfr : Fr w1 (w1.alloc (Obj.cells (bytesRow ⟨x.1.toArray⟩ cap) 5 ((bytesRow ⟨x.1.toArray⟩ cap).size, (bytesRow ⟨x.1.toArray⟩ cap).size + 1))).drew := ((Fr.refl _).alloc _).drew
  generalize (w1.alloc (Obj.cells (bytesRow ⟨x.1.toArray⟩ cap) 5 ((bytesRow ⟨x.1.toArray⟩ cap).size, (bytesRow ⟨x.1.toArray⟩ cap).size + 1))).drew = W2 at hcell hfr ⊢
  clear hcap hcv HR
  generalize w1.heap.size = B2 at hcell ⊢
  go_loop [4, 12] (fun a i => ∃ k : Nat, k ≤ x.1.length ∧ i = .int .i64 k ∧ a = .int .u8 (ofBe (x.1.take k))) (fun _ i => x.1.length - (intOf i).toNat)
  case atStart => exact ⟨0, Nat.zero_le _, rfl, rfl⟩
  case round =>
    obtain ⟨k, hk, rfl, rfl⟩ := hrel
    by_cases hlt : k < x.1.length
    · have hc := hcell k hlt
      clear hcell
      go_wp2
      go_round
      case rel =>
        refine ⟨k + 1, by omega, by go_num, ?_⟩
        have h1 := ofBe_take_lt x.1 k 0 (by omega)
        have h2 := ofBe_take_lt x.1 (k + 1) 1 (by omega)
        have h3 := ofBe_step x.1 k hlt
        simp only [Nat.reducePow] at h1 h2
        rw [be_or _ _ (by omega), h3]; simp only [Value.int.injEq, true_and]; omega
      case measure => simp [intOf]; omega
    · go_wp2
      go_ret
      exact ⟨by rw [List.take_of_length_le (by omega)]; rfl, hr.1.keep hfr, hr.2.trans (Fr.chp hfr)⟩
theorem rU8_c (p e at_ : Nat) (s : List UInt8) (w : World) (h : RdAt w p e s at_) :
    Calls Tryd.prog 56 #[.pointer (some ⟨p, 0, none⟩)] w fun e' w' => e' = .returned (.int .u8 (ofBe (rdRaw e s at_ 1).1)) ∧ Read p s (rdRaw e s at_ 1).2 w w' := by
  have hraw := take8_c p e at_ s w h
  generalize rdRaw e s at_ 1 = x at hraw ⊢
  have HR := Lib.hid hraw
  clear hraw
  go_enter Tryd.func56, Tryd.ntmps56
  go_wp2_with fail
  refine HR.out.mono ?_
  rintro e w1 ⟨rfl, hr⟩
  go_wp2
  go_ret
  exact ⟨rfl, hr⟩

set_option maxHeartbeats 400000 in
theorem take16_c (p e at_ : Nat) (s : List UInt8) (w : World) (h : RdAt w p e s at_) :
    Calls Tryd.prog 82 #[.pointer (some ⟨p, 0, none⟩), .int .i64 2] w fun e' w' => e' = .returned (.int .u16 (ofBe (rdRaw e s at_ 2).1)) ∧ Read p s (rdRaw e s at_ 2).2 w w' := by
  have hcv := fun (W : World) (l : List UInt8) => run_bytes_of_string (P := Tryd.prog) W 9 25 5 ⟨l.toArray⟩ Tryd.underlying9 Tryd.underlying25 Tryd.underlying5
  have hraw := rRaw_c p e at_ 2 s w h (by omega)
  have hlen := rdRaw_len e s at_ 2
  generalize rdRaw e s at_ 2 = x at hraw hlen ⊢
  have HR := Lib.hid hraw
  clear hraw
  go_enter Tryd.func82, Tryd.ntmps82
  go_wp2_with fail
  refine HR.out.mono ?_
  rintro e w1 ⟨rfl, hr⟩
  go_wp2
  have hcell : ∀ j (hj : j < x.1.length), (w1.alloc (Obj.cells (bytesRow ⟨x.1.toArray⟩ (grownCap w1 x.1.length 0 5)) 5 ((bytesRow ⟨x.1.toArray⟩ (grownCap w1 x.1.length 0 5)).size, (bytesRow ⟨x.1.toArray⟩ (grownCap w1 x.1.length 0 5)).size + 1))).drew.cell? ⟨w1.heap.size, j, none⟩ = some (.int .u8 (x.1[j].toNat : Int)) := by
    intro j hj
    rw [World.cell?_drew, World.cell?_alloc_mark, bytesRow_at _ _ _ (by simpa using hj)]
    simp
  generalize hcap : grownCap w1 x.1.length 0 5 = cap
  rw [hcap] at hcell
  have hfr : Fr w1 (w1.alloc (Obj.cells (bytesRow ⟨x.1.toArray⟩ cap) 5 ((bytesRow ⟨x.1.toArray⟩ cap).size, (bytesRow ⟨x.1.toArray⟩ cap).size + 1))).drew := ((Fr.refl _).alloc _).drew
  generalize (w1.alloc (Obj.cells (bytesRow ⟨x.1.toArray⟩ cap) 5 ((bytesRow ⟨x.1.toArray⟩ cap).size, (bytesRow ⟨x.1.toArray⟩ cap).size + 1))).drew = W2 at hcell hfr ⊢
  clear hcap hcv HR
  generalize w1.heap.size = B2 at hcell ⊢
  go_loop [4, 12] (fun a i => ∃ k : Nat, k ≤ x.1.length ∧ i = .int .i64 k ∧ a = .int .u16 (ofBe (x.1.take k))) (fun _ i => x.1.length - (intOf i).toNat)
  case atStart => exact ⟨0, Nat.zero_le _, rfl, rfl⟩
  case round =>
    obtain ⟨k, hk, rfl, rfl⟩ := hrel
    by_cases hlt : k < x.1.length
    · have hc := hcell k hlt
      clear hcell
      go_wp2
      go_round
      case rel =>
        refine ⟨k + 1, by omega, by go_num, ?_⟩
        have h1 := ofBe_take_lt x.1 k 1 (by omega)
        have h2 := ofBe_take_lt x.1 (k + 1) 2 (by omega)
        have h3 := ofBe_step x.1 k hlt
        simp only [Nat.reducePow] at h1 h2
        rw [be_or _ _ (by omega), IntWalk.u16_in _ (by omega), h3]
      case measure => simp [intOf]; omega
    · go_wp2
      go_ret
      exact ⟨by rw [List.take_of_length_le (by omega)]; rfl, hr.1.keep hfr, hr.2.trans (Fr.chp hfr)⟩
theorem rU16_c (p e at_ : Nat) (s : List UInt8) (w : World) (h : RdAt w p e s at_) :
    Calls Tryd.prog 57 #[.pointer (some ⟨p, 0, none⟩)] w fun e' w' => e' = .returned (.int .u16 (ofBe (rdRaw e s at_ 2).1)) ∧ Read p s (rdRaw e s at_ 2).2 w w' := by
  have hraw := take16_c p e at_ s w h
  generalize rdRaw e s at_ 2 = x at hraw ⊢
  have HR := Lib.hid hraw
  clear hraw
  go_enter Tryd.func57, Tryd.ntmps57
  go_wp2_with fail
  refine HR.out.mono ?_
  rintro e w1 ⟨rfl, hr⟩
  go_wp2
  go_ret
  exact ⟨rfl, hr⟩


theorem Chp.grownBy {p : Nat} {w w' : World} (h : Chp p w w') : w.grownBy w' (some p) := ⟨h.os, h.tape, h.output, h.size, fun k hk hne => h.block k hk (fun e => hne (by rw [e])) (by intro e; cases e)⟩
theorem ownsRow_chp {w w' : World} {p base : Nat} {e : TypeId} {size : Nat} {v : Value} {n : Nat} {xs : List Value} (h : w.ownsRow base e size v n xs) (hp : p < base) (k : Chp p w w') : w'.ownsRow base e size v n xs :=
  h.kept k.grownBy (by
    cases hv : v.ownBlock with
    | none => exact .inl rfl
    | some g => exact .inr (by intro e; cases e; have := (h.lt p hv).1; omega))
/-- A list that is read: its numbers; the error behind; how many bytes are read behind. -/
def rdNums (s : List UInt8) (at_ m : Nat) : List Nat := (List.range m).map fun i => ofBe ((s.drop (at_ + 2 * i)).take 2)
def rdList (e : Nat) (s : List UInt8) (at_ : Nat) : List Nat × Nat × Nat :=
  if e ≠ 0 then ([], e, at_) else if s.length - at_ < 1 then ([], 5, at_)
  else if s.length - (at_ + 1) < 2 * (s.getD at_ 0).toNat then ([], 5, at_) else (rdNums s (at_ + 1) (s.getD at_ 0).toNat, 0, at_ + 1 + 2 * (s.getD at_ 0).toNat)
theorem ofBe_one (s : List UInt8) (at_ : Nat) (h : at_ < s.length) : ofBe ((s.drop at_).take 1) = (s.getD at_ 0).toNat := by
  have e : (s.drop at_).take 1 = [s[at_]] := by rw [List.drop_eq_getElem_cons h]; rfl
  rw [e]
  simp [ofBe, List.getD, h]
end Go.Proofs.YthaocbmkkgeomaaDoor

/- The walks of umpire/result: Check, Put, Take. No condition but the numbers' bounds. -/
namespace Go.Proofs.YthaocbmkkgeomaaDoor
open Go.RowKit

/-- May an answer be? -/
def goodB (K V : Nat) : Bool := K == 1 || (decide (K ≤ 4) && V == 0)
def checkRes (K V : Nat) : Nat := if goodB K V then 0 else 4
def resBytes (K V : Nat) : List UInt8 := if K = 1 then be 1 1 ++ be V 2 else be K 1
theorem res_cases (K V : Nat) : (4 < K ∧ goodB K V = false) ∨ (K = 1 ∧ goodB K V = true) ∨ (K ≤ 4 ∧ K ≠ 1 ∧ V = 0 ∧ goodB K V = true) ∨ (K ≤ 4 ∧ K ≠ 1 ∧ V ≠ 0 ∧ goodB K V = false) := by
  unfold goodB
  by_cases h1 : K = 1
  · simp [h1]
  · by_cases h2 : K ≤ 4
    · by_cases h3 : V = 0
      · simp [h1, h2, h3]
      · simp [h1, h2, h3]
    · simp [h1, h2]; omega

theorem resCheck_c (K V : Nat) (w : World) :
    Calls Tryd.prog 26 #[.agg #[.int .u8 K, .int .u16 V]] w fun e w' => e = .returned (.int .i64 (checkRes K V)) ∧ Fr w w' := by
  rcases res_cases K V with ⟨h, hg⟩ | ⟨h, hg⟩ | ⟨h, h1, h2, hg⟩ | ⟨h, h1, h2, hg⟩
  · have HC : Hid (checkRes K V = 4) := by simp [Hid, checkRes, hg]
    have h' : (4 : Int) < K := by omega
    clear hg h
    go_enter Tryd.func26, Tryd.ntmps26
    go_wp2
    go_ret
    exact ⟨by rw [HC.out]; rfl, (Fr.refl _).alloc _⟩
  · subst h
    have HC : Hid (checkRes 1 V = 0) := by simp [Hid, checkRes, hg]
    clear hg
    go_enter Tryd.func26, Tryd.ntmps26
    go_wp2
    go_ret
    exact ⟨by rw [HC.out]; rfl, (Fr.refl _).alloc _⟩
  · subst h2
    have HC : Hid (checkRes K 0 = 0) := by simp [Hid, checkRes, hg]
    have h' : ¬ (4 : Int) < K := by omega
    have h1' : ((K : Int) != 1) = true := by simp; omega
    clear hg h h1
    go_enter Tryd.func26, Tryd.ntmps26
    go_wp2
    go_ret
    exact ⟨by rw [HC.out]; rfl, (Fr.refl _).alloc _⟩
  · have HC : Hid (checkRes K V = 4) := by simp [Hid, checkRes, hg]
    have h' : ¬ (4 : Int) < K := by omega
    have h1' : ((K : Int) != 1) = true := by simp; omega
    have h2' : ((V : Int) != 0) = true := by simp; omega
    clear hg h h1 h2
    go_enter Tryd.func26, Tryd.ntmps26
    go_wp2
    go_ret
    exact ⟨by rw [HC.out]; rfl, (Fr.refl _).alloc _⟩
theorem rGood_c (K V : Nat) (w : World) :
    Calls Tryd.prog 27 #[.agg #[.int .u8 K, .int .u16 V]] w fun e w' => e = .returned (.bool (goodB K V)) ∧ Fr w w' := by
  rcases res_cases K V with ⟨h, hg⟩ | ⟨h, hg⟩ | ⟨h, h1, h2, hg⟩ | ⟨h, h1, h2, hg⟩
  · have HC := Lib.hid hg
    have h' : ¬ (K : Int) ≤ 4 := by omega
    have h1' : ((K : Int) == 1) = false := by simp; omega
    clear hg h
    go_enter Tryd.func27, Tryd.ntmps27
    go_wp2
    go_ret
    exact ⟨by rw [HC.out]; rfl, (Fr.refl _).alloc _⟩
  · subst h
    have HC := Lib.hid hg
    clear hg
    go_enter Tryd.func27, Tryd.ntmps27
    go_wp2
    go_ret
    exact ⟨by rw [HC.out]; rfl, (Fr.refl _).alloc _⟩
  · subst h2
    have HC := Lib.hid hg
    have h' : (K : Int) ≤ 4 := by omega
    have h1' : ((K : Int) == 1) = false := by simp; omega
    clear hg h h1
    go_enter Tryd.func27, Tryd.ntmps27
    go_wp2
    go_ret
    exact ⟨by rw [HC.out]; rfl, (Fr.refl _).alloc _⟩
  · have HC := Lib.hid hg
    have h' : (K : Int) ≤ 4 := by omega
    have h1' : ((K : Int) == 1) = false := by simp; omega
    have h2' : ((V : Int) == 0) = false := by simp; omega
    clear hg h h1 h2
    go_enter Tryd.func27, Tryd.ntmps27
    go_wp2
    go_ret
    exact ⟨by rw [HC.out]; rfl, (Fr.refl _).alloc _⟩

/-- What result.Put tells: the bytes, and 0; or none, and 4. -/
def putRes (K V : Nat) : List UInt8 × Nat := if goodB K V then (resBytes K V, 0) else ([], 4)
/-- A new writer. -/
theorem WrAt.new {w w1 : World} (hw : w1 = w.alloc (.cells #[.int .i64 0, .slice none 0 0] 92)) : WrAt w1 w.heap.size (.slice none 0 0) [] := by
  subst hw
  exact ⟨by simp, by simp, by simp, by simp, by simpa [byteCells] using World.ownsRow_nil _ _ _ _⟩
theorem Wrote.fr {p : Nat} {v : Value} {l l0 : List UInt8} {a w w' : World} (f : Fr a w) (h : Wrote p v l w w') (hw : WrAt w p v l0) (hp : a.heap.size ≤ p) : Fr a w' := f.trans' (Below.mono (h.below hw) hp)
theorem resPut_no (K V : Nat) (w : World) (hg : goodB K V = false) :
    Calls Tryd.prog 20 #[.agg #[.int .u8 K, .int .u16 V]] w fun e w' => e = .returned (.tuple #[.string ⟨#[]⟩, .int .i64 4]) ∧ Fr w w' := by
  have HC : Hid (checkRes K V = 4) := by simp [Hid, checkRes, hg]
  clear hg
  go_enter Tryd.func20, Tryd.ntmps20
  go_wp2_with fail
  refine (resCheck_c K V _).mono ?_
  rw [HC.out]
  rintro e w1 ⟨rfl, hb⟩
  go_wp2
  go_ret2
  exact ⟨rfl, Fr.trans ((Fr.refl _).alloc _) hb⟩
theorem resPut_yes (K V : Nat) (w : World) (hg : goodB K V = true) (hK : K < 256) (hV : V < 65536) :
    Calls Tryd.prog 20 #[.agg #[.int .u8 K, .int .u16 V]] w fun e w' => e = .returned (.tuple #[.string ⟨(resBytes K V).toArray⟩, .int .i64 0]) ∧ Fr w w' := by
  have HC : Hid (checkRes K V = 0) := by simp [Hid, checkRes, hg]
  clear hg
  go_enter Tryd.func20, Tryd.ntmps20
  go_wp2_with fail
  refine (resCheck_c K V _).mono ?_
  rw [HC.out]
  rintro e w1 ⟨rfl, hb⟩
  have b0 : w1.cell? ⟨w.heap.size, 0, none⟩ = some (.int .u8 K) := by rw [hb.cell _ _ (by simp)]; simp
  have b1 : w1.cell? ⟨w.heap.size, 1, none⟩ = some (.int .u16 V) := by rw [hb.cell _ _ (by simp)]; simp
  have hz := hb.size1
  have hf1 : Fr w w1 := Fr.trans ((Fr.refl _).alloc _) hb
  clear hb
  go_wp2_with fail
  have hw0 := WrAt.new (w := w1) rfl
  refine (U8_c K w1.heap.size _ [] _ hK hw0 (by simp)).mono ?_
  rintro e w2 ⟨rfl, H⟩
  have hbl := H.below hw0
  have hf2 : Fr w w2 := H.fr (hf1.alloc _) hw0 hf1.size
  have b0' : w2.cell? ⟨w.heap.size, 0, none⟩ = some (.int .u8 K) := by rw [Below.cell (p := ⟨w.heap.size, 0, none⟩) hbl hz, World.cell?_alloc_lt _ _ _ hz]; exact b0
  have b1' : w2.cell? ⟨w.heap.size, 1, none⟩ = some (.int .u16 V) := by rw [Below.cell (p := ⟨w.heap.size, 1, none⟩) hbl hz, World.cell?_alloc_lt _ _ _ hz]; exact b1
  obtain ⟨v2, hw2, _, _⟩ := H
  have hsz := hf1.size
  clear b0 b1 hw0 hbl hf1 hz
  generalize w1.heap.size = p at hw2 hsz ⊢
  by_cases hk : K = 1
  · subst hk
    go_wp2_with fail
    refine (U16_c V p v2 _ _ hV hw2 (by simp [be_len])).mono ?_
    rintro e w3 ⟨rfl, H⟩
    have hf3 : Fr w w3 := H.fr hf2 hw2 hsz
    obtain ⟨v3, hw3, _, _⟩ := H
    go_wp2_with fail
    refine (Bytes_c p v3 _ _ hw3).mono ?_
    rintro e w4 ⟨rfl, rfl⟩
    go_wp2
    go_ret2
    exact ⟨rfl, hf3⟩
  · have hk' : ((K : Int) == 1) = false := by simp; omega
    have HR : Hid (resBytes K V = be K 1) := by simp [Hid, resBytes, hk]
    clear hk
    go_wp2_with fail
    refine (Bytes_c p v2 _ _ hw2).mono ?_
    rintro e w4 ⟨rfl, rfl⟩
    go_wp2
    go_ret2
    exact ⟨by rw [HR.out]; rfl, hf2⟩
theorem resPut_c (K V : Nat) (w : World) (hK : K < 256) (hV : V < 65536) :
    Calls Tryd.prog 20 #[.agg #[.int .u8 K, .int .u16 V]] w fun e w' => e = .returned (.tuple #[.string ⟨(putRes K V).1.toArray⟩, .int .i64 (putRes K V).2]) ∧ Fr w w' := by
  unfold putRes
  cases hg : goodB K V
  · exact resPut_no K V w hg
  · exact resPut_yes K V w hg hK hV

/-- What result.Take tells of a reader: the answer's two numbers, the error; the reader's error and place behind. -/
def takeRes (e : Nat) (s : List UInt8) (at_ : Nat) : (Nat × Nat × Nat) × Nat × Nat :=
  let x := rdRaw e s at_ 1
  let y := if ofBe x.1 = 1 then rdRaw x.2.1 s x.2.2 2 else ([], x.2)
  (if y.2.1 ≠ 0 then (0, 0, y.2.1) else if goodB (ofBe x.1) (ofBe y.1) then (ofBe x.1, ofBe y.1, 0) else (0, 0, 4), y.2)
set_option maxHeartbeats 800000 in
theorem resTake_c (p e at_ : Nat) (s : List UInt8) (w : World) (h : RdAt w p e s at_) :
    Calls Tryd.prog 22 #[.pointer (some ⟨p, 0, none⟩)] w fun e' w' => e' = .returned (.tuple #[.agg #[.int .u8 (takeRes e s at_).1.1, .int .u16 (takeRes e s at_).1.2.1], .int .i64 (takeRes e s at_).1.2.2]) ∧ Read p s (takeRes e s at_).2 w w' := by
  have hp := h.lt
  have hT : takeRes e s at_ = takeRes e s at_ := rfl
  generalize hTT : takeRes e s at_ = T at hT ⊢
  clear hT
  unfold takeRes at hTT
  have h8 := fun W hW => rU8_c p e at_ s W hW
  have hl8 := rdRaw_len e s at_ 1
  generalize rdRaw e s at_ 1 = x at h8 hTT hl8
  obtain ⟨l1, e1, at1⟩ := x
  simp only at h8 hTT hl8
  have hK := ofBe_lt l1
  have hK' : ofBe l1 < 256 := Nat.lt_of_lt_of_le hK (Nat.pow_le_pow_right (by omega) (n := 256) hl8)
  generalize ofBe l1 = K at h8 hTT hK'
  have H8 := Lib.hid h8
  have HT := Lib.hid hTT
  clear h8 hTT hK hl8
  go_enter Tryd.func22, Tryd.ntmps22
  go_wp2_with fail
  have hr0 := h.keep ((Fr.refl w).alloc (Obj.cells #[Value.int IntKind.u8 0, Value.int IntKind.u16 0] 24))
  have hc0 : Chp p w (w.alloc (Obj.cells #[Value.int IntKind.u8 0, Value.int IntKind.u16 0] 24)) := Fr.chp ((Fr.refl w).alloc _)
  refine (H8.out _ hr0).mono ?_
  rintro e' w1 ⟨rfl, hr1, hc1⟩
  have hch1 := hc0.trans hc1
  have hz1 : w.heap.size < w1.heap.size := by have := hc1.size; simp at this; omega
  have a0 : w1.cell? ⟨w.heap.size, 0, none⟩ = some (.int .u8 0) := by rw [hc1.cell (by simp) (by omega)]; simp
  have a1 : w1.cell? ⟨w.heap.size, 1, none⟩ = some (.int .u16 0) := by rw [hc1.cell (by simp) (by omega)]; simp
  have f0 : w1.frozen? ⟨w.heap.size, 0, none⟩ = false := by rw [hc1.frozen (by simp) (by omega)]; simp
  have f1 : w1.frozen? ⟨w.heap.size, 1, none⟩ = false := by rw [hc1.frozen (by simp) (by omega)]; simp
  clear hr0 hc0 hc1
  by_cases hk : K = 1
  · subst hk
    simp only [if_true] at HT
    have hr16 := fun W hW => rU16_c p e1 at1 s W hW
    have hl2 := rdRaw_len e1 s at1 2
    generalize rdRaw e1 s at1 2 = y at hr16 HT hl2
    obtain ⟨l2, e2, at2⟩ := y
    simp only at hr16 HT hl2
    generalize ofBe l2 = V at hr16 HT
    have H16 := Lib.hid hr16
    clear hr16 hl2
    go_wp2_with fail
    have hr2 := hr1.keep ((Fr.refl w1).alloc (Obj.cells #[Value.int IntKind.u8 1, Value.int IntKind.u16 0] 24))
    refine (H16.out _ hr2).mono ?_
    rintro e' W2 ⟨rfl, hrt, hc2⟩
    have x0 : W2.cell? ⟨w1.heap.size, 0, none⟩ = some (.int .u8 1) := by rw [hc2.cell (by simp) (by have := hr1.lt; omega)]; simp
    have x1 : W2.cell? ⟨w1.heap.size, 1, none⟩ = some (.int .u16 0) := by rw [hc2.cell (by simp) (by have := hr1.lt; omega)]; simp
    have y0 : W2.frozen? ⟨w1.heap.size, 0, none⟩ = false := by rw [hc2.frozen (by simp) (by have := hr1.lt; omega)]; simp
    have y1 : W2.frozen? ⟨w1.heap.size, 1, none⟩ = false := by rw [hc2.frozen (by simp) (by have := hr1.lt; omega)]; simp
    have a0 : W2.cell? ⟨w.heap.size, 0, none⟩ = some (.int .u8 0) := by rw [hc2.cell (by simp; omega) (by omega), World.cell?_alloc_lt _ _ _ hz1]; exact a0
    have a1 : W2.cell? ⟨w.heap.size, 1, none⟩ = some (.int .u16 0) := by rw [hc2.cell (by simp; omega) (by omega), World.cell?_alloc_lt _ _ _ hz1]; exact a1
    have f0 : W2.frozen? ⟨w.heap.size, 0, none⟩ = false := by rw [hc2.frozen (by simp; omega) (by omega), World.frozen?_alloc_past _ _ _ hz1]; exact f0
    have f1 : W2.frozen? ⟨w.heap.size, 1, none⟩ = false := by rw [hc2.frozen (by simp; omega) (by omega), World.frozen?_alloc_past _ _ _ hz1]; exact f1
    have hcht : Chp p w W2 := (hch1.alloc _).trans hc2
    have hpq : p < w1.heap.size := hr1.lt
    have hq1 : w.heap.size ≠ w1.heap.size := by omega
    clear hr2 hc2 hr1 hch1
    generalize w1.heap.size = q at x0 x1 y0 y1 hpq hz1 hq1 ⊢
    go_wp2_with fail
    have a0' : (W2.setCell ⟨q, 1, none⟩ (.int .u16 V)).cell? ⟨w.heap.size, 0, none⟩ = some (.int .u8 0) := by rw [World.cell?_setCell_other _ _ _ _ (by simp <;> omega)]; exact a0
    have a1' : (W2.setCell ⟨q, 1, none⟩ (.int .u16 V)).cell? ⟨w.heap.size, 1, none⟩ = some (.int .u16 0) := by rw [World.cell?_setCell_other _ _ _ _ (by simp <;> omega)]; exact a1
    have x0' : (W2.setCell ⟨q, 1, none⟩ (.int .u16 V)).cell? ⟨q, 0, none⟩ = some (.int .u8 1) := by rw [World.cell?_setCell_other _ _ _ _ (by simp)]; exact x0
    have x1' : (W2.setCell ⟨q, 1, none⟩ (.int .u16 V)).cell? ⟨q, 1, none⟩ = some (.int .u16 V) := World.cell?_setCell_same _ _ _ x1
    have f0' : (W2.setCell ⟨q, 1, none⟩ (.int .u16 V)).frozen? ⟨w.heap.size, 0, none⟩ = false := (World.frozen?_setCell ..).trans f0
    have f1' : (W2.setCell ⟨q, 1, none⟩ (.int .u16 V)).frozen? ⟨w.heap.size, 1, none⟩ = false := (World.frozen?_setCell ..).trans f1
    have hrt' := hrt.setOther (q := q) (by omega) 1 (.int .u16 V)
    have hcht' := hcht.setAt (q := q) (by omega) 1 (.int .u16 V)
    clear a0 a1 x0 x1 y0 y1 f0 f1 hrt hcht
    generalize W2.setCell ⟨q, 1, none⟩ (.int .u16 (V : Int)) = W2 at a0' a1' x0' x1' f0' f1' hrt' hcht' ⊢
    have a0 := a0'
    have a1 := a1'
    have x0 := x0'
    have x1 := x1'
    have f0 := f0'
    have f1 := f1'
    have hrt := hrt'
    have hcht := hcht'
    clear a0' a1' x0' x1' f0' f1' hrt' hcht'
    have hK1 : (1 : Nat) = 1 := rfl
    clear hK1
    have s0 : w.heap.size < W2.heap.size := lt_of_cell a0
    refine (Err_c p e2 at2 s _ hrt).mono ?_
    rintro e' w' ⟨rfl, rfl⟩
    by_cases he : e2 = 0
    · subst he
      have HE := Lib.hid (rfl : (0 : Nat) = 0)
      go_wp2_with fail
      refine (resCheck_c 1 V _).mono ?_
      rintro e' w3 ⟨rfl, hb⟩
      have hrt := hrt.keep hb
      have hcht := hcht.trans (Fr.chp hb)
      have f0 := (hb.frozen _ 0 s0).trans f0
      have f1 := (hb.frozen _ 1 s0).trans f1
      have a0 := hb.keep a0
      have a1 := hb.keep a1
      have x0 := hb.keep x0
      have x1 := hb.keep x1
      have s0 : w.heap.size < w3.heap.size := lt_of_cell a0
      clear hb
      cases hg : goodB 1 V with
      | false =>
        have HG := Lib.hid hg
        have hck : (checkRes 1 V : Int) = 4 := by simp [checkRes, hg]
        clear hg
        rw [hck]
        clear hck
        go_wp2
        refine bodyPost_ret (v := .tuple #[.agg #[.int .u8 0, .int .u16 0], .int .i64 4]) (by simp [results, Tryd.results22, go_sem, a0, a1, s0]) rfl ⟨?_, ?_, ?_⟩
        · rw [← HT.out]; simp only [ne_eq, not_true_eq_false, if_false, HG.out, Bool.false_eq_true]; rfl
        · rw [← HT.out]; simp only [ne_eq, not_true_eq_false, if_false, HG.out, Bool.false_eq_true]; exact (hrt.setOther (by omega) _ _).setOther (by omega) _ _
        · exact (hcht.setAt (Nat.le_refl _) _ _).setAt (Nat.le_refl _) _ _
      | true =>
        have HG := Lib.hid hg
        have hck : (checkRes 1 V : Int) = 0 := by simp [checkRes, hg]
        clear hg
        rw [hck]
        clear hck
        go_wp2
        refine bodyPost_ret (v := .tuple #[.agg #[.int .u8 1, .int .u16 V], .int .i64 0]) (by simp [results, Tryd.results22, go_sem, a0, a1, s0]) rfl ⟨?_, ?_, ?_⟩
        · rw [← HT.out]; simp only [ne_eq, not_true_eq_false, if_false, HG.out, if_true]; rfl
        · rw [← HT.out]; simp only [ne_eq, not_true_eq_false, if_false, HG.out, if_true]; exact (hrt.setOther (by omega) _ _).setOther (by omega) _ _
        · exact (hcht.setAt (Nat.le_refl _) _ _).setAt (Nat.le_refl _) _ _
    · have he1 : ((e2 : Int) == 0) = false := by simp; omega
      have he2 : ((e2 : Int) != 0) = true := by simp; omega
      have HE := Lib.hid he
      clear he
      go_wp2
      refine bodyPost_ret (v := .tuple #[.agg #[.int .u8 0, .int .u16 0], .int .i64 e2]) (by simp [results, Tryd.results22, go_sem, a0, a1, s0]) rfl ⟨?_, ?_, ?_⟩
      · rw [← HT.out]; simp only [ne_eq, HE.out, not_false_eq_true, if_true]; rfl
      · rw [← HT.out]; simp only [ne_eq, HE.out, not_false_eq_true, if_true]; exact (hrt.setOther (by omega) _ _).setOther (by omega) _ _
      · exact (hcht.setAt (Nat.le_refl _) _ _).setAt (Nat.le_refl _) _ _
  · have hk' : ((K : Int) == 1) = false := by simp; omega
    simp only [if_neg hk] at HT
    have HTT := HT.out
    have hl0 : ofBe ([] : List UInt8) = 0 := rfl
    simp only [hl0] at HTT
    clear HT hl0
    have HT := Lib.hid HTT
    clear hk HTT
    go_wp2_with fail
    have x0 : (w1.alloc (Obj.cells #[Value.int IntKind.u8 ↑K, Value.int IntKind.u16 0] 24)).cell? ⟨w1.heap.size, 0, none⟩ = some (.int .u8 K) := by simp
    have x1 : (w1.alloc (Obj.cells #[Value.int IntKind.u8 ↑K, Value.int IntKind.u16 0] 24)).cell? ⟨w1.heap.size, 1, none⟩ = some (.int .u16 0) := by simp
    have a0' := (World.cell?_alloc_lt w1 (Obj.cells #[Value.int IntKind.u8 ↑K, Value.int IntKind.u16 0] 24) ⟨w.heap.size, 0, none⟩ hz1).trans a0
    have a1' := (World.cell?_alloc_lt w1 (Obj.cells #[Value.int IntKind.u8 ↑K, Value.int IntKind.u16 0] 24) ⟨w.heap.size, 1, none⟩ hz1).trans a1
    have f0' := (World.frozen?_alloc_past (w := w1) (Obj.cells #[Value.int IntKind.u8 ↑K, Value.int IntKind.u16 0] 24) w.heap.size 0 hz1).trans f0
    have f1' := (World.frozen?_alloc_past (w := w1) (Obj.cells #[Value.int IntKind.u8 ↑K, Value.int IntKind.u16 0] 24) w.heap.size 1 hz1).trans f1
    have hrt := hr1.keep ((Fr.refl w1).alloc (Obj.cells #[Value.int IntKind.u8 ↑K, Value.int IntKind.u16 0] 24))
    have hcht := hch1.alloc (Obj.cells #[Value.int IntKind.u8 ↑K, Value.int IntKind.u16 0] 24)
    have hpq : p < w1.heap.size := hr1.lt
    have hq1 : w.heap.size ≠ w1.heap.size := by omega
    clear a0 a1 f0 f1 hr1 hch1
    generalize w1.alloc (Obj.cells #[Value.int IntKind.u8 ↑K, Value.int IntKind.u16 0] 24) = W2 at x0 x1 a0' a1' f0' f1' hrt hcht ⊢
    generalize w1.heap.size = q at x0 x1 hpq hz1 hq1 ⊢
    have a0 := a0'
    have a1 := a1'
    have f0 := f0'
    have f1 := f1'
    clear a0' a1' f0' f1'
    have s0 : w.heap.size < W2.heap.size := lt_of_cell a0
    refine (Err_c p e1 at1 s _ hrt).mono ?_
    rintro e' w' ⟨rfl, rfl⟩
    by_cases he : e1 = 0
    · subst he
      have HE := Lib.hid (rfl : (0 : Nat) = 0)
      go_wp2_with fail
      refine (resCheck_c K 0 _).mono ?_
      rintro e' w3 ⟨rfl, hb⟩
      have hrt := hrt.keep hb
      have hcht := hcht.trans (Fr.chp hb)
      have f0 := (hb.frozen _ 0 s0).trans f0
      have f1 := (hb.frozen _ 1 s0).trans f1
      have a0 := hb.keep a0
      have a1 := hb.keep a1
      have x0 := hb.keep x0
      have x1 := hb.keep x1
      have s0 : w.heap.size < w3.heap.size := lt_of_cell a0
      clear hb
      cases hg : goodB K 0 with
      | false =>
        have HG := Lib.hid hg
        have hck : (checkRes K 0 : Int) = 4 := by simp [checkRes, hg]
        clear hg
        rw [hck]
        clear hck
        go_wp2
        refine bodyPost_ret (v := .tuple #[.agg #[.int .u8 0, .int .u16 0], .int .i64 4]) (by simp [results, Tryd.results22, go_sem, a0, a1, s0]) rfl ⟨?_, ?_, ?_⟩
        · rw [← HT.out]; simp only [ne_eq, not_true_eq_false, if_false, HG.out, Bool.false_eq_true]; rfl
        · rw [← HT.out]; simp only [ne_eq, not_true_eq_false, if_false, HG.out, Bool.false_eq_true]; exact (hrt.setOther (by omega) _ _).setOther (by omega) _ _
        · exact (hcht.setAt (Nat.le_refl _) _ _).setAt (Nat.le_refl _) _ _
      | true =>
        have HG := Lib.hid hg
        have hck : (checkRes K 0 : Int) = 0 := by simp [checkRes, hg]
        clear hg
        rw [hck]
        clear hck
        go_wp2
        refine bodyPost_ret (v := .tuple #[.agg #[.int .u8 K, .int .u16 0], .int .i64 0]) (by simp [results, Tryd.results22, go_sem, a0, a1, s0]) rfl ⟨?_, ?_, ?_⟩
        · rw [← HT.out]; simp only [ne_eq, not_true_eq_false, if_false, HG.out, if_true]; rfl
        · rw [← HT.out]; simp only [ne_eq, not_true_eq_false, if_false, HG.out, if_true]; exact (hrt.setOther (by omega) _ _).setOther (by omega) _ _
        · exact (hcht.setAt (Nat.le_refl _) _ _).setAt (Nat.le_refl _) _ _
    · have he1 : ((e1 : Int) == 0) = false := by simp; omega
      have he2 : ((e1 : Int) != 0) = true := by simp; omega
      have HE := Lib.hid he
      clear he
      go_wp2
      refine bodyPost_ret (v := .tuple #[.agg #[.int .u8 0, .int .u16 0], .int .i64 e1]) (by simp [results, Tryd.results22, go_sem, a0, a1, s0]) rfl ⟨?_, ?_, ?_⟩
      · rw [← HT.out]; simp only [ne_eq, HE.out, not_false_eq_true, if_true]; rfl
      · rw [← HT.out]; simp only [ne_eq, HE.out, not_false_eq_true, if_true]; exact (hrt.setOther (by omega) _ _).setOther (by omega) _ _
      · exact (hcht.setAt (Nat.le_refl _) _ _).setAt (Nat.le_refl _) _ _
end Go.Proofs.YthaocbmkkgeomaaDoor

/- The walks of umpireref01: numbers, lists, their reader. No condition but what each says. -/
namespace Go.Proofs.YthaocbmkkgeomaaDoor
open Go.RowKit

theorem ofNat_mod (m : Nat) : UInt8.ofNat (m % 256) = UInt8.ofNat m := by
  apply UInt8.toNat_inj.1; simp
theorem rNumber_c (n W : Nat) (w : World) (hn : n < 4294967296) (hW : W ≤ 100) :
    Calls Tryd.prog 59 #[.int .u32 n, .int .i64 W] w fun e w' => e = .returned (.string ⟨(be n W).toArray⟩) ∧ Fr w w' := by
  go_enter Tryd.func59, Tryd.ntmps59
  go_wp2
  go_loopw [0, 5, 6] (fun a s i wr => ∃ (k m : Nat) (l : List UInt8), k ≤ W ∧ a = .int .u32 m ∧ s = .string ⟨l.toArray⟩ ∧ i = .int .i64 k ∧ m ≤ n ∧ be m (W - k) ++ l = be n W ∧ l.length = k ∧ Fr w wr) (fun _ _ i _ => W - (intOf i).toNat)
  case atStart => exact ⟨0, n, [], Nat.zero_le _, rfl, rfl, rfl, Nat.le_refl _, by simp, rfl, Fr.refl _⟩
  case round =>
    obtain ⟨k, m, l, hk, rfl, rfl, rfl, hm, hbe, hl, hfr⟩ := hrel
    have HB := Lib.hid hbe
    have HL := Lib.hid hl
    have hll : l.length ≤ 100 := by omega
    clear hbe hl
    by_cases hlt : k < W
    · have hlt' : (k : Int) < W := by omega
      go_wp2
      go_roundw
      case rel => exact ⟨k + 1, m / 256, UInt8.ofNat (m % 256) :: l, by omega, by go_num, congrArg Value.string (mk_append [_] _), by go_num, by omega, by
        have e : W - k = (W - (k + 1)) + 1 := by omega
        rw [← HB.out, e, be, ofNat_mod]; simp, by simp; exact HL.out, hfr.alloc _⟩
      case measure => simp [intOf]; omega
    · go_wp2
      go_ret
      refine ⟨?_, hfr⟩
      have h := HB.out
      rw [show W - k = 0 by omega] at h
      rw [← h]; rfl

/-- The document's reader in block 'p': what is left of 's' behind 'at_' bytes, and its error. -/
structure RfAt (w : World) (p : Nat) (e : Nat) (s : List UInt8) (at_ : Nat) : Prop where
  c0 : w.cell? ⟨p, 0, none⟩ = some (.string ⟨(s.drop at_).toArray⟩)
  c1 : w.cell? ⟨p, 1, none⟩ = some (.int .i64 (at_ : Int))
  c2 : w.cell? ⟨p, 2, none⟩ = some (.int .i64 (e : Int))
  f0 : w.frozen? ⟨p, 0, none⟩ = false
  f1 : w.frozen? ⟨p, 1, none⟩ = false
  f2 : w.frozen? ⟨p, 2, none⟩ = false
  le : at_ ≤ s.length
  big : s.length ≤ 140737488355328
theorem RfAt.lt {w : World} {p e at_ : Nat} {s : List UInt8} (h : RfAt w p e s at_) : p < w.heap.size := lt_of_cell h.c0
theorem RfAt.keep {w w' : World} {p e at_ : Nat} {s : List UInt8} (h : RfAt w p e s at_) (f : Fr w w') : RfAt w' p e s at_ :=
  ⟨f.keep h.c0, f.keep h.c1, f.keep h.c2, (f.frozen p 0 h.lt).trans h.f0, (f.frozen p 1 h.lt).trans h.f1, (f.frozen p 2 h.lt).trans h.f2, h.le, h.big⟩
theorem RfAt.block {w w' : World} {p e at_ : Nat} {s : List UInt8} (h : RfAt w p e s at_) (hb : w'.heap[p]? = w.heap[p]?) : RfAt w' p e s at_ :=
  ⟨(World.cell?_of_block (a := ⟨p, 0, none⟩) hb).trans h.c0, (World.cell?_of_block (a := ⟨p, 1, none⟩) hb).trans h.c1, (World.cell?_of_block (a := ⟨p, 2, none⟩) hb).trans h.c2, (World.frozen?_of_block (a := ⟨p, 0, none⟩) hb).trans h.f0, (World.frozen?_of_block (a := ⟨p, 1, none⟩) hb).trans h.f1, (World.frozen?_of_block (a := ⟨p, 2, none⟩) hb).trans h.f2, h.le, h.big⟩
/-- A reader of the document's that has read. -/
def RRead (p : Nat) (s : List UInt8) (x : Nat × Nat) (w w' : World) : Prop := RfAt w' p x.1 s x.2 ∧ Chp p w w'

theorem fRaw_err (p e at_ n : Nat) (s : List UInt8) (w : World) (h : RfAt w p e s at_) (he : e ≠ 0) :
    Calls Tryd.prog 86 #[.pointer (some ⟨p, 0, none⟩), .int .i64 n] w fun e' w' => e' = .returned (.string ⟨#[]⟩) ∧ w = w' := by
  have c2 := h.c2
  have he' : ((e : Int) != 0) = true := by simp; omega
  clear he
  go_enter Tryd.func86, Tryd.ntmps86
  go_wp2
  go_ret
  exact ⟨rfl, rfl⟩
theorem fRaw_torn (p at_ n : Nat) (s : List UInt8) (w : World) (h : RfAt w p 0 s at_) (hn : s.length - at_ < n) :
    Calls Tryd.prog 86 #[.pointer (some ⟨p, 0, none⟩), .int .i64 n] w fun e' w' => e' = .returned (.string ⟨#[]⟩) ∧ RRead p s (5, at_) w w' := by
  have c2 : w.cell? ⟨p, 2, none⟩ = some (.int .i64 0) := h.c2
  have c0 := h.c0
  have f2 := h.f2
  have hsz := size_mk (s.drop at_)
  have hlt : ((s.drop at_).length : Int) < n := by simp; omega
  have hpos : ¬ (n : Int) ≤ 0 := by omega
  clear hn
  generalize s.drop at_ = r at c0 hsz hlt
  go_enter Tryd.func86, Tryd.ntmps86
  go_wp2
  go_ret
  refine ⟨rfl, ⟨?_, ?_, ?_, ?_, ?_, ?_, h.le, h.big⟩, (Chp.refl _ _).setCell 2 _⟩
  · rw [World.cell?_setCell_other _ _ _ _ (by simp)]; exact h.c0
  · rw [World.cell?_setCell_other _ _ _ _ (by simp)]; exact h.c1
  · exact World.cell?_setCell_same _ _ _ c2
  · exact (World.frozen?_setCell ..).trans h.f0
  · exact (World.frozen?_setCell ..).trans h.f1
  · exact (World.frozen?_setCell ..).trans h.f2
theorem fRaw_ok (p at_ n : Nat) (s : List UInt8) (w : World) (h : RfAt w p 0 s at_) (hn : n ≤ s.length - at_) (hp : 0 < n) :
    Calls Tryd.prog 86 #[.pointer (some ⟨p, 0, none⟩), .int .i64 n] w fun e' w' => e' = .returned (.string ⟨((s.drop at_).take n).toArray⟩) ∧ RRead p s (0, at_ + n) w w' := by
  have c2 : w.cell? ⟨p, 2, none⟩ = some (.int .i64 0) := h.c2
  have c0 := h.c0
  have c1 := h.c1
  have f0 := h.f0
  have f1 := h.f1
  have hbig := h.big
  have hle := h.le
  have hsz := size_mk (s.drop at_)
  have hlt : (n : Int) ≤ ((s.drop at_).length : Int) := by simp; omega
  have hdr : ∀ h, ((s.drop at_).drop n) = s.drop (at_ + n) := fun _ : True => by rw [List.drop_drop]
  have hd := hdr trivial
  have HD := Lib.hid hd
  have hpos : ¬ (n : Int) ≤ 0 := by omega
  have hsum : (at_ : Int) + n ≤ 140737488355328 := by omega
  have hsum2 : at_ + n ≤ s.length := by omega
  clear hn hdr hd hbig
  generalize s.drop at_ = r at c0 hsz hlt HD ⊢
  go_enter Tryd.func86, Tryd.ntmps86
  go_wp2
  go_ret
  have e1 : (⟨r.toArray⟩ : ByteArray).extract n r.length = ⟨(s.drop (at_ + n)).toArray⟩ := by
    rw [← HD.out]; apply ByteArray.ext; simp [ByteArray.data_extract, List.take_of_length_le]
  refine ⟨ret_str (by simp [ByteArray.data_extract]), ⟨?_, ?_, ?_, ?_, ?_, ?_, hsum2, h.big⟩, ((Chp.refl _ _).setCell 0 _).setCell 1 _⟩
  · rw [World.cell?_setCell_other _ _ _ _ (by simp), e1]; exact World.cell?_setCell_same _ _ _ c0
  · rw [World.cell?_setCell_same (u := .int .i64 at_) _ _ _ (by rw [World.cell?_setCell_other _ _ _ _ (by simp)]; exact c1)]; simp
  · rw [World.cell?_setCell_other _ _ _ _ (by simp), World.cell?_setCell_other _ _ _ _ (by simp)]; exact h.c2
  · exact ((World.frozen?_setCell ..).trans (World.frozen?_setCell ..)).trans h.f0
  · exact ((World.frozen?_setCell ..).trans (World.frozen?_setCell ..)).trans h.f1
  · exact ((World.frozen?_setCell ..).trans (World.frozen?_setCell ..)).trans h.f2
theorem fRaw_c (p e at_ n : Nat) (s : List UInt8) (w : World) (h : RfAt w p e s at_) (hp : 0 < n) :
    Calls Tryd.prog 86 #[.pointer (some ⟨p, 0, none⟩), .int .i64 n] w fun e' w' => e' = .returned (.string ⟨(rdRaw e s at_ n).1.toArray⟩) ∧ RRead p s (rdRaw e s at_ n).2 w w' := by
  unfold rdRaw
  by_cases he : e ≠ 0
  · simp only [if_pos he]
    exact (fRaw_err p e at_ n s w h he).mono fun e' w' ⟨h1, h2⟩ => ⟨h1, by subst h2; exact ⟨h, Chp.refl _ _⟩⟩
  · obtain rfl : e = 0 := by omega
    simp only [if_neg he]
    by_cases hlt : s.length - at_ < n
    · simp only [if_pos hlt]
      exact fRaw_torn p at_ n s w h hlt
    · simp only [if_neg hlt]
      exact fRaw_ok p at_ n s w h (by omega) hp
theorem fNum_c (p e at_ W : Nat) (s : List UInt8) (w : World) (h : RfAt w p e s at_) (hW : 0 < W) (hW4 : W ≤ 4) :
    Calls Tryd.prog 63 #[.pointer (some ⟨p, 0, none⟩), .int .i64 W] w fun e' w' => e' = .returned (.int .u32 (ofBe (rdRaw e s at_ W).1)) ∧ RRead p s (rdRaw e s at_ W).2 w w' := by
  have hraw := fRaw_c p e at_ W s w h hW
  have hlen := rdRaw_len e s at_ W
  generalize rdRaw e s at_ W = x at hraw hlen ⊢
  have HR := Lib.hid hraw
  have hl4 : x.1.length ≤ 4 := by omega
  clear hraw hlen
  have hsz := size_mk x.1
  go_enter Tryd.func63, Tryd.ntmps63
  go_wp2_with fail
  refine HR.out.mono ?_
  rintro e w1 ⟨rfl, hr⟩
  go_wp2
  go_loop [6, 7] (fun a i => ∃ k : Nat, k ≤ x.1.length ∧ i = .int .i64 k ∧ a = .int .u32 (ofBe (x.1.take k))) (fun _ i => x.1.length - (intOf i).toNat)
  case atStart => exact ⟨0, Nat.zero_le _, rfl, rfl⟩
  case round =>
    obtain ⟨k, hk, rfl, rfl⟩ := hrel
    by_cases hlt : k < x.1.length
    · have h1 := ofBe_take_lt x.1 k 3 (by omega)
      have h2 := ofBe_take_lt x.1 (k + 1) 4 (by omega)
      have h3 := ofBe_step x.1 k hlt
      simp only [Nat.reducePow] at h1 h2
      have H3 := Lib.hid h3
      have hb := (x.1[k]).toNat_lt
      have hg : ∀ hh, ((⟨x.1.toArray⟩ : ByteArray)[k]'hh) = x.1[k] := fun _ => rfl
      generalize ofBe (x.1.take k) = q at h1 H3 ⊢
      clear h3
      go_wp2
      go_round
      case rel => exact ⟨k + 1, by omega, by go_num, by rw [H3.out]; go_num⟩
      case measure => simp [intOf]; omega
    · go_wp2
      go_ret
      exact ⟨by rw [List.take_of_length_le (by omega)]; rfl, hr⟩
end Go.Proofs.YthaocbmkkgeomaaDoor

/- umpireref03.Put, Take; umpireref01.List. No condition but the numbers' bounds. -/
namespace Go.Proofs.YthaocbmkkgeomaaDoor
open Go.RowKit

theorem RfAt.setOther {w : World} {p e at_ q : Nat} {s : List UInt8} (h : RfAt w p e s at_) (hq : q ≠ p) (o : Nat) (u : Value) : RfAt (w.setCell ⟨q, o, none⟩ u) p e s at_ := h.block (Below.heap_setCell w _ u p (fun e => hq e.symm))
theorem RfAt.drew {w : World} {p e at_ : Nat} {s : List UInt8} (h : RfAt w p e s at_) : RfAt w.drew p e s at_ := h.keep ((Fr.refl w).drew)
theorem ret_str2' {a : ByteArray} {l : List UInt8} {v : Value} (h : a.data.toList = l) : Ending.returned (.tuple #[.string a, v]) = Ending.returned (.tuple #[.string ⟨l.toArray⟩, v]) := by subst h; simp
theorem be_one (K : Nat) : be K 1 = [UInt8.ofNat K] := by simp [be]
theorem rResPut_c (K V : Nat) (w : World) (hK : K < 256) (hV : V < 65536) :
    Calls Tryd.prog 24 #[.agg #[.int .u8 K, .int .u16 V]] w fun e w' => e = .returned (.tuple #[.string ⟨(putRes K V).1.toArray⟩, .int .i64 (putRes K V).2]) ∧ Fr w w' := by
  unfold putRes
  have hgood := fun W => rGood_c K V W
  cases hg : goodB K V
  · rw [hg] at hgood
    have HG := Lib.hid hgood
    clear hg hgood
    go_enter Tryd.func24, Tryd.ntmps24
    go_wp2_with fail
    refine (HG.out _).mono ?_
    rintro e w1 ⟨rfl, hb⟩
    go_wp2
    go_ret2
    exact ⟨rfl, Fr.trans ((Fr.refl _).alloc _) hb⟩
  · rw [hg] at hgood
    have HG := Lib.hid hgood
    clear hg hgood
    by_cases hk : K = 1
    · subst hk
      have HR : Hid (resBytes 1 V = be 1 1 ++ be V 2) := by simp [Hid, resBytes]
      have hl := be_len V 2
      go_enter Tryd.func24, Tryd.ntmps24
      go_wp2_with fail
      refine (HG.out _).mono ?_
      rintro e w1 ⟨rfl, hb⟩
      have b0 : w1.cell? ⟨w.heap.size, 0, none⟩ = some (.int .u8 1) := by rw [hb.cell _ _ (by simp)]; simp
      have b1 : w1.cell? ⟨w.heap.size, 1, none⟩ = some (.int .u16 V) := by rw [hb.cell _ _ (by simp)]; simp
      have hz := hb.size1
      go_wp2_with fail
      refine (rNumber_c V 2 _ (by omega) (by omega)).mono ?_
      rintro e w2 ⟨rfl, hb2⟩
      go_wp2
      go_ret2
      exact ⟨by rw [HR.out]; exact ret_str2' (by simp [be_one]), Fr.trans (Fr.trans ((Fr.refl _).alloc _) hb) hb2⟩
    · have hk' : ((K : Int) == 1) = false := by simp; omega
      have HR : Hid (resBytes K V = be K 1) := by simp [Hid, resBytes, hk]
      clear hk
      go_enter Tryd.func24, Tryd.ntmps24
      go_wp2_with fail
      refine (HG.out _).mono ?_
      rintro e w1 ⟨rfl, hb⟩
      have b0 : w1.cell? ⟨w.heap.size, 0, none⟩ = some (.int .u8 K) := by rw [hb.cell _ _ (by simp)]; simp
      have hz := hb.size1
      go_wp2_with fail
      refine (rNumber_c K 1 _ (by omega) (by omega)).mono ?_
      rintro e w2 ⟨rfl, hb2⟩
      go_wp2
      go_ret2
      exact ⟨by rw [HR.out]; rfl, Fr.trans (Fr.trans ((Fr.refl _).alloc _) hb) hb2⟩
theorem rdRaw_err {e : Nat} {s : List UInt8} {at_ n : Nat} (h : (rdRaw e s at_ n).2.1 ≠ 0) : (rdRaw e s at_ n).1 = [] := by
  unfold rdRaw at h ⊢
  split
  · rfl
  · split
    · rfl
    · rename_i h1 h2; simp [h1, h2] at h
set_option maxHeartbeats 1000000 in
set_option maxRecDepth 100000 in
theorem rResTake_c (p e at_ : Nat) (s : List UInt8) (w : World) (h : RfAt w p e s at_) :
    Calls Tryd.prog 30 #[.pointer (some ⟨p, 0, none⟩)] w fun e' w' => e' = .returned (.tuple #[.agg #[.int .u8 (takeRes e s at_).1.1, .int .u16 (takeRes e s at_).1.2.1], .int .i64 (takeRes e s at_).1.2.2]) ∧ RRead p s (takeRes e s at_).2 w w' := by
  have hp := h.lt
  have hT : takeRes e s at_ = takeRes e s at_ := rfl
  generalize hTT : takeRes e s at_ = T at hT ⊢
  clear hT
  unfold takeRes at hTT
  have h8 := fun W hW => fNum_c p e at_ 1 s W hW (by omega) (by omega)
  have hl8 := rdRaw_len e s at_ 1
  have herr := rdRaw_err (e := e) (s := s) (at_ := at_) (n := 1)
  generalize rdRaw e s at_ 1 = x at h8 hTT hl8 herr
  obtain ⟨l1, e1, at1⟩ := x
  simp only at h8 hTT hl8 herr
  have hK := ofBe_lt l1
  have hK' : ofBe l1 < 256 := Nat.lt_of_lt_of_le hK (Nat.pow_le_pow_right (by omega) (n := 256) hl8)
  have herr' : e1 ≠ 0 → ofBe l1 = 0 := fun he => by rw [herr he]; rfl
  generalize ofBe l1 = K at h8 hTT hK' herr'
  have H8 := Lib.hid h8
  have HT := Lib.hid hTT
  have HE := Lib.hid herr'
  clear h8 hTT hK hl8 herr herr'
  go_enter Tryd.func30, Tryd.ntmps30
  go_wp2_with fail
  have hr0 := h.keep ((Fr.refl w).alloc (Obj.cells #[Value.int IntKind.u8 0, Value.int IntKind.u16 0] 24))
  have hc0 : Chp p w (w.alloc (Obj.cells #[Value.int IntKind.u8 0, Value.int IntKind.u16 0] 24)) := Fr.chp ((Fr.refl w).alloc _)
  refine (H8.out _ hr0).mono ?_
  rintro e' w1 ⟨rfl, hr1, hc1⟩
  have hch1 := hc0.trans hc1
  have hz1 : w.heap.size < w1.heap.size := by have := hc1.size; simp at this; omega
  have a0 : w1.cell? ⟨w.heap.size, 0, none⟩ = some (.int .u8 0) := by rw [hc1.cell (by simp) (by omega)]; simp
  have a1 : w1.cell? ⟨w.heap.size, 1, none⟩ = some (.int .u16 0) := by rw [hc1.cell (by simp) (by omega)]; simp
  have f0 : w1.frozen? ⟨w.heap.size, 0, none⟩ = false := by rw [hc1.frozen (by simp) (by omega)]; simp
  have f1 : w1.frozen? ⟨w.heap.size, 1, none⟩ = false := by rw [hc1.frozen (by simp) (by omega)]; simp
  have c2 := hr1.c2
  clear hr0 hc0 hc1 H8
  by_cases he : e1 = 0
  · subst he
    by_cases hk : K = 1
    · subst hk
      simp only [if_true] at HT
      have hr16 := fun W hW => fNum_c p 0 at1 2 s W hW (by omega) (by omega)
      have hl2 := rdRaw_len 0 s at1 2
      generalize rdRaw 0 s at1 2 = y at hr16 HT hl2
      obtain ⟨l2, e2, at2⟩ := y
      simp only at hr16 HT hl2
      have hV : ofBe l2 < 65536 := Nat.lt_of_lt_of_le (ofBe_lt l2) (Nat.pow_le_pow_right (by omega) (n := 256) hl2)
      generalize ofBe l2 = V at hr16 HT hV
      have H16 := Lib.hid hr16
      clear hr16 hl2 HE
      go_wp2_with fail
      refine (H16.out _ hr1).mono ?_
      rintro e' W2 ⟨rfl, hrt, hc2⟩
      have a0' : W2.cell? ⟨w.heap.size, 0, none⟩ = some (.int .u8 0) := by rw [hc2.cell hz1 (by omega)]; exact a0
      have a1' : W2.cell? ⟨w.heap.size, 1, none⟩ = some (.int .u16 0) := by rw [hc2.cell hz1 (by omega)]; exact a1
      have f0' : W2.frozen? ⟨w.heap.size, 0, none⟩ = false := by rw [hc2.frozen hz1 (by omega)]; exact f0
      have f1' : W2.frozen? ⟨w.heap.size, 1, none⟩ = false := by rw [hc2.frozen hz1 (by omega)]; exact f1
      have hcht : Chp p w W2 := hch1.trans hc2
      clear a0 a1 f0 f1 c2 hr1 hch1 hc2 hz1
      have a0 := a0'
      have a1 := a1'
      have f0 := f0'
      have f1 := f1'
      have c2 := hrt.c2
      have s0 : w.heap.size < W2.heap.size := lt_of_cell a0
      clear a0' a1' f0' f1'
      by_cases he2 : e2 = 0
      · subst he2
        have hg : goodB 1 V = true := by simp [goodB]
        have HG := Lib.hid hg
        clear hg
        go_wp2
        refine bodyPost_ret (v := .tuple #[.agg #[.int .u8 1, .int .u16 V], .int .i64 0]) (by simp [results, Tryd.results30, go_sem, a0, a1, s0]) rfl ⟨?_, ?_, ?_⟩
        · rw [← HT.out]; simp only [ne_eq, not_true_eq_false, if_false, HG.out, if_true]; rfl
        · rw [← HT.out]; simp only [ne_eq, not_true_eq_false, if_false, HG.out, if_true]; exact (hrt.setOther (by omega) _ _).setOther (by omega) _ _
        · exact (hcht.setAt (Nat.le_refl _) _ _).setAt (Nat.le_refl _) _ _
      · have h1 : ((e2 : Int) != 0) = true := by simp; omega
        have HE := Lib.hid he2
        clear he2
        go_wp2
        go_region
        go_wp2
        refine bodyPost_ret (v := .tuple #[.agg #[.int .u8 0, .int .u16 0], .int .i64 e2]) (by simp [results, Tryd.results30, go_sem, a0, a1, s0]) rfl ⟨?_, ?_, ?_⟩
        · rw [← HT.out]; simp only [ne_eq, HE.out, not_false_eq_true, if_true]; rfl
        · rw [← HT.out]; simp only [ne_eq, HE.out, not_false_eq_true, if_true]; exact (by repeat (with_reducible first | exact hrt | apply RfAt.drew | refine RfAt.setOther ?_ (by omega) _ _))
        · exact (by repeat (with_reducible first | exact hcht | apply Chp.drew | refine Chp.setAt ?_ (Nat.le_refl _) _ _))
    · have hk' : ((K : Int) == 1) = false := by simp; omega
      simp only [if_neg hk] at HT
      have hl0 : ofBe ([] : List UInt8) = 0 := rfl
      simp only [hl0, ne_eq, not_true_eq_false, if_false] at HT
      have hrt := hr1
      have hcht := hch1
      have s0 := hz1
      clear hk hl0 HE hr1 hch1
      by_cases hg : goodB K 0 = true
      · have h4 : ¬ (4 : Int) < K := by unfold goodB at hg; simp at hg; omega
        simp only [hg, if_true] at HT
        clear hg
        go_wp2
        refine bodyPost_ret (v := .tuple #[.agg #[.int .u8 K, .int .u16 0], .int .i64 0]) (by simp [results, Tryd.results30, go_sem, a0, a1, s0]) rfl ⟨?_, ?_, ?_⟩
        · rw [← HT.out]; rfl
        · rw [← HT.out]; exact (by repeat (with_reducible first | exact hrt | apply RfAt.drew | refine RfAt.setOther ?_ (by omega) _ _))
        · exact (by repeat (with_reducible first | exact hcht | apply Chp.drew | refine Chp.setAt ?_ (Nat.le_refl _) _ _))
      · have h4 : (4 : Int) < K := by unfold goodB at hg; simp at hg; omega
        simp only [hg, if_false, Bool.false_eq_true] at HT
        clear hg
        go_wp2
        refine bodyPost_ret (v := .tuple #[.agg #[.int .u8 0, .int .u16 0], .int .i64 4]) (by simp [results, Tryd.results30, go_sem, a0, a1, s0]) rfl ⟨?_, ?_, ?_⟩
        · rw [← HT.out]; rfl
        · rw [← HT.out]; exact (by repeat (with_reducible first | exact hrt | apply RfAt.drew | refine RfAt.setOther ?_ (by omega) _ _))
        · exact (by repeat (with_reducible first | exact hcht | apply Chp.drew | refine Chp.setAt ?_ (Nat.le_refl _) _ _))
  · have hk0 := HE.out he
    subst hk0
    have h1 : ((e1 : Int) != 0) = true := by simp; omega
    have h2 : ((e1 : Int) == 0) = false := by simp; omega
    simp only [ne_eq, he, not_false_eq_true, if_true, Nat.zero_ne_one, if_false] at HT
    have hrt := hr1
    have hcht := hch1
    have s0 := hz1
    clear he HE hr1 hch1
    go_wp2
    go_region
    go_wp2
    refine bodyPost_ret (v := .tuple #[.agg #[.int .u8 0, .int .u16 0], .int .i64 e1]) (by simp [results, Tryd.results30, go_sem, a0, a1, s0]) rfl ⟨?_, ?_, ?_⟩
    · rw [← HT.out]; rfl
    · rw [← HT.out]; exact (by repeat (with_reducible first | exact hrt | apply RfAt.drew | refine RfAt.setOther ?_ (by omega) _ _))
    · exact (by repeat (with_reducible first | exact hcht | apply Chp.drew | refine Chp.setAt ?_ (Nat.le_refl _) _ _))
end Go.Proofs.YthaocbmkkgeomaaDoor
