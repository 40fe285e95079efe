/- The walks of umpire/codec's Reader: what is read. No condition but what each says. -/
import Derived.Test.YtfklgaeejmeipaaGreatDoorPBase
import Derived.IntWalk
import Derived.Laws.IdiomStrings
import Derived.Laws.BitsAllLaws
set_option linter.all false
set_option linter.unusedVariables false
set_option linter.unusedSimpArgs false
set_option linter.unnecessarySimpa false
/- The walks of umpire/codec's Reader: what is read. No condition but what each says. -/
namespace Go.Proofs.YtfklgaeejmeipaaGreatDoor
open Go.RowKit

/-- A reader in block 'p': its error, its bytes, how many are read. -/
structure RdAt (w : World) (p : Nat) (e : Nat) (s : List UInt8) (at_ : Nat) : Prop where
  c0 : w.cell? ⟨p, 0, none⟩ = some (.int .i64 (e : Int))
  c1 : w.cell? ⟨p, 1, none⟩ = some (.string ⟨s.toArray⟩)
  c2 : w.cell? ⟨p, 2, none⟩ = some (.int .i64 (at_ : Int))
  f0 : w.frozen? ⟨p, 0, none⟩ = false
  f1 : w.frozen? ⟨p, 1, none⟩ = false
  f2 : w.frozen? ⟨p, 2, none⟩ = false
  le : at_ ≤ s.length
  big : s.length ≤ 140737488355328
/-- Nothing turned but block 'p'. -/
def Chp (p : Nat) (w w' : World) : Prop := Ch p (.slice none 0 0) w w'
theorem Chp.refl (p : Nat) (w : World) : Chp p w w := Ch.refl _ _ _
theorem Chp.trans {p : Nat} {w w1 w2 : World} (h : Chp p w w1) (k : Chp p w1 w2) : Chp p w w2 := Ch.trans h (.inl rfl) k
theorem Chp.alloc {p : Nat} {a w : World} (h : Chp p a w) (o : Obj) : Chp p a (w.alloc o) := Ch.alloc h o
theorem Chp.drew {p : Nat} {a w : World} (h : Chp p a w) : Chp p a w.drew := Ch.drew h
theorem Chp.setCell {p : Nat} {a w : World} (h : Chp p a w) (o : Nat) (u : Value) : Chp p a (w.setCell ⟨p, o, none⟩ u) := Ch.setCell h o u
theorem Chp.setAt {p : Nat} {a w : World} (h : Chp p a w) {q : Nat} (hq : a.heap.size ≤ q) (o : Nat) (u : Value) : Chp p a (w.setCell ⟨q, o, none⟩ u) :=
  ⟨h.os, h.tape, h.output, by have := Ch.size h; simp [World.setCell]; omega, fun k hk h1 h2 => (Below.heap_setCell w _ u k (by simp; omega)).trans (h.block k hk h1 h2)⟩
theorem Chp.cell {p : Nat} {w w' : World} (h : Chp p w w') {b o : Nat} (hb : b < w.heap.size) (h1 : b ≠ p) : w'.cell? ⟨b, o, none⟩ = w.cell? ⟨b, o, none⟩ := Ch.cell h hb h1 (by intro e; cases e)
theorem Chp.frozen {p : Nat} {w w' : World} (h : Chp p w w') {b o : Nat} (hb : b < w.heap.size) (h1 : b ≠ p) : w'.frozen? ⟨b, o, none⟩ = w.frozen? ⟨b, o, none⟩ := Ch.frozen h hb h1 (by intro e; cases e)
theorem Chp.size {p : Nat} {w w' : World} (h : Chp p w w') : w.heap.size ≤ w'.heap.size := Ch.size h
theorem Chp.below {p : Nat} {w w' : World} (h : Chp p w w') (hp : p < w.heap.size) : Below p w w' :=
  ⟨h.os, h.tape, h.output, h.size, fun k hk => h.block k (by omega) (by omega) (by intro e; cases e)⟩
theorem Chp.fr {p : Nat} {a w w' : World} (f : Fr a w) (h : Chp p w w') (hp : a.heap.size ≤ p) : Fr a w' :=
  f.trans' ⟨h.os, h.tape, h.output, h.size, fun k hk => h.block k (by have := f.size; omega) (by omega) (by intro e; cases e)⟩
theorem Fr.chp {p : Nat} {w w' : World} (h : Fr w w') : Chp p w w' := ⟨h.os, h.tape, h.output, h.size, fun k hk _ _ => Fr.block h hk⟩
theorem RdAt.lt {w : World} {p e at_ : Nat} {s : List UInt8} (h : RdAt w p e s at_) : p < w.heap.size := lt_of_cell h.c0
theorem RdAt.keep {w w' : World} {p e at_ : Nat} {s : List UInt8} (h : RdAt w p e s at_) (f : Fr w w') : RdAt w' p e s at_ :=
  ⟨f.keep h.c0, f.keep h.c1, f.keep h.c2, (f.frozen p 0 h.lt).trans h.f0, (f.frozen p 1 h.lt).trans h.f1, (f.frozen p 2 h.lt).trans h.f2, h.le, h.big⟩

theorem RdAt.setOther {w : World} {p e at_ q : Nat} {s : List UInt8} (h : RdAt w p e s at_) (hq : q ≠ p) (o : Nat) (u : Value) : RdAt (w.setCell ⟨q, o, none⟩ u) p e s at_ := by
  have e : (w.setCell ⟨q, o, none⟩ u).heap[p]? = w.heap[p]? := Below.heap_setCell w _ u p (fun e => hq e.symm)
  exact ⟨(World.cell?_of_block (a := ⟨p, 0, none⟩) e).trans h.c0, (World.cell?_of_block (a := ⟨p, 1, none⟩) e).trans h.c1, (World.cell?_of_block (a := ⟨p, 2, none⟩) e).trans h.c2, (World.frozen?_of_block (a := ⟨p, 0, none⟩) e).trans h.f0, (World.frozen?_of_block (a := ⟨p, 1, none⟩) e).trans h.f1, (World.frozen?_of_block (a := ⟨p, 2, none⟩) e).trans h.f2, h.le, h.big⟩
/-- What is left of a reader's bytes. -/
theorem Left_c (p e at_ : Nat) (s : List UInt8) (w : World) (h : RdAt w p e s at_) :
    Calls Tryz.prog 150 #[.pointer (some ⟨p, 0, none⟩)] w fun e w' => e = .returned (.int .i64 ((s.length : Int) - at_)) ∧ Fr w w' := by
  obtain ⟨h0, h1, h2, _, _, _, hle, hbig⟩ := h
  have hsz := size_mk s
  have hwr : IntKind.i64.wrap ((s.length : Int) - at_) = (s.length : Int) - at_ := IntWalk.i64_in _ (by omega)
  clear hle hbig
  go_enter Tryz.func150, Tryz.ntmps150
  go_wp2
  go_quiet (fail)
  go_wp2
  go_ret
  exact ⟨rfl, (Fr.refl _).drewN _⟩
theorem Err_c (p e at_ : Nat) (s : List UInt8) (w : World) (h : RdAt w p e s at_) :
    Calls Tryz.prog 146 #[.pointer (some ⟨p, 0, none⟩)] w fun e' w' => e' = .returned (.int .i64 e) ∧ w = w' := by
  obtain ⟨h0, h1, h2, _, _, _, hle, hbig⟩ := h
  go_enter Tryz.func146, Tryz.ntmps146
  go_wp2
  go_ret
  exact ⟨rfl, rfl⟩

theorem well_no (p : Nat) (e : Nat) (w : World) (h : w.cell? ⟨p, 0, none⟩ = some (.int .i64 (e : Int))) (he : e ≠ 0) :
    Calls Tryz.prog 175 #[.pointer (some ⟨p, 0, none⟩)] w fun e w' => e = .returned (.bool false) ∧ w = w' := by
  have he' : ((e : Int) == 0) = false := by simp; omega
  clear he
  go_enter Tryz.func175, Tryz.ntmps175
  go_wp2
  go_ret
  exact ⟨rfl, rfl⟩

/-- What is read: so many bytes; the error behind; how many are read behind. -/
def rdRaw (e : Nat) (s : List UInt8) (at_ n : Nat) : List UInt8 × Nat × Nat :=
  if e ≠ 0 then ([], e, at_) else if s.length - at_ < n then ([], 5, at_) else ((s.drop at_).take n, 0, at_ + n)
/-- A reader that has read 'l'. -/
def Read (p : Nat) (s : List UInt8) (x : Nat × Nat) (w w' : World) : Prop := RdAt w' p x.1 s x.2 ∧ Chp p w w'

theorem rRaw_err (p e at_ n : Nat) (s : List UInt8) (w : World) (h : RdAt w p e s at_) (he : e ≠ 0) :
    Calls Tryz.prog 149 #[.pointer (some ⟨p, 0, none⟩), .int .i64 n] w fun e' w' => e' = .returned (.string ⟨#[]⟩) ∧ w = w' := by
  go_enter Tryz.func149, Tryz.ntmps149
  go_wp2_with (go_at_call 175; refine (well_no p e _ h.c0 he).mono ?_; rintro e w1 ⟨rfl, rfl⟩)
  all_goals (go_ret; exact ⟨rfl, rfl⟩)
theorem rRaw_torn (p at_ n : Nat) (s : List UInt8) (w : World) (h : RdAt w p 0 s at_) (hn : s.length - at_ < n) (hn1 : n < 1000000) :
    Calls Tryz.prog 149 #[.pointer (some ⟨p, 0, none⟩), .int .i64 n] w fun e' w' => e' = .returned (.string ⟨#[]⟩) ∧ Read p s (5, at_) w w' := by
  have hgt : (s.length : Int) - at_ < n := by have := h.le; omega
  have hpos : (0 : Int) < n := by omega
  have h0 : w.cell? ⟨p, 0, none⟩ = some (.int .i64 0) := h.c0
  go_enter Tryz.func149, Tryz.ntmps149
  go_wp2_with fail
  refine (well_c p _ h0).mono ?_
  rintro e w1 ⟨rfl, rfl⟩
  go_wp2_with fail
  refine (Left_c p 0 at_ s _ h).mono ?_
  rintro e w1 ⟨rfl, hb⟩
  have h1 := h.keep hb
  have c0 : w1.cell? ⟨p, 0, none⟩ = some (.int .i64 0) := h1.c0
  have f0 := h1.f0
  clear h0
  go_wp2
  go_ret
  refine ⟨rfl, ⟨?_, ?_, ?_, ?_, ?_, ?_, h.le, h.big⟩, (Fr.chp hb).setCell 0 _⟩
  · exact World.cell?_setCell_same _ _ _ c0
  · rw [World.cell?_setCell_other _ _ _ _ (by simp)]; exact h1.c1
  · rw [World.cell?_setCell_other _ _ _ _ (by simp)]; exact h1.c2
  · exact (World.frozen?_setCell ..).trans h1.f0
  · exact (World.frozen?_setCell ..).trans h1.f1
  · exact (World.frozen?_setCell ..).trans h1.f2
theorem rRaw_ok (p at_ n : Nat) (s : List UInt8) (w : World) (h : RdAt w p 0 s at_) (hn : n ≤ s.length - at_) (hpos : (0 : Int) < n) :
    Calls Tryz.prog 149 #[.pointer (some ⟨p, 0, none⟩), .int .i64 n] w fun e' w' => e' = .returned (.string ⟨((s.drop at_).take n).toArray⟩) ∧ Read p s (0, at_ + n) w w' := by
  have hle := h.le
  have hbig := h.big
  have hgt : ¬ (s.length : Int) - at_ < n := by omega
  have h0 : w.cell? ⟨p, 0, none⟩ = some (.int .i64 0) := h.c0
  go_enter Tryz.func149, Tryz.ntmps149
  go_wp2_with fail
  refine (well_c p _ h0).mono ?_
  rintro e w1 ⟨rfl, rfl⟩
  go_wp2_with fail
  refine (Left_c p 0 at_ s _ h).mono ?_
  rintro e w1 ⟨rfl, hb⟩
  have h1 := h.keep hb
  have c1 := h1.c1
  have c2 := h1.c2
  have f2 := h1.f2
  clear h0
  have hsz := size_mk s
  go_wp2
  have k1 : IntKind.i64.wrap ((at_ : Int) + n - n) = at_ := by rw [IntWalk.i64_in _ (by omega)]; omega
  have k2 : IntKind.i64.wrap ((at_ : Int) + n) = (at_ : Int) + n := IntWalk.i64_in _ (by omega)
  have k3 : (at_ : Int) ≤ at_ + n := by omega
  have k4 : (at_ : Int) + n ≤ s.length := by omega
  have k5 : (0 : Int) ≤ at_ := by omega
  go_quiet (fail)
  clear k1 k2 k3 k4 k5
  go_wp2
  go_ret
  refine ⟨ret_str (by simp [ByteArray.data_extract]), ⟨?_, ?_, ?_, ?_, ?_, ?_, by simp; omega, hbig⟩, ((Fr.chp hb).setCell 2 _).trans (Fr.chp ((Fr.refl _).drewN _))⟩
  · show (w1.setCell _ _).cell? _ = _
    rw [World.cell?_setCell_other _ _ _ _ (by simp)]; exact h1.c0
  · show (w1.setCell _ _).cell? _ = _
    rw [World.cell?_setCell_other _ _ _ _ (by simp)]; exact h1.c1
  · exact World.cell?_setCell_same _ _ _ c2
  · exact (World.frozen?_setCell ..).trans h1.f0
  · exact (World.frozen?_setCell ..).trans h1.f1
  · exact (World.frozen?_setCell ..).trans h1.f2
theorem rRaw_zero (p at_ : Nat) (s : List UInt8) (w : World) (h : RdAt w p 0 s at_) :
    Calls Tryz.prog 149 #[.pointer (some ⟨p, 0, none⟩), .int .i64 0] w fun e' w' => e' = .returned (.string ⟨#[]⟩) ∧ Read p s (0, at_) w w' := by
  have hle := h.le
  have hbig := h.big
  have hgt : ¬ (s.length : Int) - at_ < 0 := by omega
  have h0 : w.cell? ⟨p, 0, none⟩ = some (.int .i64 0) := h.c0
  go_enter Tryz.func149, Tryz.ntmps149
  go_wp2_with fail
  refine (well_c p _ h0).mono ?_
  rintro e w1 ⟨rfl, rfl⟩
  go_wp2_with fail
  refine (Left_c p 0 at_ s _ h).mono ?_
  rintro e w1 ⟨rfl, hb⟩
  have h1 := h.keep hb
  have c1 := h1.c1
  have c2 := h1.c2
  have f2 := h1.f2
  clear h0
  have hsz := size_mk s
  go_wp2
  have k1 : IntKind.i64.wrap (at_ : Int) = at_ := IntWalk.i64_in _ (by omega)
  have k4 : (at_ : Int) ≤ s.length := by omega
  have k5 : (0 : Int) ≤ at_ := by omega
  go_quiet (fail)
  clear k1 k4 k5
  go_wp2
  go_ret
  refine ⟨ret_str (l := []) (by simp [ByteArray.data_extract]), ⟨?_, ?_, ?_, ?_, ?_, ?_, hle, hbig⟩, ((Fr.chp hb).setCell 2 _).trans (Fr.chp ((Fr.refl _).drewN _))⟩
  · show (w1.setCell _ _).cell? _ = _
    rw [World.cell?_setCell_other _ _ _ _ (by simp)]; exact h1.c0
  · show (w1.setCell _ _).cell? _ = _
    rw [World.cell?_setCell_other _ _ _ _ (by simp)]; exact h1.c1
  · exact World.cell?_setCell_same _ _ _ c2
  · exact (World.frozen?_setCell ..).trans h1.f0
  · exact (World.frozen?_setCell ..).trans h1.f1
  · exact (World.frozen?_setCell ..).trans h1.f2
theorem rRaw_c (p e at_ n : Nat) (s : List UInt8) (w : World) (h : RdAt w p e s at_) (hn : n < 1000000) :
    Calls Tryz.prog 149 #[.pointer (some ⟨p, 0, none⟩), .int .i64 n] w fun e' w' => e' = .returned (.string ⟨(rdRaw e s at_ n).1.toArray⟩) ∧ Read p s (rdRaw e s at_ n).2 w w' := by
  unfold rdRaw
  by_cases he : e ≠ 0
  · simp only [if_pos he]
    exact (rRaw_err p e at_ n s w h he).mono fun e' w' ⟨h1, h2⟩ => ⟨h1, by subst h2; exact ⟨h, Chp.refl _ _⟩⟩
  · obtain rfl : e = 0 := by omega
    simp only [if_neg he]
    by_cases hlt : s.length - at_ < n
    · simp only [if_pos hlt]
      exact rRaw_torn p at_ n s w h hlt hn
    · simp only [if_neg hlt]
      rcases Nat.eq_zero_or_pos n with rfl | hp
      · simpa using rRaw_zero p at_ s w h
      · exact rRaw_ok p at_ n s w h (by omega) (by omega)
end Go.Proofs.YtfklgaeejmeipaaGreatDoor

/- The walks of umpire/codec's Reader: numbers. No condition but what each says. -/
namespace Go.Proofs.YtfklgaeejmeipaaGreatDoor
open Go.RowKit

/-- Bytes as a number, the highest first. -/
def ofBe (l : List UInt8) : Nat := l.foldl (fun a b => a * 256 + b.toNat) 0
theorem ofBe_snoc (l : List UInt8) (b : UInt8) : ofBe (l ++ [b]) = ofBe l * 256 + b.toNat := by simp [ofBe]
theorem ofBe_step (l : List UInt8) (k : Nat) (h : k < l.length) : ofBe (l.take (k + 1)) = ofBe (l.take k) * 256 + l[k].toNat := by
  rw [List.take_succ_eq_append_getElem h, ofBe_snoc]
theorem ofBe_lt' : ∀ (l : List UInt8) (a : Nat), l.foldl (fun a b => a * 256 + b.toNat) a < (a + 1) * 256 ^ l.length
  | [], a => by simp
  | b :: l, a => by
    have h := ofBe_lt' l (a * 256 + b.toNat)
    have hb := b.toNat_lt
    simp only [List.foldl_cons, List.length_cons, Nat.pow_succ]
    refine Nat.lt_of_lt_of_le h ?_
    rw [Nat.mul_comm (256 ^ l.length) 256, ← Nat.mul_assoc]
    exact Nat.mul_le_mul_right _ (by omega)
theorem ofBe_lt (l : List UInt8) : ofBe l < 256 ^ l.length := by simpa [ofBe] using ofBe_lt' l 0
theorem ofBe_take_lt (l : List UInt8) (k n : Nat) (h : k ≤ n) : ofBe (l.take k) < 256 ^ n := by
  refine Nat.lt_of_lt_of_le (ofBe_lt _) (Nat.pow_le_pow_right (by omega) ?_)
  exact Nat.le_trans (List.length_take_le _ _) h
theorem be_or (a : Nat) (b : UInt8) (ha : a < 16777216) : bits BinOp.or IntKind.u32 ((a : Int) % 4294967296 * 256 % 4294967296) ((b.toNat : Int) % 4294967296) = ((a * 256 + b.toNat : Nat) : Int) := by
  have hb := b.toNat_lt
  have e1 : (a : Int) % 4294967296 * 256 % 4294967296 = ((a * 256 : Nat) : Int) := by omega
  have e2 : (b.toNat : Int) % 4294967296 = ((b.toNat : Nat) : Int) := by omega
  rw [e1, e2, u32_or_nat _ _ (by omega) (by omega)]
  rw [Nat.mul_comm a 256]
  exact congrArg _ (Nat.two_pow_add_eq_or_of_lt (i := 8) (b := b.toNat) (by omega) a).symm
theorem be_or' (a : Nat) (b : UInt8) (ha : a < 16777216) : bits BinOp.or IntKind.u32 ((a : Int) * 256 % 4294967296) ((b.toNat : Int) % 4294967296) = ((a * 256 + b.toNat : Nat) : Int) := by
  have e : (a : Int) % 4294967296 = a := by omega
  have h := be_or a b ha
  rw [e] at h
  exact h
theorem rdRaw_len (e : Nat) (s : List UInt8) (at_ n : Nat) : (rdRaw e s at_ n).1.length ≤ n := by
  unfold rdRaw; split
  · simp
  · split
    · simp
    · simp; omega

set_option maxHeartbeats 400000 in
theorem take8_c (p e at_ : Nat) (s : List UInt8) (w : World) (h : RdAt w p e s at_) :
    Calls Tryz.prog 172 #[.pointer (some ⟨p, 0, none⟩), .int .i64 1] w fun e' w' => e' = .returned (.int .u8 (ofBe (rdRaw e s at_ 1).1)) ∧ Read p s (rdRaw e s at_ 1).2 w w' := by
  have hcv := fun (W : World) (l : List UInt8) => run_bytes_of_string (P := Tryz.prog) W 9 107 5 ⟨l.toArray⟩ Tryz.underlying9 Tryz.underlying107 Tryz.underlying5
  have hraw := rRaw_c p e at_ 1 s w h (by omega)
  have hlen := rdRaw_len e s at_ 1
  generalize rdRaw e s at_ 1 = x at hraw hlen ⊢
  have HR := Lib.hid hraw
  clear hraw
  go_enter Tryz.func172, Tryz.ntmps172
  go_wp2_with fail
  refine HR.out.mono ?_
  rintro e w1 ⟨rfl, hr⟩
  go_wp2
  have hcell : ∀ j (hj : j < x.1.length), (w1.alloc (Obj.cells (bytesRow ⟨x.1.toArray⟩ (grownCap w1 x.1.length 0 5)) 5 ((bytesRow ⟨x.1.toArray⟩ (grownCap w1 x.1.length 0 5)).size, (bytesRow ⟨x.1.toArray⟩ (grownCap w1 x.1.length 0 5)).size + 1))).drew.cell? ⟨w1.heap.size, j, none⟩ = some (.int .u8 (x.1[j].toNat : Int)) := by
    intro j hj
    rw [World.cell?_drew, World.cell?_alloc_mark, bytesRow_at _ _ _ (by simpa using hj)]
    simp
  generalize hcap : grownCap w1 x.1.length 0 5 = cap
  rw [hcap] at hcell
  have hfr : Fr w1 (w1.alloc (Obj.cells (bytesRow ⟨x.1.toArray⟩ cap) 5 ((bytesRow ⟨x.1.toArray⟩ cap).size, (bytesRow ⟨x.1.toArray⟩ cap).size + 1))).drew := ((Fr.refl _).alloc _).drew
  generalize (w1.alloc (Obj.cells (bytesRow ⟨x.1.toArray⟩ cap) 5 ((bytesRow ⟨x.1.toArray⟩ cap).size, (bytesRow ⟨x.1.toArray⟩ cap).size + 1))).drew = W2 at hcell hfr ⊢
  clear hcap hcv HR
  generalize w1.heap.size = B2 at hcell ⊢
  go_loop [4, 12] (fun a i => ∃ k : Nat, k ≤ x.1.length ∧ i = .int .i64 k ∧ a = .int .u8 (ofBe (x.1.take k))) (fun _ i => x.1.length - (intOf i).toNat)
  case atStart => exact ⟨0, Nat.zero_le _, rfl, rfl⟩
  case round =>
    obtain ⟨k, hk, rfl, rfl⟩ := hrel
    by_cases hlt : k < x.1.length
    · have hc := hcell k hlt
      clear hcell
      go_wp2
      go_round
      case rel =>
        refine ⟨k + 1, by omega, by go_num, ?_⟩
        have h1 := ofBe_take_lt x.1 k 0 (by omega)
        have h2 := ofBe_take_lt x.1 (k + 1) 1 (by omega)
        have h3 := ofBe_step x.1 k hlt
        simp only [Nat.reducePow] at h1 h2
        rw [be_or _ _ (by omega), h3]; simp only [Value.int.injEq, true_and]; omega
      case measure => simp [intOf]; omega
    · go_wp2
      go_ret
      exact ⟨by rw [List.take_of_length_le (by omega)]; rfl, hr.1.keep hfr, hr.2.trans (Fr.chp hfr)⟩
theorem rU8_c (p e at_ : Nat) (s : List UInt8) (w : World) (h : RdAt w p e s at_) :
    Calls Tryz.prog 143 #[.pointer (some ⟨p, 0, none⟩)] w fun e' w' => e' = .returned (.int .u8 (ofBe (rdRaw e s at_ 1).1)) ∧ Read p s (rdRaw e s at_ 1).2 w w' := by
  have hraw := take8_c p e at_ s w h
  generalize rdRaw e s at_ 1 = x at hraw ⊢
  have HR := Lib.hid hraw
  clear hraw
  go_enter Tryz.func143, Tryz.ntmps143
  go_wp2_with fail
  refine HR.out.mono ?_
  rintro e w1 ⟨rfl, hr⟩
  go_wp2
  go_ret
  exact ⟨rfl, hr⟩

set_option maxHeartbeats 400000 in
theorem take16_c (p e at_ : Nat) (s : List UInt8) (w : World) (h : RdAt w p e s at_) :
    Calls Tryz.prog 173 #[.pointer (some ⟨p, 0, none⟩), .int .i64 2] w fun e' w' => e' = .returned (.int .u16 (ofBe (rdRaw e s at_ 2).1)) ∧ Read p s (rdRaw e s at_ 2).2 w w' := by
  have hcv := fun (W : World) (l : List UInt8) => run_bytes_of_string (P := Tryz.prog) W 9 107 5 ⟨l.toArray⟩ Tryz.underlying9 Tryz.underlying107 Tryz.underlying5
  have hraw := rRaw_c p e at_ 2 s w h (by omega)
  have hlen := rdRaw_len e s at_ 2
  generalize rdRaw e s at_ 2 = x at hraw hlen ⊢
  have HR := Lib.hid hraw
  clear hraw
  go_enter Tryz.func173, Tryz.ntmps173
  go_wp2_with fail
  refine HR.out.mono ?_
  rintro e w1 ⟨rfl, hr⟩
  go_wp2
  have hcell : ∀ j (hj : j < x.1.length), (w1.alloc (Obj.cells (bytesRow ⟨x.1.toArray⟩ (grownCap w1 x.1.length 0 5)) 5 ((bytesRow ⟨x.1.toArray⟩ (grownCap w1 x.1.length 0 5)).size, (bytesRow ⟨x.1.toArray⟩ (grownCap w1 x.1.length 0 5)).size + 1))).drew.cell? ⟨w1.heap.size, j, none⟩ = some (.int .u8 (x.1[j].toNat : Int)) := by
    intro j hj
    rw [World.cell?_drew, World.cell?_alloc_mark, bytesRow_at _ _ _ (by simpa using hj)]
    simp
  generalize hcap : grownCap w1 x.1.length 0 5 = cap
  rw [hcap] at hcell
  have hfr : Fr w1 (w1.alloc (Obj.cells (bytesRow ⟨x.1.toArray⟩ cap) 5 ((bytesRow ⟨x.1.toArray⟩ cap).size, (bytesRow ⟨x.1.toArray⟩ cap).size + 1))).drew := ((Fr.refl _).alloc _).drew
  generalize (w1.alloc (Obj.cells (bytesRow ⟨x.1.toArray⟩ cap) 5 ((bytesRow ⟨x.1.toArray⟩ cap).size, (bytesRow ⟨x.1.toArray⟩ cap).size + 1))).drew = W2 at hcell hfr ⊢
  clear hcap hcv HR
  generalize w1.heap.size = B2 at hcell ⊢
  go_loop [4, 12] (fun a i => ∃ k : Nat, k ≤ x.1.length ∧ i = .int .i64 k ∧ a = .int .u16 (ofBe (x.1.take k))) (fun _ i => x.1.length - (intOf i).toNat)
  case atStart => exact ⟨0, Nat.zero_le _, rfl, rfl⟩
  case round =>
    obtain ⟨k, hk, rfl, rfl⟩ := hrel
    by_cases hlt : k < x.1.length
    · have hc := hcell k hlt
      clear hcell
      go_wp2
      go_round
      case rel =>
        refine ⟨k + 1, by omega, by go_num, ?_⟩
        have h1 := ofBe_take_lt x.1 k 1 (by omega)
        have h2 := ofBe_take_lt x.1 (k + 1) 2 (by omega)
        have h3 := ofBe_step x.1 k hlt
        simp only [Nat.reducePow] at h1 h2
        rw [be_or _ _ (by omega), IntWalk.u16_in _ (by omega), h3]
      case measure => simp [intOf]; omega
    · go_wp2
      go_ret
      exact ⟨by rw [List.take_of_length_le (by omega)]; rfl, hr.1.keep hfr, hr.2.trans (Fr.chp hfr)⟩
theorem rU16_c (p e at_ : Nat) (s : List UInt8) (w : World) (h : RdAt w p e s at_) :
    Calls Tryz.prog 144 #[.pointer (some ⟨p, 0, none⟩)] w fun e' w' => e' = .returned (.int .u16 (ofBe (rdRaw e s at_ 2).1)) ∧ Read p s (rdRaw e s at_ 2).2 w w' := by
  have hraw := take16_c p e at_ s w h
  generalize rdRaw e s at_ 2 = x at hraw ⊢
  have HR := Lib.hid hraw
  clear hraw
  go_enter Tryz.func144, Tryz.ntmps144
  go_wp2_with fail
  refine HR.out.mono ?_
  rintro e w1 ⟨rfl, hr⟩
  go_wp2
  go_ret
  exact ⟨rfl, hr⟩

set_option maxHeartbeats 400000 in
theorem take32_c (p e at_ : Nat) (s : List UInt8) (w : World) (h : RdAt w p e s at_) :
    Calls Tryz.prog 174 #[.pointer (some ⟨p, 0, none⟩), .int .i64 4] w fun e' w' => e' = .returned (.int .u32 (ofBe (rdRaw e s at_ 4).1)) ∧ Read p s (rdRaw e s at_ 4).2 w w' := by
  have hcv := fun (W : World) (l : List UInt8) => run_bytes_of_string (P := Tryz.prog) W 9 107 5 ⟨l.toArray⟩ Tryz.underlying9 Tryz.underlying107 Tryz.underlying5
  have hraw := rRaw_c p e at_ 4 s w h (by omega)
  have hlen := rdRaw_len e s at_ 4
  generalize rdRaw e s at_ 4 = x at hraw hlen ⊢
  have HR := Lib.hid hraw
  clear hraw
  go_enter Tryz.func174, Tryz.ntmps174
  go_wp2_with fail
  refine HR.out.mono ?_
  rintro e w1 ⟨rfl, hr⟩
  go_wp2
  have hcell : ∀ j (hj : j < x.1.length), (w1.alloc (Obj.cells (bytesRow ⟨x.1.toArray⟩ (grownCap w1 x.1.length 0 5)) 5 ((bytesRow ⟨x.1.toArray⟩ (grownCap w1 x.1.length 0 5)).size, (bytesRow ⟨x.1.toArray⟩ (grownCap w1 x.1.length 0 5)).size + 1))).drew.cell? ⟨w1.heap.size, j, none⟩ = some (.int .u8 (x.1[j].toNat : Int)) := by
    intro j hj
    rw [World.cell?_drew, World.cell?_alloc_mark, bytesRow_at _ _ _ (by simpa using hj)]
    simp
  generalize hcap : grownCap w1 x.1.length 0 5 = cap
  rw [hcap] at hcell
  have hfr : Fr w1 (w1.alloc (Obj.cells (bytesRow ⟨x.1.toArray⟩ cap) 5 ((bytesRow ⟨x.1.toArray⟩ cap).size, (bytesRow ⟨x.1.toArray⟩ cap).size + 1))).drew := ((Fr.refl _).alloc _).drew
  generalize (w1.alloc (Obj.cells (bytesRow ⟨x.1.toArray⟩ cap) 5 ((bytesRow ⟨x.1.toArray⟩ cap).size, (bytesRow ⟨x.1.toArray⟩ cap).size + 1))).drew = W2 at hcell hfr ⊢
  clear hcap hcv HR
  generalize w1.heap.size = B2 at hcell ⊢
  go_loop [4, 12] (fun a i => ∃ k : Nat, k ≤ x.1.length ∧ i = .int .i64 k ∧ a = .int .u32 (ofBe (x.1.take k))) (fun _ i => x.1.length - (intOf i).toNat)
  case atStart => exact ⟨0, Nat.zero_le _, rfl, rfl⟩
  case round =>
    obtain ⟨k, hk, rfl, rfl⟩ := hrel
    by_cases hlt : k < x.1.length
    · have hc := hcell k hlt
      clear hcell
      go_wp2
      go_round
      case rel =>
        refine ⟨k + 1, by omega, by go_num, ?_⟩
        have h1 := ofBe_take_lt x.1 k 3 (by omega)
        have h2 := ofBe_take_lt x.1 (k + 1) 4 (by omega)
        have h3 := ofBe_step x.1 k hlt
        simp only [Nat.reducePow] at h1 h2
        rw [be_or' _ _ (by omega), h3]
      case measure => simp [intOf]; omega
    · go_wp2
      go_ret
      exact ⟨by rw [List.take_of_length_le (by omega)]; rfl, hr.1.keep hfr, hr.2.trans (Fr.chp hfr)⟩
theorem rU32_c (p e at_ : Nat) (s : List UInt8) (w : World) (h : RdAt w p e s at_) :
    Calls Tryz.prog 145 #[.pointer (some ⟨p, 0, none⟩)] w fun e' w' => e' = .returned (.int .u32 (ofBe (rdRaw e s at_ 4).1)) ∧ Read p s (rdRaw e s at_ 4).2 w w' := by
  have hraw := take32_c p e at_ s w h
  generalize rdRaw e s at_ 4 = x at hraw ⊢
  have HR := Lib.hid hraw
  clear hraw
  go_enter Tryz.func145, Tryz.ntmps145
  go_wp2_with fail
  refine HR.out.mono ?_
  rintro e w1 ⟨rfl, hr⟩
  go_wp2
  go_ret
  exact ⟨rfl, hr⟩

theorem Chp.grownBy {p : Nat} {w w' : World} (h : Chp p w w') : w.grownBy w' (some p) := ⟨h.os, h.tape, h.output, h.size, fun k hk hne => h.block k hk (fun e => hne (by rw [e])) (by intro e; cases e)⟩
theorem ownsRow_chp {w w' : World} {p base : Nat} {e : TypeId} {size : Nat} {v : Value} {n : Nat} {xs : List Value} (h : w.ownsRow base e size v n xs) (hp : p < base) (k : Chp p w w') : w'.ownsRow base e size v n xs :=
  h.kept k.grownBy (by
    cases hv : v.ownBlock with
    | none => exact .inl rfl
    | some g => exact .inr (by intro e; cases e; have := (h.lt p hv).1; omega))
/-- A list that is read: its numbers; the error behind; how many bytes are read behind. -/
def rdNums (s : List UInt8) (at_ m : Nat) : List Nat := (List.range m).map fun i => ofBe ((s.drop (at_ + 2 * i)).take 2)
def rdList (e : Nat) (s : List UInt8) (at_ : Nat) : List Nat × Nat × Nat :=
  if e ≠ 0 then ([], e, at_) else if s.length - at_ < 1 then ([], 5, at_)
  else if s.length - (at_ + 1) < 2 * (s.getD at_ 0).toNat then ([], 5, at_) else (rdNums s (at_ + 1) (s.getD at_ 0).toNat, 0, at_ + 1 + 2 * (s.getD at_ 0).toNat)
theorem ofBe_one (s : List UInt8) (at_ : Nat) (h : at_ < s.length) : ofBe ((s.drop at_).take 1) = (s.getD at_ 0).toNat := by
  have e : (s.drop at_).take 1 = [s[at_]] := by rw [List.drop_eq_getElem_cons h]; rfl
  rw [e]
  simp [ofBe, List.getD, h]
theorem Tryz.infoU16 : (Tryz.prog.info? 22).map (fun i => (i.zero, i.size, i.bytes)) = some (some (.int .u16 0), 1, 2) := by kernel_rfl
theorem rList_err (p e at_ : Nat) (s : List UInt8) (w : World) (h : RdAt w p e s at_) (he : e ≠ 0) :
    Calls Tryz.prog 159 #[.pointer (some ⟨p, 0, none⟩)] w fun e' w' => e' = .returned (.slice none 0 0) ∧ w = w' := by
  go_enter Tryz.func159, Tryz.ntmps159
  go_wp2_with (go_at_call 175; refine (well_no p e _ h.c0 he).mono ?_; rintro e w1 ⟨rfl, rfl⟩)
  go_ret
  exact ⟨rfl, rfl⟩
theorem RdAt.set2 {w : World} {p e at_ : Nat} {s : List UInt8} (h : RdAt w p e s at_) (n : Nat) (hn : n ≤ s.length) : RdAt (w.setCell ⟨p, 2, none⟩ (.int .i64 n)) p e s n := by
  refine ⟨?_, ?_, World.cell?_setCell_same _ _ _ h.c2, (World.frozen?_setCell ..).trans h.f0, (World.frozen?_setCell ..).trans h.f1, (World.frozen?_setCell ..).trans h.f2, hn, h.big⟩
  · rw [World.cell?_setCell_other _ _ _ _ (by simp)]; exact h.c0
  · rw [World.cell?_setCell_other _ _ _ _ (by simp)]; exact h.c1
theorem RdAt.set0 {w : World} {p e at_ : Nat} {s : List UInt8} (h : RdAt w p e s at_) (n : Nat) : RdAt (w.setCell ⟨p, 0, none⟩ (.int .i64 n)) p n s at_ := by
  refine ⟨World.cell?_setCell_same _ _ _ h.c0, ?_, ?_, (World.frozen?_setCell ..).trans h.f0, (World.frozen?_setCell ..).trans h.f1, (World.frozen?_setCell ..).trans h.f2, h.le, h.big⟩
  · rw [World.cell?_setCell_other _ _ _ _ (by simp)]; exact h.c1
  · rw [World.cell?_setCell_other _ _ _ _ (by simp)]; exact h.c2

theorem RdAt.torn {w : World} {p at_ : Nat} {s : List UInt8} (h : RdAt w p 0 s at_) : RdAt (w.setCell ⟨p, 0, none⟩ (.int .i64 5)) p 5 s at_ := h.set0 5
set_option maxHeartbeats 400000 in
theorem rList_torn0 (p at_ : Nat) (s : List UInt8) (w : World) (h : RdAt w p 0 s at_) (ht : s.length - at_ < 1) :
    Calls Tryz.prog 159 #[.pointer (some ⟨p, 0, none⟩)] w fun e' w' => e' = .returned (.slice none 0 0) ∧ Read p s (5, at_) w w' := by
  have h0 : w.cell? ⟨p, 0, none⟩ = some (.int .i64 0) := h.c0
  have c2 := h.c2
  have hu8 := rU8_c p 0 at_ s w h
  rw [show rdRaw 0 s at_ 1 = ([], 5, at_) by simp [rdRaw, ht], show ofBe ([] : List UInt8) = 0 from rfl] at hu8
  have HU := Lib.hid hu8
  clear hu8
  go_enter Tryz.func159, Tryz.ntmps159
  go_wp2_with fail
  refine (well_c p _ h0).mono ?_
  rintro e w1 ⟨rfl, rfl⟩
  go_wp2_with fail
  refine HU.out.mono ?_
  rintro e w1 ⟨rfl, hr⟩
  have c0' : w1.cell? ⟨p, 0, none⟩ = some (.int .i64 5) := hr.1.c0
  clear h0 c2
  go_wp2_with fail
  refine (well_no p 5 _ hr.1.c0 (by omega)).mono ?_
  rintro e w2 ⟨rfl, rfl⟩
  go_wp2_with fail
  refine wp_loop_rounds 1 ?_
  rw [rounds_succ]
  have c2 := hr.1.c2
  have f2 := hr.1.f2
  go_wp2_with (go_at_call 175; refine (well_no p 5 _ hr.1.c0 (by omega)).mono ?_; rintro e w1 ⟨rfl, rfl⟩)
  go_ret
  exact ⟨rfl, hr.1.set2 at_ hr.1.le, hr.2.setCell 2 _⟩

set_option maxHeartbeats 400000 in
theorem rList_torn1 (p at_ m : Nat) (s : List UInt8) (w : World) (h : RdAt w p 0 s at_) (hl : at_ < s.length) (hm : (s.getD at_ 0).toNat = m) (hm1 : m < 256) (ht : s.length - (at_ + 1) < 2 * m) :
    Calls Tryz.prog 159 #[.pointer (some ⟨p, 0, none⟩)] w fun e' w' => e' = .returned (.slice none 0 0) ∧ Read p s (5, at_) w w' := by
  have h0 : w.cell? ⟨p, 0, none⟩ = some (.int .i64 0) := h.c0
  have c2 := h.c2
  have hu8 := rU8_c p 0 at_ s w h
  have hle := h.le
  rw [show rdRaw 0 s at_ 1 = ((s.drop at_).take 1, 0, at_ + 1) by simp [rdRaw]; omega, ofBe_one s at_ hl, hm] at hu8
  have HU := Lib.hid hu8
  clear hu8 hm
  go_enter Tryz.func159, Tryz.ntmps159
  go_wp2_with fail
  refine (well_c p _ h0).mono ?_
  rintro e w1 ⟨rfl, rfl⟩
  go_wp2_with fail
  refine HU.out.mono ?_
  rintro e w1 ⟨rfl, hr⟩
  have c0' : w1.cell? ⟨p, 0, none⟩ = some (.int .i64 0) := hr.1.c0
  clear h0 c2
  go_wp2_with fail
  refine (well_c p _ c0').mono ?_
  rintro e w2 ⟨rfl, rfl⟩
  go_wp2_with fail
  refine (Left_c p 0 (at_ + 1) s _ hr.1).mono ?_
  rintro e w2 ⟨rfl, hb⟩
  have hr2 := hr.1.keep hb
  have hc2 := hr.2.trans (Fr.chp hb)
  have c0 : w2.cell? ⟨p, 0, none⟩ = some (.int .i64 0) := hr2.c0
  have f0 := hr2.f0
  have hlt : (s.length : Int) - ((at_ + 1 : Nat) : Int) < 2 * (m : Int) := by omega
  have hpos : (0 : Int) < m := by omega
  clear c0'
  go_wp2_with fail
  refine wp_loop_rounds 1 ?_
  rw [rounds_succ]
  have hr3 := hr2.torn
  have hc3 := hc2.setCell 0 (.int .i64 5)
  go_wp2_with fail
  refine (well_no p 5 _ hr3.c0 (by omega)).mono ?_
  rintro e w3 ⟨rfl, rfl⟩
  go_wp2_with fail
  refine (well_no p 5 _ hr3.c0 (by omega)).mono ?_
  rintro e w3 ⟨rfl, rfl⟩
  have c2 := hr2.c2
  have f2 := hr2.f2
  have hfin := Lib.hid (hr3.set2 at_ (by omega))
  have hch := Lib.hid (hc3.setCell 2 (.int .i64 at_))
  clear hr3 hc3
  go_wp2
  go_ret
  exact ⟨rfl, hfin.out, hch.out⟩
theorem rdNums_take (s : List UInt8) (at_ m k : Nat) (h : k < m) : (rdNums s at_ m).take (k + 1) = (rdNums s at_ m).take k ++ [ofBe ((s.drop (at_ + 2 * k)).take 2)] := by
  rw [List.take_succ_eq_append_getElem (by simpa [rdNums] using h)]
  simp [rdNums]
theorem rdNums_len (s : List UInt8) (at_ m : Nat) : (rdNums s at_ m).length = m := by simp [rdNums]
set_option maxHeartbeats 1000000 in
set_option maxRecDepth 100000 in
theorem rList_ok (p at_ m : Nat) (s : List UInt8) (w : World) (h : RdAt w p 0 s at_) (hl : at_ < s.length) (hm : (s.getD at_ 0).toNat = m) (hm1 : m < 256) (ht : 2 * m ≤ s.length - (at_ + 1)) :
    Calls Tryz.prog 159 #[.pointer (some ⟨p, 0, none⟩)] w fun e' w' => ∃ v, e' = .returned v ∧ w'.ownsRow w.heap.size 22 1 v m (u16Cells (rdNums s (at_ + 1) m)) ∧ Read p s (0, at_ + 1 + 2 * m) w w' := by
  have h0 : w.cell? ⟨p, 0, none⟩ = some (.int .i64 0) := h.c0
  have c2 := h.c2
  have hp := h.lt
  have hu8 := rU8_c p 0 at_ s w h
  have hle := h.le
  obtain ⟨i0, hi, hz0, hz1, hz2⟩ := info_parts Tryz.infoU16
  rw [show rdRaw 0 s at_ 1 = ((s.drop at_).take 1, 0, at_ + 1) by simp [rdRaw]; omega, ofBe_one s at_ hl, hm] at hu8
  have HU := Lib.hid hu8
  clear hu8 hm
  go_enter Tryz.func159, Tryz.ntmps159
  go_wp2_with fail
  refine (well_c p _ h0).mono ?_
  rintro e w1 ⟨rfl, rfl⟩
  go_wp2_with fail
  refine HU.out.mono ?_
  rintro e w1 ⟨rfl, hr⟩
  have c0' : w1.cell? ⟨p, 0, none⟩ = some (.int .i64 0) := hr.1.c0
  clear h0 c2
  go_wp2_with fail
  refine (well_c p _ c0').mono ?_
  rintro e w2 ⟨rfl, rfl⟩
  go_wp2_with fail
  refine (Left_c p 0 (at_ + 1) s _ hr.1).mono ?_
  rintro e w2 ⟨rfl, hb⟩
  have hr2 := hr.1.keep hb
  have hc2 := hr.2.trans (Fr.chp hb)
  have hlt : 2 * (m : Int) ≤ (s.length : Int) - ((at_ : Int) + 1) := by omega
  have HT := Lib.hid ht
  have HL := Lib.hid hl
  have HLE := Lib.hid hle
  have HI0 := Lib.hid hi
  have HZ0 := Lib.hid hz0
  have HZ1 := Lib.hid hz1
  have HZ2 := Lib.hid hz2
  clear c0' ht hl hle hi hz0 hz1 hz2
  go_wp2_with fail
  have hsz := hc2.size
  go_loopw [6, 5] (fun i v wr => ∃ k : Nat, k ≤ m ∧ i = .int .i64 k ∧ wr.ownsRow w.heap.size 22 1 v k (u16Cells ((rdNums s (at_ + 1) m).take k)) ∧ RdAt wr p 0 s (at_ + 1 + 2 * k) ∧ Chp p w wr) (fun i _ _ => m - (intOf i).toNat)
  case atStart => exact ⟨0, Nat.zero_le _, rfl, by simpa [u16Cells] using World.ownsRow_nil w2 w.heap.size 22 1, by simpa using hr2, hc2⟩
  case round =>
    obtain ⟨k, hk, rfl, hown, hrd, hch⟩ := hrel
    have g0 : wr.cell? ⟨p, 0, none⟩ = some (.int .i64 0) := hrd.c0
    by_cases hkm : k < m
    · have hlt2 : (k : Int) < m := by omega
      have hu16 := rU16_c p 0 (at_ + 1 + 2 * k) s wr hrd
      rw [show rdRaw 0 s (at_ + 1 + 2 * k) 2 = ((s.drop (at_ + 1 + 2 * k)).take 2, 0, at_ + 1 + 2 * k + 2) by have := HT.out; simp [rdRaw]; omega] at hu16
      have HU := Lib.hid hu16
      have htk := rdNums_take s (at_ + 1) m k hkm
      generalize ofBe ((s.drop (at_ + 1 + 2 * k)).take 2) = q at HU htk
      have HTK := Lib.hid htk
      clear hu16 htk
      go_wp2_with fail
      refine (well_c p _ g0).mono ?_
      rintro e w3 ⟨rfl, rfl⟩
      go_wp2_with fail
      refine HU.out.mono ?_
      rintro e w3 ⟨rfl, hr3⟩
      have hown3 := ownsRow_chp hown hp hr3.2
      have hrd3 := hr3.1
      have hch3 := hch.trans hr3.2
      have hsz3 := hch3.size
      clear hr3 g0
      go_wp2_with (at_builtin; refine wpList_append_own _ rfl (.tmp 49) (.tmp 52) 64 rfl w.heap.size 22 i0 (.int .u16 0) 1 2 Tryz.underlying64 HI0.out HZ0.out HZ1.out HZ2.out rfl (by decide) _ k _ rfl (hown3.alloc _) ⟨w3.heap.size, 0, none⟩ 1 1 [.int .u16 q] rfl rfl ?c1 ?c2 ?c3 ?c4 ?c5 ?_)
      case c1 => intro j u hj; match j, hj with | 0, hj => simp at hj; subst hj; simp [Addr.add]
      case c2 => intro u hu; simp at hu; subst hu; rfl
      case c3 => unfold maxLen; omega
      case c4 => omega
      case c5 => simp; omega
      intro v4 w4 hown4 hgrow _
      have hch4 : Chp p w w4 := Ch.grown (hch3.alloc _) hgrow (by
        cases hv : Value.ownBlock u5 with
        | none => exact .inl rfl
        | some g => exact .inr ⟨g, rfl, (hown3.lt g hv).1⟩)
      have hrd4 : RdAt w4 p 0 s (at_ + 1 + 2 * k + 2) := by
        have hb : w4.heap[p]? = w3.heap[p]? := by
          rw [hgrow.block p (by simp; have := hch3.size; omega) (by intro e; have := (hown3.lt p e.symm).1; omega)]
          exact Below.heap_alloc w3 _ p hrd3.lt
        exact ⟨(World.cell?_of_block (a := ⟨p, 0, none⟩) hb).trans hrd3.c0, (World.cell?_of_block (a := ⟨p, 1, none⟩) hb).trans hrd3.c1, (World.cell?_of_block (a := ⟨p, 2, none⟩) hb).trans hrd3.c2, (World.frozen?_of_block (a := ⟨p, 0, none⟩) hb).trans hrd3.f0, (World.frozen?_of_block (a := ⟨p, 1, none⟩) hb).trans hrd3.f1, (World.frozen?_of_block (a := ⟨p, 2, none⟩) hb).trans hrd3.f2, hrd3.le, hrd3.big⟩
      clear hgrow hown3 hrd3 hch3 hown hrd
      go_wp2
      go_roundw
      case rel => exact ⟨k + 1, by omega, by go_num, by rw [HTK.out]; simpa [u16Cells] using hown4, by rw [show at_ + 1 + 2 * (k + 1) = at_ + 1 + 2 * k + 2 by omega]; exact hrd4, hch4⟩
      case measure => simp [intOf]; omega
    · obtain rfl : k = m := by omega
      go_wp2_with fail
      refine (well_c p _ g0).mono ?_
      rintro e w3 ⟨rfl, rfl⟩
      go_wp2
      go_ret
      exact ⟨_, rfl, by rw [List.take_of_length_le (by rw [rdNums_len]; omega)] at hown; exact hown, hrd, hch⟩
theorem rList_c (p e at_ : Nat) (s : List UInt8) (w : World) (h : RdAt w p e s at_) :
    Calls Tryz.prog 159 #[.pointer (some ⟨p, 0, none⟩)] w fun e' w' => ∃ v, e' = .returned v ∧ w'.ownsRow w.heap.size 22 1 v (rdList e s at_).1.length (u16Cells (rdList e s at_).1) ∧ Read p s (rdList e s at_).2 w w' := by
  unfold rdList
  by_cases he : e ≠ 0
  · simp only [if_pos he]
    exact (rList_err p e at_ s w h he).mono fun e' w' ⟨h1, h2⟩ => ⟨_, h1, World.ownsRow_nil _ _ _ _, by subst h2; exact ⟨h, Chp.refl _ _⟩⟩
  · obtain rfl : e = 0 := by omega
    simp only [if_neg he]
    by_cases hlt : s.length - at_ < 1
    · simp only [if_pos hlt]
      exact (rList_torn0 p at_ s w h hlt).mono fun e' w' ⟨h1, h2⟩ => ⟨_, h1, World.ownsRow_nil _ _ _ _, h2⟩
    · simp only [if_neg hlt]
      have hm := (s.getD at_ 0).toNat_lt
      by_cases ht : s.length - (at_ + 1) < 2 * (s.getD at_ 0).toNat
      · simp only [if_pos ht]
        exact (rList_torn1 p at_ _ s w h (by omega) rfl hm ht).mono fun e' w' ⟨h1, h2⟩ => ⟨_, h1, World.ownsRow_nil _ _ _ _, h2⟩
      · simp only [if_neg ht]
        exact (rList_ok p at_ _ s w h (by omega) rfl hm (by omega)).mono fun e' w' ⟨v, h1, h2, h3⟩ => ⟨v, h1, by rw [rdNums_len]; exact h2, h3⟩
end Go.Proofs.YtfklgaeejmeipaaGreatDoor

/- The walks of umpireref01: numbers, lists, their reader. No condition but what each says. -/
namespace Go.Proofs.YtfklgaeejmeipaaGreatDoor
open Go.RowKit

theorem ofNat_mod (m : Nat) : UInt8.ofNat (m % 256) = UInt8.ofNat m := by
  apply UInt8.toNat_inj.1; simp

/-- The document's reader in block 'p': what is left of 's' behind 'at_' bytes, and its error. -/
structure RfAt (w : World) (p : Nat) (e : Nat) (s : List UInt8) (at_ : Nat) : Prop where
  c0 : w.cell? ⟨p, 0, none⟩ = some (.string ⟨(s.drop at_).toArray⟩)
  c1 : w.cell? ⟨p, 1, none⟩ = some (.int .i64 (at_ : Int))
  c2 : w.cell? ⟨p, 2, none⟩ = some (.int .i64 (e : Int))
  f0 : w.frozen? ⟨p, 0, none⟩ = false
  f1 : w.frozen? ⟨p, 1, none⟩ = false
  f2 : w.frozen? ⟨p, 2, none⟩ = false
  le : at_ ≤ s.length
  big : s.length ≤ 140737488355328
theorem RfAt.lt {w : World} {p e at_ : Nat} {s : List UInt8} (h : RfAt w p e s at_) : p < w.heap.size := lt_of_cell h.c0
theorem RfAt.keep {w w' : World} {p e at_ : Nat} {s : List UInt8} (h : RfAt w p e s at_) (f : Fr w w') : RfAt w' p e s at_ :=
  ⟨f.keep h.c0, f.keep h.c1, f.keep h.c2, (f.frozen p 0 h.lt).trans h.f0, (f.frozen p 1 h.lt).trans h.f1, (f.frozen p 2 h.lt).trans h.f2, h.le, h.big⟩
theorem RfAt.block {w w' : World} {p e at_ : Nat} {s : List UInt8} (h : RfAt w p e s at_) (hb : w'.heap[p]? = w.heap[p]?) : RfAt w' p e s at_ :=
  ⟨(World.cell?_of_block (a := ⟨p, 0, none⟩) hb).trans h.c0, (World.cell?_of_block (a := ⟨p, 1, none⟩) hb).trans h.c1, (World.cell?_of_block (a := ⟨p, 2, none⟩) hb).trans h.c2, (World.frozen?_of_block (a := ⟨p, 0, none⟩) hb).trans h.f0, (World.frozen?_of_block (a := ⟨p, 1, none⟩) hb).trans h.f1, (World.frozen?_of_block (a := ⟨p, 2, none⟩) hb).trans h.f2, h.le, h.big⟩
/-- A reader of the document's that has read. -/
def RRead (p : Nat) (s : List UInt8) (x : Nat × Nat) (w w' : World) : Prop := RfAt w' p x.1 s x.2 ∧ Chp p w w'

end Go.Proofs.YtfklgaeejmeipaaGreatDoor

/- The walks of umpire/result: Check, Put, Take. No condition but the numbers' bounds. -/
namespace Go.Proofs.YtfklgaeejmeipaaGreatDoor
open Go.RowKit

/-- May an answer be? -/
def goodB (K V : Nat) : Bool := K == 1 || (decide (K ≤ 4) && V == 0)
def checkRes (K V : Nat) : Nat := if goodB K V then 0 else 4
def resBytes (K V : Nat) : List UInt8 := if K = 1 then be 1 1 ++ be V 2 else be K 1
theorem res_cases (K V : Nat) : (4 < K ∧ goodB K V = false) ∨ (K = 1 ∧ goodB K V = true) ∨ (K ≤ 4 ∧ K ≠ 1 ∧ V = 0 ∧ goodB K V = true) ∨ (K ≤ 4 ∧ K ≠ 1 ∧ V ≠ 0 ∧ goodB K V = false) := by
  unfold goodB
  by_cases h1 : K = 1
  · simp [h1]
  · by_cases h2 : K ≤ 4
    · by_cases h3 : V = 0
      · simp [h1, h2, h3]
      · simp [h1, h2, h3]
    · simp [h1, h2]; omega

theorem resCheck_c (K V : Nat) (w : World) :
    Calls Tryz.prog 69 #[.agg #[.int .u8 K, .int .u16 V]] w fun e w' => e = .returned (.int .i64 (checkRes K V)) ∧ Fr w w' := by
  rcases res_cases K V with ⟨h, hg⟩ | ⟨h, hg⟩ | ⟨h, h1, h2, hg⟩ | ⟨h, h1, h2, hg⟩
  · have HC : Hid (checkRes K V = 4) := by simp [Hid, checkRes, hg]
    have h' : (4 : Int) < K := by omega
    clear hg h
    go_enter Tryz.func69, Tryz.ntmps69
    go_wp2
    go_ret
    exact ⟨by rw [HC.out]; rfl, (Fr.refl _).alloc _⟩
  · subst h
    have HC : Hid (checkRes 1 V = 0) := by simp [Hid, checkRes, hg]
    clear hg
    go_enter Tryz.func69, Tryz.ntmps69
    go_wp2
    go_ret
    exact ⟨by rw [HC.out]; rfl, (Fr.refl _).alloc _⟩
  · subst h2
    have HC : Hid (checkRes K 0 = 0) := by simp [Hid, checkRes, hg]
    have h' : ¬ (4 : Int) < K := by omega
    have h1' : ((K : Int) != 1) = true := by simp; omega
    clear hg h h1
    go_enter Tryz.func69, Tryz.ntmps69
    go_wp2
    go_ret
    exact ⟨by rw [HC.out]; rfl, (Fr.refl _).alloc _⟩
  · have HC : Hid (checkRes K V = 4) := by simp [Hid, checkRes, hg]
    have h' : ¬ (4 : Int) < K := by omega
    have h1' : ((K : Int) != 1) = true := by simp; omega
    have h2' : ((V : Int) != 0) = true := by simp; omega
    clear hg h h1 h2
    go_enter Tryz.func69, Tryz.ntmps69
    go_wp2
    go_ret
    exact ⟨by rw [HC.out]; rfl, (Fr.refl _).alloc _⟩
theorem rGood_c (K V : Nat) (w : World) :
    Calls Tryz.prog 71 #[.agg #[.int .u8 K, .int .u16 V]] w fun e w' => e = .returned (.bool (goodB K V)) ∧ Fr w w' := by
  rcases res_cases K V with ⟨h, hg⟩ | ⟨h, hg⟩ | ⟨h, h1, h2, hg⟩ | ⟨h, h1, h2, hg⟩
  · have HC := Lib.hid hg
    have h' : ¬ (K : Int) ≤ 4 := by omega
    have h1' : ((K : Int) == 1) = false := by simp; omega
    clear hg h
    go_enter Tryz.func71, Tryz.ntmps71
    go_wp2
    go_ret
    exact ⟨by rw [HC.out]; rfl, (Fr.refl _).alloc _⟩
  · subst h
    have HC := Lib.hid hg
    clear hg
    go_enter Tryz.func71, Tryz.ntmps71
    go_wp2
    go_ret
    exact ⟨by rw [HC.out]; rfl, (Fr.refl _).alloc _⟩
  · subst h2
    have HC := Lib.hid hg
    have h' : (K : Int) ≤ 4 := by omega
    have h1' : ((K : Int) == 1) = false := by simp; omega
    clear hg h h1
    go_enter Tryz.func71, Tryz.ntmps71
    go_wp2
    go_ret
    exact ⟨by rw [HC.out]; rfl, (Fr.refl _).alloc _⟩
  · have HC := Lib.hid hg
    have h' : (K : Int) ≤ 4 := by omega
    have h1' : ((K : Int) == 1) = false := by simp; omega
    have h2' : ((V : Int) == 0) = false := by simp; omega
    clear hg h h1 h2
    go_enter Tryz.func71, Tryz.ntmps71
    go_wp2
    go_ret
    exact ⟨by rw [HC.out]; rfl, (Fr.refl _).alloc _⟩

/-- What result.Put tells: the bytes, and 0; or none, and 4. -/
def putRes (K V : Nat) : List UInt8 × Nat := if goodB K V then (resBytes K V, 0) else ([], 4)
/-- A new writer. -/
theorem WrAt.new {w w1 : World} (hw : w1 = w.alloc (.cells #[.int .i64 0, .slice none 0 0] 207)) : WrAt w1 w.heap.size (.slice none 0 0) [] := by
  subst hw
  exact ⟨by simp, by simp, by simp, by simp, by simpa [byteCells] using World.ownsRow_nil _ _ _ _⟩
theorem Wrote.fr {p : Nat} {v : Value} {l l0 : List UInt8} {a w w' : World} (f : Fr a w) (h : Wrote p v l w w') (hw : WrAt w p v l0) (hp : a.heap.size ≤ p) : Fr a w' := f.trans' (Below.mono (h.below hw) hp)
theorem resPut_no (K V : Nat) (w : World) (hg : goodB K V = false) :
    Calls Tryz.prog 152 #[.agg #[.int .u8 K, .int .u16 V]] w fun e w' => e = .returned (.tuple #[.string ⟨#[]⟩, .int .i64 4]) ∧ Fr w w' := by
  have HC : Hid (checkRes K V = 4) := by simp [Hid, checkRes, hg]
  clear hg
  go_enter Tryz.func152, Tryz.ntmps152
  go_wp2_with fail
  refine (resCheck_c K V _).mono ?_
  rw [HC.out]
  rintro e w1 ⟨rfl, hb⟩
  go_wp2
  go_ret2
  exact ⟨rfl, Fr.trans ((Fr.refl _).alloc _) hb⟩
theorem resPut_yes (K V : Nat) (w : World) (hg : goodB K V = true) (hK : K < 256) (hV : V < 65536) :
    Calls Tryz.prog 152 #[.agg #[.int .u8 K, .int .u16 V]] w fun e w' => e = .returned (.tuple #[.string ⟨(resBytes K V).toArray⟩, .int .i64 0]) ∧ Fr w w' := by
  have HC : Hid (checkRes K V = 0) := by simp [Hid, checkRes, hg]
  clear hg
  go_enter Tryz.func152, Tryz.ntmps152
  go_wp2_with fail
  refine (resCheck_c K V _).mono ?_
  rw [HC.out]
  rintro e w1 ⟨rfl, hb⟩
  have b0 : w1.cell? ⟨w.heap.size, 0, none⟩ = some (.int .u8 K) := by rw [hb.cell _ _ (by simp)]; simp
  have b1 : w1.cell? ⟨w.heap.size, 1, none⟩ = some (.int .u16 V) := by rw [hb.cell _ _ (by simp)]; simp
  have hz := hb.size1
  have hf1 : Fr w w1 := Fr.trans ((Fr.refl _).alloc _) hb
  clear hb
  go_wp2_with fail
  have hw0 := WrAt.new (w := w1) rfl
  refine (U8_c K w1.heap.size _ [] _ hK hw0 (by simp)).mono ?_
  rintro e w2 ⟨rfl, H⟩
  have hbl := H.below hw0
  have hf2 : Fr w w2 := H.fr (hf1.alloc _) hw0 hf1.size
  have b0' : w2.cell? ⟨w.heap.size, 0, none⟩ = some (.int .u8 K) := by rw [Below.cell (p := ⟨w.heap.size, 0, none⟩) hbl hz, World.cell?_alloc_lt _ _ _ hz]; exact b0
  have b1' : w2.cell? ⟨w.heap.size, 1, none⟩ = some (.int .u16 V) := by rw [Below.cell (p := ⟨w.heap.size, 1, none⟩) hbl hz, World.cell?_alloc_lt _ _ _ hz]; exact b1
  obtain ⟨v2, hw2, _, _⟩ := H
  have hsz := hf1.size
  clear b0 b1 hw0 hbl hf1 hz
  generalize w1.heap.size = p at hw2 hsz ⊢
  by_cases hk : K = 1
  · subst hk
    go_wp2_with fail
    refine (U16_c V p v2 _ _ hV hw2 (by simp [be_len])).mono ?_
    rintro e w3 ⟨rfl, H⟩
    have hf3 : Fr w w3 := H.fr hf2 hw2 hsz
    obtain ⟨v3, hw3, _, _⟩ := H
    go_wp2_with fail
    refine (Bytes_c p v3 _ _ hw3).mono ?_
    rintro e w4 ⟨rfl, rfl⟩
    go_wp2
    go_ret2
    exact ⟨rfl, hf3⟩
  · have hk' : ((K : Int) == 1) = false := by simp; omega
    have HR : Hid (resBytes K V = be K 1) := by simp [Hid, resBytes, hk]
    clear hk
    go_wp2_with fail
    refine (Bytes_c p v2 _ _ hw2).mono ?_
    rintro e w4 ⟨rfl, rfl⟩
    go_wp2
    go_ret2
    exact ⟨by rw [HR.out]; rfl, hf2⟩
theorem resPut_c (K V : Nat) (w : World) (hK : K < 256) (hV : V < 65536) :
    Calls Tryz.prog 152 #[.agg #[.int .u8 K, .int .u16 V]] w fun e w' => e = .returned (.tuple #[.string ⟨(putRes K V).1.toArray⟩, .int .i64 (putRes K V).2]) ∧ Fr w w' := by
  unfold putRes
  cases hg : goodB K V
  · exact resPut_no K V w hg
  · exact resPut_yes K V w hg hK hV

/-- What result.Take tells of a reader: the answer's two numbers, the error; the reader's error and place behind. -/
def takeRes (e : Nat) (s : List UInt8) (at_ : Nat) : (Nat × Nat × Nat) × Nat × Nat :=
  let x := rdRaw e s at_ 1
  let y := if ofBe x.1 = 1 then rdRaw x.2.1 s x.2.2 2 else ([], x.2)
  (if y.2.1 ≠ 0 then (0, 0, y.2.1) else if goodB (ofBe x.1) (ofBe y.1) then (ofBe x.1, ofBe y.1, 0) else (0, 0, 4), y.2)
set_option maxHeartbeats 800000 in
theorem resTake_c (p e at_ : Nat) (s : List UInt8) (w : World) (h : RdAt w p e s at_) :
    Calls Tryz.prog 153 #[.pointer (some ⟨p, 0, none⟩)] w fun e' w' => e' = .returned (.tuple #[.agg #[.int .u8 (takeRes e s at_).1.1, .int .u16 (takeRes e s at_).1.2.1], .int .i64 (takeRes e s at_).1.2.2]) ∧ Read p s (takeRes e s at_).2 w w' := by
  have hp := h.lt
  have hT : takeRes e s at_ = takeRes e s at_ := rfl
  generalize hTT : takeRes e s at_ = T at hT ⊢
  clear hT
  unfold takeRes at hTT
  have h8 := fun W hW => rU8_c p e at_ s W hW
  have hl8 := rdRaw_len e s at_ 1
  generalize rdRaw e s at_ 1 = x at h8 hTT hl8
  obtain ⟨l1, e1, at1⟩ := x
  simp only at h8 hTT hl8
  have hK := ofBe_lt l1
  have hK' : ofBe l1 < 256 := Nat.lt_of_lt_of_le hK (Nat.pow_le_pow_right (by omega) (n := 256) hl8)
  generalize ofBe l1 = K at h8 hTT hK'
  have H8 := Lib.hid h8
  have HT := Lib.hid hTT
  clear h8 hTT hK hl8
  go_enter Tryz.func153, Tryz.ntmps153
  go_wp2_with fail
  have hr0 := h.keep ((Fr.refl w).alloc (Obj.cells #[Value.int IntKind.u8 0, Value.int IntKind.u16 0] 26))
  have hc0 : Chp p w (w.alloc (Obj.cells #[Value.int IntKind.u8 0, Value.int IntKind.u16 0] 26)) := Fr.chp ((Fr.refl w).alloc _)
  refine (H8.out _ hr0).mono ?_
  rintro e' w1 ⟨rfl, hr1, hc1⟩
  have hch1 := hc0.trans hc1
  have hz1 : w.heap.size < w1.heap.size := by have := hc1.size; simp at this; omega
  have a0 : w1.cell? ⟨w.heap.size, 0, none⟩ = some (.int .u8 0) := by rw [hc1.cell (by simp) (by omega)]; simp
  have a1 : w1.cell? ⟨w.heap.size, 1, none⟩ = some (.int .u16 0) := by rw [hc1.cell (by simp) (by omega)]; simp
  have f0 : w1.frozen? ⟨w.heap.size, 0, none⟩ = false := by rw [hc1.frozen (by simp) (by omega)]; simp
  have f1 : w1.frozen? ⟨w.heap.size, 1, none⟩ = false := by rw [hc1.frozen (by simp) (by omega)]; simp
  clear hr0 hc0 hc1
  by_cases hk : K = 1
  · subst hk
    simp only [if_true] at HT
    have hr16 := fun W hW => rU16_c p e1 at1 s W hW
    have hl2 := rdRaw_len e1 s at1 2
    generalize rdRaw e1 s at1 2 = y at hr16 HT hl2
    obtain ⟨l2, e2, at2⟩ := y
    simp only at hr16 HT hl2
    generalize ofBe l2 = V at hr16 HT
    have H16 := Lib.hid hr16
    clear hr16 hl2
    go_wp2_with fail
    have hr2 := hr1.keep ((Fr.refl w1).alloc (Obj.cells #[Value.int IntKind.u8 1, Value.int IntKind.u16 0] 26))
    refine (H16.out _ hr2).mono ?_
    rintro e' W2 ⟨rfl, hrt, hc2⟩
    have x0 : W2.cell? ⟨w1.heap.size, 0, none⟩ = some (.int .u8 1) := by rw [hc2.cell (by simp) (by have := hr1.lt; omega)]; simp
    have x1 : W2.cell? ⟨w1.heap.size, 1, none⟩ = some (.int .u16 0) := by rw [hc2.cell (by simp) (by have := hr1.lt; omega)]; simp
    have y0 : W2.frozen? ⟨w1.heap.size, 0, none⟩ = false := by rw [hc2.frozen (by simp) (by have := hr1.lt; omega)]; simp
    have y1 : W2.frozen? ⟨w1.heap.size, 1, none⟩ = false := by rw [hc2.frozen (by simp) (by have := hr1.lt; omega)]; simp
    have a0 : W2.cell? ⟨w.heap.size, 0, none⟩ = some (.int .u8 0) := by rw [hc2.cell (by simp; omega) (by omega), World.cell?_alloc_lt _ _ _ hz1]; exact a0
    have a1 : W2.cell? ⟨w.heap.size, 1, none⟩ = some (.int .u16 0) := by rw [hc2.cell (by simp; omega) (by omega), World.cell?_alloc_lt _ _ _ hz1]; exact a1
    have f0 : W2.frozen? ⟨w.heap.size, 0, none⟩ = false := by rw [hc2.frozen (by simp; omega) (by omega), World.frozen?_alloc_past _ _ _ hz1]; exact f0
    have f1 : W2.frozen? ⟨w.heap.size, 1, none⟩ = false := by rw [hc2.frozen (by simp; omega) (by omega), World.frozen?_alloc_past _ _ _ hz1]; exact f1
    have hcht : Chp p w W2 := (hch1.alloc _).trans hc2
    have hpq : p < w1.heap.size := hr1.lt
    have hq1 : w.heap.size ≠ w1.heap.size := by omega
    clear hr2 hc2 hr1 hch1
    generalize w1.heap.size = q at x0 x1 y0 y1 hpq hz1 hq1 ⊢
    go_wp2_with fail
    have a0' : (W2.setCell ⟨q, 1, none⟩ (.int .u16 V)).cell? ⟨w.heap.size, 0, none⟩ = some (.int .u8 0) := by rw [World.cell?_setCell_other _ _ _ _ (by simp <;> omega)]; exact a0
    have a1' : (W2.setCell ⟨q, 1, none⟩ (.int .u16 V)).cell? ⟨w.heap.size, 1, none⟩ = some (.int .u16 0) := by rw [World.cell?_setCell_other _ _ _ _ (by simp <;> omega)]; exact a1
    have x0' : (W2.setCell ⟨q, 1, none⟩ (.int .u16 V)).cell? ⟨q, 0, none⟩ = some (.int .u8 1) := by rw [World.cell?_setCell_other _ _ _ _ (by simp)]; exact x0
    have x1' : (W2.setCell ⟨q, 1, none⟩ (.int .u16 V)).cell? ⟨q, 1, none⟩ = some (.int .u16 V) := World.cell?_setCell_same _ _ _ x1
    have f0' : (W2.setCell ⟨q, 1, none⟩ (.int .u16 V)).frozen? ⟨w.heap.size, 0, none⟩ = false := (World.frozen?_setCell ..).trans f0
    have f1' : (W2.setCell ⟨q, 1, none⟩ (.int .u16 V)).frozen? ⟨w.heap.size, 1, none⟩ = false := (World.frozen?_setCell ..).trans f1
    have hrt' := hrt.setOther (q := q) (by omega) 1 (.int .u16 V)
    have hcht' := hcht.setAt (q := q) (by omega) 1 (.int .u16 V)
    clear a0 a1 x0 x1 y0 y1 f0 f1 hrt hcht
    generalize W2.setCell ⟨q, 1, none⟩ (.int .u16 (V : Int)) = W2 at a0' a1' x0' x1' f0' f1' hrt' hcht' ⊢
    have a0 := a0'
    have a1 := a1'
    have x0 := x0'
    have x1 := x1'
    have f0 := f0'
    have f1 := f1'
    have hrt := hrt'
    have hcht := hcht'
    clear a0' a1' x0' x1' f0' f1' hrt' hcht'
    have hK1 : (1 : Nat) = 1 := rfl
    clear hK1
    have s0 : w.heap.size < W2.heap.size := lt_of_cell a0
    refine (Err_c p e2 at2 s _ hrt).mono ?_
    rintro e' w' ⟨rfl, rfl⟩
    by_cases he : e2 = 0
    · subst he
      have HE := Lib.hid (rfl : (0 : Nat) = 0)
      go_wp2_with fail
      refine (resCheck_c 1 V _).mono ?_
      rintro e' w3 ⟨rfl, hb⟩
      have hrt := hrt.keep hb
      have hcht := hcht.trans (Fr.chp hb)
      have f0 := (hb.frozen _ 0 s0).trans f0
      have f1 := (hb.frozen _ 1 s0).trans f1
      have a0 := hb.keep a0
      have a1 := hb.keep a1
      have x0 := hb.keep x0
      have x1 := hb.keep x1
      have s0 : w.heap.size < w3.heap.size := lt_of_cell a0
      clear hb
      cases hg : goodB 1 V with
      | false =>
        have HG := Lib.hid hg
        have hck : (checkRes 1 V : Int) = 4 := by simp [checkRes, hg]
        clear hg
        rw [hck]
        clear hck
        go_wp2
        refine bodyPost_ret (v := .tuple #[.agg #[.int .u8 0, .int .u16 0], .int .i64 4]) (by simp [results, Tryz.results153, go_sem, a0, a1, s0]) rfl ⟨?_, ?_, ?_⟩
        · rw [← HT.out]; simp only [ne_eq, not_true_eq_false, if_false, HG.out, Bool.false_eq_true]; rfl
        · rw [← HT.out]; simp only [ne_eq, not_true_eq_false, if_false, HG.out, Bool.false_eq_true]; exact (hrt.setOther (by omega) _ _).setOther (by omega) _ _
        · exact (hcht.setAt (Nat.le_refl _) _ _).setAt (Nat.le_refl _) _ _
      | true =>
        have HG := Lib.hid hg
        have hck : (checkRes 1 V : Int) = 0 := by simp [checkRes, hg]
        clear hg
        rw [hck]
        clear hck
        go_wp2
        refine bodyPost_ret (v := .tuple #[.agg #[.int .u8 1, .int .u16 V], .int .i64 0]) (by simp [results, Tryz.results153, go_sem, a0, a1, s0]) rfl ⟨?_, ?_, ?_⟩
        · rw [← HT.out]; simp only [ne_eq, not_true_eq_false, if_false, HG.out, if_true]; rfl
        · rw [← HT.out]; simp only [ne_eq, not_true_eq_false, if_false, HG.out, if_true]; exact (hrt.setOther (by omega) _ _).setOther (by omega) _ _
        · exact (hcht.setAt (Nat.le_refl _) _ _).setAt (Nat.le_refl _) _ _
    · have he1 : ((e2 : Int) == 0) = false := by simp; omega
      have he2 : ((e2 : Int) != 0) = true := by simp; omega
      have HE := Lib.hid he
      clear he
      go_wp2
      refine bodyPost_ret (v := .tuple #[.agg #[.int .u8 0, .int .u16 0], .int .i64 e2]) (by simp [results, Tryz.results153, go_sem, a0, a1, s0]) rfl ⟨?_, ?_, ?_⟩
      · rw [← HT.out]; simp only [ne_eq, HE.out, not_false_eq_true, if_true]; rfl
      · rw [← HT.out]; simp only [ne_eq, HE.out, not_false_eq_true, if_true]; exact (hrt.setOther (by omega) _ _).setOther (by omega) _ _
      · exact (hcht.setAt (Nat.le_refl _) _ _).setAt (Nat.le_refl _) _ _
  · have hk' : ((K : Int) == 1) = false := by simp; omega
    simp only [if_neg hk] at HT
    have HTT := HT.out
    have hl0 : ofBe ([] : List UInt8) = 0 := rfl
    simp only [hl0] at HTT
    clear HT hl0
    have HT := Lib.hid HTT
    clear hk HTT
    go_wp2_with fail
    have x0 : (w1.alloc (Obj.cells #[Value.int IntKind.u8 ↑K, Value.int IntKind.u16 0] 26)).cell? ⟨w1.heap.size, 0, none⟩ = some (.int .u8 K) := by simp
    have x1 : (w1.alloc (Obj.cells #[Value.int IntKind.u8 ↑K, Value.int IntKind.u16 0] 26)).cell? ⟨w1.heap.size, 1, none⟩ = some (.int .u16 0) := by simp
    have a0' := (World.cell?_alloc_lt w1 (Obj.cells #[Value.int IntKind.u8 ↑K, Value.int IntKind.u16 0] 26) ⟨w.heap.size, 0, none⟩ hz1).trans a0
    have a1' := (World.cell?_alloc_lt w1 (Obj.cells #[Value.int IntKind.u8 ↑K, Value.int IntKind.u16 0] 26) ⟨w.heap.size, 1, none⟩ hz1).trans a1
    have f0' := (World.frozen?_alloc_past (w := w1) (Obj.cells #[Value.int IntKind.u8 ↑K, Value.int IntKind.u16 0] 26) w.heap.size 0 hz1).trans f0
    have f1' := (World.frozen?_alloc_past (w := w1) (Obj.cells #[Value.int IntKind.u8 ↑K, Value.int IntKind.u16 0] 26) w.heap.size 1 hz1).trans f1
    have hrt := hr1.keep ((Fr.refl w1).alloc (Obj.cells #[Value.int IntKind.u8 ↑K, Value.int IntKind.u16 0] 26))
    have hcht := hch1.alloc (Obj.cells #[Value.int IntKind.u8 ↑K, Value.int IntKind.u16 0] 26)
    have hpq : p < w1.heap.size := hr1.lt
    have hq1 : w.heap.size ≠ w1.heap.size := by omega
    clear a0 a1 f0 f1 hr1 hch1
    generalize w1.alloc (Obj.cells #[Value.int IntKind.u8 ↑K, Value.int IntKind.u16 0] 26) = W2 at x0 x1 a0' a1' f0' f1' hrt hcht ⊢
    generalize w1.heap.size = q at x0 x1 hpq hz1 hq1 ⊢
    have a0 := a0'
    have a1 := a1'
    have f0 := f0'
    have f1 := f1'
    clear a0' a1' f0' f1'
    have s0 : w.heap.size < W2.heap.size := lt_of_cell a0
    refine (Err_c p e1 at1 s _ hrt).mono ?_
    rintro e' w' ⟨rfl, rfl⟩
    by_cases he : e1 = 0
    · subst he
      have HE := Lib.hid (rfl : (0 : Nat) = 0)
      go_wp2_with fail
      refine (resCheck_c K 0 _).mono ?_
      rintro e' w3 ⟨rfl, hb⟩
      have hrt := hrt.keep hb
      have hcht := hcht.trans (Fr.chp hb)
      have f0 := (hb.frozen _ 0 s0).trans f0
      have f1 := (hb.frozen _ 1 s0).trans f1
      have a0 := hb.keep a0
      have a1 := hb.keep a1
      have x0 := hb.keep x0
      have x1 := hb.keep x1
      have s0 : w.heap.size < w3.heap.size := lt_of_cell a0
      clear hb
      cases hg : goodB K 0 with
      | false =>
        have HG := Lib.hid hg
        have hck : (checkRes K 0 : Int) = 4 := by simp [checkRes, hg]
        clear hg
        rw [hck]
        clear hck
        go_wp2
        refine bodyPost_ret (v := .tuple #[.agg #[.int .u8 0, .int .u16 0], .int .i64 4]) (by simp [results, Tryz.results153, go_sem, a0, a1, s0]) rfl ⟨?_, ?_, ?_⟩
        · rw [← HT.out]; simp only [ne_eq, not_true_eq_false, if_false, HG.out, Bool.false_eq_true]; rfl
        · rw [← HT.out]; simp only [ne_eq, not_true_eq_false, if_false, HG.out, Bool.false_eq_true]; exact (hrt.setOther (by omega) _ _).setOther (by omega) _ _
        · exact (hcht.setAt (Nat.le_refl _) _ _).setAt (Nat.le_refl _) _ _
      | true =>
        have HG := Lib.hid hg
        have hck : (checkRes K 0 : Int) = 0 := by simp [checkRes, hg]
        clear hg
        rw [hck]
        clear hck
        go_wp2
        refine bodyPost_ret (v := .tuple #[.agg #[.int .u8 K, .int .u16 0], .int .i64 0]) (by simp [results, Tryz.results153, go_sem, a0, a1, s0]) rfl ⟨?_, ?_, ?_⟩
        · rw [← HT.out]; simp only [ne_eq, not_true_eq_false, if_false, HG.out, if_true]; rfl
        · rw [← HT.out]; simp only [ne_eq, not_true_eq_false, if_false, HG.out, if_true]; exact (hrt.setOther (by omega) _ _).setOther (by omega) _ _
        · exact (hcht.setAt (Nat.le_refl _) _ _).setAt (Nat.le_refl _) _ _
    · have he1 : ((e1 : Int) == 0) = false := by simp; omega
      have he2 : ((e1 : Int) != 0) = true := by simp; omega
      have HE := Lib.hid he
      clear he
      go_wp2
      refine bodyPost_ret (v := .tuple #[.agg #[.int .u8 0, .int .u16 0], .int .i64 e1]) (by simp [results, Tryz.results153, go_sem, a0, a1, s0]) rfl ⟨?_, ?_, ?_⟩
      · rw [← HT.out]; simp only [ne_eq, HE.out, not_false_eq_true, if_true]; rfl
      · rw [← HT.out]; simp only [ne_eq, HE.out, not_false_eq_true, if_true]; exact (hrt.setOther (by omega) _ _).setOther (by omega) _ _
      · exact (hcht.setAt (Nat.le_refl _) _ _).setAt (Nat.le_refl _) _ _
end Go.Proofs.YtfklgaeejmeipaaGreatDoor

/- umpireref03.Put, Take; umpireref01.List. No condition but the numbers' bounds. -/
namespace Go.Proofs.YtfklgaeejmeipaaGreatDoor
open Go.RowKit

theorem RfAt.setOther {w : World} {p e at_ q : Nat} {s : List UInt8} (h : RfAt w p e s at_) (hq : q ≠ p) (o : Nat) (u : Value) : RfAt (w.setCell ⟨q, o, none⟩ u) p e s at_ := h.block (Below.heap_setCell w _ u p (fun e => hq e.symm))
theorem RfAt.drew {w : World} {p e at_ : Nat} {s : List UInt8} (h : RfAt w p e s at_) : RfAt w.drew p e s at_ := h.keep ((Fr.refl w).drew)
theorem ret_str2' {a : ByteArray} {l : List UInt8} {v : Value} (h : a.data.toList = l) : Ending.returned (.tuple #[.string a, v]) = Ending.returned (.tuple #[.string ⟨l.toArray⟩, v]) := by subst h; simp
theorem be_one (K : Nat) : be K 1 = [UInt8.ofNat K] := by simp [be]
end Go.Proofs.YtfklgaeejmeipaaGreatDoor
