/- The walks of umpire/codec's Reader: what is read. No condition but what each says. -/
import Derived.Test.YthaocbmkkgeomaaDoorPBase
import Derived.IntWalk
import Derived.Laws.IdiomStrings
import Derived.Laws.BitsAllLaws
set_option linter.all false
set_option linter.unusedVariables false
set_option linter.unusedSimpArgs false
set_option linter.unnecessarySimpa false
/- The walks of umpire/codec's Reader: what is read. No condition but what each says. -/
namespace Go.Proofs.YthaocbmkkgeomaaDoor
open Go.RowKit

/-- A reader in block 'p': its error, its bytes, how many are read. -/
structure RdAt (w : World) (p : Nat) (e : Nat) (s : List UInt8) (at_ : Nat) : Prop where
  c0 : w.cell? ⟨p, 0, none⟩ = some (.int .i64 (e : Int))
  c1 : w.cell? ⟨p, 1, none⟩ = some (.string ⟨s.toArray⟩)
  c2 : w.cell? ⟨p, 2, none⟩ = some (.int .i64 (at_ : Int))
  f0 : w.frozen? ⟨p, 0, none⟩ = false
  f1 : w.frozen? ⟨p, 1, none⟩ = false
  f2 : w.frozen? ⟨p, 2, none⟩ = false
  le : at_ ≤ s.length
  big : s.length ≤ 140737488355328
/-- Nothing turned but block 'p'. -/
def Chp (p : Nat) (w w' : World) : Prop := Ch p (.slice none 0 0) w w'
theorem Chp.refl (p : Nat) (w : World) : Chp p w w := Ch.refl _ _ _
theorem Chp.trans {p : Nat} {w w1 w2 : World} (h : Chp p w w1) (k : Chp p w1 w2) : Chp p w w2 := Ch.trans h (.inl rfl) k
theorem Chp.alloc {p : Nat} {a w : World} (h : Chp p a w) (o : Obj) : Chp p a (w.alloc o) := Ch.alloc h o
theorem Chp.drew {p : Nat} {a w : World} (h : Chp p a w) : Chp p a w.drew := Ch.drew h
theorem Chp.setCell {p : Nat} {a w : World} (h : Chp p a w) (o : Nat) (u : Value) : Chp p a (w.setCell ⟨p, o, none⟩ u) := Ch.setCell h o u
theorem Chp.setAt {p : Nat} {a w : World} (h : Chp p a w) {q : Nat} (hq : a.heap.size ≤ q) (o : Nat) (u : Value) : Chp p a (w.setCell ⟨q, o, none⟩ u) :=
  ⟨h.os, h.tape, h.output, by have := Ch.size h; simp [World.setCell]; omega, fun k hk h1 h2 => (Below.heap_setCell w _ u k (by simp; omega)).trans (h.block k hk h1 h2)⟩
theorem Chp.cell {p : Nat} {w w' : World} (h : Chp p w w') {b o : Nat} (hb : b < w.heap.size) (h1 : b ≠ p) : w'.cell? ⟨b, o, none⟩ = w.cell? ⟨b, o, none⟩ := Ch.cell h hb h1 (by intro e; cases e)
theorem Chp.frozen {p : Nat} {w w' : World} (h : Chp p w w') {b o : Nat} (hb : b < w.heap.size) (h1 : b ≠ p) : w'.frozen? ⟨b, o, none⟩ = w.frozen? ⟨b, o, none⟩ := Ch.frozen h hb h1 (by intro e; cases e)
theorem Chp.size {p : Nat} {w w' : World} (h : Chp p w w') : w.heap.size ≤ w'.heap.size := Ch.size h
theorem Chp.below {p : Nat} {w w' : World} (h : Chp p w w') (hp : p < w.heap.size) : Below p w w' :=
  ⟨h.os, h.tape, h.output, h.size, fun k hk => h.block k (by omega) (by omega) (by intro e; cases e)⟩
theorem Chp.fr {p : Nat} {a w w' : World} (f : Fr a w) (h : Chp p w w') (hp : a.heap.size ≤ p) : Fr a w' :=
  f.trans' ⟨h.os, h.tape, h.output, h.size, fun k hk => h.block k (by have := f.size; omega) (by omega) (by intro e; cases e)⟩
theorem Fr.chp {p : Nat} {w w' : World} (h : Fr w w') : Chp p w w' := ⟨h.os, h.tape, h.output, h.size, fun k hk _ _ => Fr.block h hk⟩
theorem RdAt.lt {w : World} {p e at_ : Nat} {s : List UInt8} (h : RdAt w p e s at_) : p < w.heap.size := lt_of_cell h.c0
theorem RdAt.keep {w w' : World} {p e at_ : Nat} {s : List UInt8} (h : RdAt w p e s at_) (f : Fr w w') : RdAt w' p e s at_ :=
  ⟨f.keep h.c0, f.keep h.c1, f.keep h.c2, (f.frozen p 0 h.lt).trans h.f0, (f.frozen p 1 h.lt).trans h.f1, (f.frozen p 2 h.lt).trans h.f2, h.le, h.big⟩

theorem RdAt.setOther {w : World} {p e at_ q : Nat} {s : List UInt8} (h : RdAt w p e s at_) (hq : q ≠ p) (o : Nat) (u : Value) : RdAt (w.setCell ⟨q, o, none⟩ u) p e s at_ := by
  have e : (w.setCell ⟨q, o, none⟩ u).heap[p]? = w.heap[p]? := Below.heap_setCell w _ u p (fun e => hq e.symm)
  exact ⟨(World.cell?_of_block (a := ⟨p, 0, none⟩) e).trans h.c0, (World.cell?_of_block (a := ⟨p, 1, none⟩) e).trans h.c1, (World.cell?_of_block (a := ⟨p, 2, none⟩) e).trans h.c2, (World.frozen?_of_block (a := ⟨p, 0, none⟩) e).trans h.f0, (World.frozen?_of_block (a := ⟨p, 1, none⟩) e).trans h.f1, (World.frozen?_of_block (a := ⟨p, 2, none⟩) e).trans h.f2, h.le, h.big⟩
/-- What is left of a reader's bytes. -/
theorem Left_c (p e at_ : Nat) (s : List UInt8) (w : World) (h : RdAt w p e s at_) :
    Calls Tryd.prog 32 #[.pointer (some ⟨p, 0, none⟩)] w fun e w' => e = .returned (.int .i64 ((s.length : Int) - at_)) ∧ Fr w w' := by
  obtain ⟨h0, h1, h2, _, _, _, hle, hbig⟩ := h
  have hsz := size_mk s
  have hwr : IntKind.i64.wrap ((s.length : Int) - at_) = (s.length : Int) - at_ := IntWalk.i64_in _ (by omega)
  clear hle hbig
  go_enter Tryd.func32, Tryd.ntmps32
  go_wp2
  go_quiet (fail)
  go_wp2
  go_ret
  exact ⟨rfl, (Fr.refl _).drewN _⟩
theorem Err_c (p e at_ : Nat) (s : List UInt8) (w : World) (h : RdAt w p e s at_) :
    Calls Tryd.prog 58 #[.pointer (some ⟨p, 0, none⟩)] w fun e' w' => e' = .returned (.int .i64 e) ∧ w = w' := by
  obtain ⟨h0, h1, h2, _, _, _, hle, hbig⟩ := h
  go_enter Tryd.func58, Tryd.ntmps58
  go_wp2
  go_ret
  exact ⟨rfl, rfl⟩
theorem Over_c (s : List UInt8) (w : World) (hb : s.length ≤ 140737488355328) :
    Calls Tryd.prog 23 #[.string ⟨s.toArray⟩] w fun e w' => ∃ p, e = .returned (.pointer (some ⟨p, 0, none⟩)) ∧ RdAt w' p 0 s 0 ∧ Fr w w' ∧ w.heap.size ≤ p := by
  go_enter Tryd.func23, Tryd.ntmps23
  go_wp2
  go_ret
  exact ⟨_, rfl, ⟨by simp, by simp, by simp, by simp, by simp, by simp, by simp, hb⟩, (Fr.refl _).alloc _, Nat.le_refl _⟩

theorem well_no (p : Nat) (e : Nat) (w : World) (h : w.cell? ⟨p, 0, none⟩ = some (.int .i64 (e : Int))) (he : e ≠ 0) :
    Calls Tryd.prog 79 #[.pointer (some ⟨p, 0, none⟩)] w fun e w' => e = .returned (.bool false) ∧ w = w' := by
  have he' : ((e : Int) == 0) = false := by simp; omega
  clear he
  go_enter Tryd.func79, Tryd.ntmps79
  go_wp2
  go_ret
  exact ⟨rfl, rfl⟩

/-- What is read: so many bytes; the error behind; how many are read behind. -/
def rdRaw (e : Nat) (s : List UInt8) (at_ n : Nat) : List UInt8 × Nat × Nat :=
  if e ≠ 0 then ([], e, at_) else if s.length - at_ < n then ([], 5, at_) else ((s.drop at_).take n, 0, at_ + n)
/-- A reader that has read 'l'. -/
def Read (p : Nat) (s : List UInt8) (x : Nat × Nat) (w w' : World) : Prop := RdAt w' p x.1 s x.2 ∧ Chp p w w'

theorem rRaw_err (p e at_ n : Nat) (s : List UInt8) (w : World) (h : RdAt w p e s at_) (he : e ≠ 0) :
    Calls Tryd.prog 92 #[.pointer (some ⟨p, 0, none⟩), .int .i64 n] w fun e' w' => e' = .returned (.string ⟨#[]⟩) ∧ w = w' := by
  go_enter Tryd.func92, Tryd.ntmps92
  go_wp2_with (go_at_call 79; refine (well_no p e _ h.c0 he).mono ?_; rintro e w1 ⟨rfl, rfl⟩)
  all_goals (go_ret; exact ⟨rfl, rfl⟩)
theorem rRaw_torn (p at_ n : Nat) (s : List UInt8) (w : World) (h : RdAt w p 0 s at_) (hn : s.length - at_ < n) (hn1 : n < 1000000) :
    Calls Tryd.prog 92 #[.pointer (some ⟨p, 0, none⟩), .int .i64 n] w fun e' w' => e' = .returned (.string ⟨#[]⟩) ∧ Read p s (5, at_) w w' := by
  have hgt : (s.length : Int) - at_ < n := by have := h.le; omega
  have hpos : (0 : Int) < n := by omega
  have h0 : w.cell? ⟨p, 0, none⟩ = some (.int .i64 0) := h.c0
  go_enter Tryd.func92, Tryd.ntmps92
  go_wp2_with fail
  refine (well_c p _ h0).mono ?_
  rintro e w1 ⟨rfl, rfl⟩
  go_wp2_with fail
  refine (Left_c p 0 at_ s _ h).mono ?_
  rintro e w1 ⟨rfl, hb⟩
  have h1 := h.keep hb
  have c0 : w1.cell? ⟨p, 0, none⟩ = some (.int .i64 0) := h1.c0
  have f0 := h1.f0
  clear h0
  go_wp2
  go_ret
  refine ⟨rfl, ⟨?_, ?_, ?_, ?_, ?_, ?_, h.le, h.big⟩, (Fr.chp hb).setCell 0 _⟩
  · exact World.cell?_setCell_same _ _ _ c0
  · rw [World.cell?_setCell_other _ _ _ _ (by simp)]; exact h1.c1
  · rw [World.cell?_setCell_other _ _ _ _ (by simp)]; exact h1.c2
  · exact (World.frozen?_setCell ..).trans h1.f0
  · exact (World.frozen?_setCell ..).trans h1.f1
  · exact (World.frozen?_setCell ..).trans h1.f2
theorem rRaw_ok (p at_ n : Nat) (s : List UInt8) (w : World) (h : RdAt w p 0 s at_) (hn : n ≤ s.length - at_) (hpos : (0 : Int) < n) :
    Calls Tryd.prog 92 #[.pointer (some ⟨p, 0, none⟩), .int .i64 n] w fun e' w' => e' = .returned (.string ⟨((s.drop at_).take n).toArray⟩) ∧ Read p s (0, at_ + n) w w' := by
  have hle := h.le
  have hbig := h.big
  have hgt : ¬ (s.length : Int) - at_ < n := by omega
  have h0 : w.cell? ⟨p, 0, none⟩ = some (.int .i64 0) := h.c0
  go_enter Tryd.func92, Tryd.ntmps92
  go_wp2_with fail
  refine (well_c p _ h0).mono ?_
  rintro e w1 ⟨rfl, rfl⟩
  go_wp2_with fail
  refine (Left_c p 0 at_ s _ h).mono ?_
  rintro e w1 ⟨rfl, hb⟩
  have h1 := h.keep hb
  have c1 := h1.c1
  have c2 := h1.c2
  have f2 := h1.f2
  clear h0
  have hsz := size_mk s
  go_wp2
  have k1 : IntKind.i64.wrap ((at_ : Int) + n - n) = at_ := by rw [IntWalk.i64_in _ (by omega)]; omega
  have k2 : IntKind.i64.wrap ((at_ : Int) + n) = (at_ : Int) + n := IntWalk.i64_in _ (by omega)
  have k3 : (at_ : Int) ≤ at_ + n := by omega
  have k4 : (at_ : Int) + n ≤ s.length := by omega
  have k5 : (0 : Int) ≤ at_ := by omega
  go_quiet (fail)
  clear k1 k2 k3 k4 k5
  go_wp2
  go_ret
  refine ⟨ret_str (by simp [ByteArray.data_extract]), ⟨?_, ?_, ?_, ?_, ?_, ?_, by simp; omega, hbig⟩, ((Fr.chp hb).setCell 2 _).trans (Fr.chp ((Fr.refl _).drewN _))⟩
  · show (w1.setCell _ _).cell? _ = _
    rw [World.cell?_setCell_other _ _ _ _ (by simp)]; exact h1.c0
  · show (w1.setCell _ _).cell? _ = _
    rw [World.cell?_setCell_other _ _ _ _ (by simp)]; exact h1.c1
  · exact World.cell?_setCell_same _ _ _ c2
  · exact (World.frozen?_setCell ..).trans h1.f0
  · exact (World.frozen?_setCell ..).trans h1.f1
  · exact (World.frozen?_setCell ..).trans h1.f2
theorem rRaw_zero (p at_ : Nat) (s : List UInt8) (w : World) (h : RdAt w p 0 s at_) :
    Calls Tryd.prog 92 #[.pointer (some ⟨p, 0, none⟩), .int .i64 0] w fun e' w' => e' = .returned (.string ⟨#[]⟩) ∧ Read p s (0, at_) w w' := by
  have hle := h.le
  have hbig := h.big
  have hgt : ¬ (s.length : Int) - at_ < 0 := by omega
  have h0 : w.cell? ⟨p, 0, none⟩ = some (.int .i64 0) := h.c0
  go_enter Tryd.func92, Tryd.ntmps92
  go_wp2_with fail
  refine (well_c p _ h0).mono ?_
  rintro e w1 ⟨rfl, rfl⟩
  go_wp2_with fail
  refine (Left_c p 0 at_ s _ h).mono ?_
  rintro e w1 ⟨rfl, hb⟩
  have h1 := h.keep hb
  have c1 := h1.c1
  have c2 := h1.c2
  have f2 := h1.f2
  clear h0
  have hsz := size_mk s
  go_wp2
  have k1 : IntKind.i64.wrap (at_ : Int) = at_ := IntWalk.i64_in _ (by omega)
  have k4 : (at_ : Int) ≤ s.length := by omega
  have k5 : (0 : Int) ≤ at_ := by omega
  go_quiet (fail)
  clear k1 k4 k5
  go_wp2
  go_ret
  refine ⟨ret_str (l := []) (by simp [ByteArray.data_extract]), ⟨?_, ?_, ?_, ?_, ?_, ?_, hle, hbig⟩, ((Fr.chp hb).setCell 2 _).trans (Fr.chp ((Fr.refl _).drewN _))⟩
  · show (w1.setCell _ _).cell? _ = _
    rw [World.cell?_setCell_other _ _ _ _ (by simp)]; exact h1.c0
  · show (w1.setCell _ _).cell? _ = _
    rw [World.cell?_setCell_other _ _ _ _ (by simp)]; exact h1.c1
  · exact World.cell?_setCell_same _ _ _ c2
  · exact (World.frozen?_setCell ..).trans h1.f0
  · exact (World.frozen?_setCell ..).trans h1.f1
  · exact (World.frozen?_setCell ..).trans h1.f2
theorem rRaw_c (p e at_ n : Nat) (s : List UInt8) (w : World) (h : RdAt w p e s at_) (hn : n < 1000000) :
    Calls Tryd.prog 92 #[.pointer (some ⟨p, 0, none⟩), .int .i64 n] w fun e' w' => e' = .returned (.string ⟨(rdRaw e s at_ n).1.toArray⟩) ∧ Read p s (rdRaw e s at_ n).2 w w' := by
  unfold rdRaw
  by_cases he : e ≠ 0
  · simp only [if_pos he]
    exact (rRaw_err p e at_ n s w h he).mono fun e' w' ⟨h1, h2⟩ => ⟨h1, by subst h2; exact ⟨h, Chp.refl _ _⟩⟩
  · obtain rfl : e = 0 := by omega
    simp only [if_neg he]
    by_cases hlt : s.length - at_ < n
    · simp only [if_pos hlt]
      exact rRaw_torn p at_ n s w h hlt hn
    · simp only [if_neg hlt]
      rcases Nat.eq_zero_or_pos n with rfl | hp
      · simpa using rRaw_zero p at_ s w h
      · exact rRaw_ok p at_ n s w h (by omega) (by omega)
end Go.Proofs.YthaocbmkkgeomaaDoor

/- The walks of umpire/codec's Reader: numbers. No condition but what each says. -/
namespace Go.Proofs.YthaocbmkkgeomaaDoor
open Go.RowKit

/-- Bytes as a number, the highest first. -/
def ofBe (l : List UInt8) : Nat := l.foldl (fun a b => a * 256 + b.toNat) 0
theorem ofBe_snoc (l : List UInt8) (b : UInt8) : ofBe (l ++ [b]) = ofBe l * 256 + b.toNat := by simp [ofBe]
theorem ofBe_step (l : List UInt8) (k : Nat) (h : k < l.length) : ofBe (l.take (k + 1)) = ofBe (l.take k) * 256 + l[k].toNat := by
  rw [List.take_succ_eq_append_getElem h, ofBe_snoc]
theorem ofBe_lt' : ∀ (l : List UInt8) (a : Nat), l.foldl (fun a b => a * 256 + b.toNat) a < (a + 1) * 256 ^ l.length
  | [], a => by simp
  | b :: l, a => by
    have h := ofBe_lt' l (a * 256 + b.toNat)
    have hb := b.toNat_lt
    simp only [List.foldl_cons, List.length_cons, Nat.pow_succ]
    refine Nat.lt_of_lt_of_le h ?_
    rw [Nat.mul_comm (256 ^ l.length) 256, ← Nat.mul_assoc]
    exact Nat.mul_le_mul_right _ (by omega)
theorem ofBe_lt (l : List UInt8) : ofBe l < 256 ^ l.length := by simpa [ofBe] using ofBe_lt' l 0
theorem ofBe_take_lt (l : List UInt8) (k n : Nat) (h : k ≤ n) : ofBe (l.take k) < 256 ^ n := by
  refine Nat.lt_of_lt_of_le (ofBe_lt _) (Nat.pow_le_pow_right (by omega) ?_)
  exact Nat.le_trans (List.length_take_le _ _) h
theorem be_or (a : Nat) (b : UInt8) (ha : a < 16777216) : bits BinOp.or IntKind.u32 ((a : Int) % 4294967296 * 256 % 4294967296) ((b.toNat : Int) % 4294967296) = ((a * 256 + b.toNat : Nat) : Int) := by
  have hb := b.toNat_lt
  have e1 : (a : Int) % 4294967296 * 256 % 4294967296 = ((a * 256 : Nat) : Int) := by omega
  have e2 : (b.toNat : Int) % 4294967296 = ((b.toNat : Nat) : Int) := by omega
  rw [e1, e2, u32_or_nat _ _ (by omega) (by omega)]
  rw [Nat.mul_comm a 256]
  exact congrArg _ (Nat.two_pow_add_eq_or_of_lt (i := 8) (b := b.toNat) (by omega) a).symm
theorem be_or' (a : Nat) (b : UInt8) (ha : a < 16777216) : bits BinOp.or IntKind.u32 ((a : Int) * 256 % 4294967296) ((b.toNat : Int) % 4294967296) = ((a * 256 + b.toNat : Nat) : Int) := by
  have e : (a : Int) % 4294967296 = a := by omega
  have h := be_or a b ha
  rw [e] at h
  exact h
theorem rdRaw_len (e : Nat) (s : List UInt8) (at_ n : Nat) : (rdRaw e s at_ n).1.length ≤ n := by
  unfold rdRaw; split
  · simp
  · split
    · simp
    · simp; omega

set_option maxHeartbeats 400000 in
theorem take8_c (p e at_ : Nat) (s : List UInt8) (w : World) (h : RdAt w p e s at_) :
    Calls Tryd.prog 81 #[.pointer (some ⟨p, 0, none⟩), .int .i64 1] w fun e' w' => e' = .returned (.int .u8 (ofBe (rdRaw e s at_ 1).1)) ∧ Read p s (rdRaw e s at_ 1).2 w w' := by
  have hcv := fun (W : World) (l : List UInt8) => run_bytes_of_string (P := Tryd.prog) W 9 25 5 ⟨l.toArray⟩ Tryd.underlying9 Tryd.underlying25 Tryd.underlying5
  have hraw := rRaw_c p e at_ 1 s w h (by omega)
  have hlen := rdRaw_len e s at_ 1
  generalize rdRaw e s at_ 1 = x at hraw hlen ⊢
  have HR := Lib.hid hraw
  clear hraw
  go_enter Tryd.func81, Tryd.ntmps81
  go_wp2_with fail
  refine HR.out.mono ?_
  rintro e w1 ⟨rfl, hr⟩
  go_wp2
  have hcell : ∀ j (hj : j < x.1.length), (w1.alloc (Obj.cells (bytesRow ⟨x.1.toArray⟩ (grownCap w1 x.1.length 0 5)) 5 ((bytesRow ⟨x.1.toArray⟩ (grownCap w1 x.1.length 0 5)).size, (bytesRow ⟨x.1.toArray⟩ (grownCap w1 x.1.length 0 5)).size + 1))).drew.cell? ⟨w1.heap.size, j, none⟩ = some (.int .u8 (x.1[j].toNat : Int)) := by
    intro j hj
    rw [World.cell?_drew, World.cell?_alloc_mark, bytesRow_at _ _ _ (by simpa using hj)]
    simp
  generalize hcap : grownCap w1 x.1.length 0 5 = cap
  rw [hcap] at hcell
  have hfr : Fr w1 (w1.alloc (Obj.cells (bytesRow ⟨x.1.toArray⟩ cap) 5 ((bytesRow ⟨x.1.toArray⟩ cap).size, (bytesRow ⟨x.1.toArray⟩ cap).size + 1))).drew := ((Fr.refl _).alloc _).drew
  generalize (w1.alloc (Obj.cells (bytesRow ⟨x.1.toArray⟩ cap) 5 ((bytesRow ⟨x.1.toArray⟩ cap).size, (bytesRow ⟨x.1.toArray⟩ cap).size + 1))).drew = W2 at hcell hfr ⊢
  clear hcap hcv HR
  generalize w1.heap.size = B2 at hcell ⊢
  go_loop [4, 12] (fun a i => ∃ k : Nat, k ≤ x.1.length ∧ i = .int .i64 k ∧ a = .int .u8 (ofBe (x.1.take k))) (fun _ i => x.1.length - (intOf i).toNat)
  case atStart => exact ⟨0, Nat.zero_le _, rfl, rfl⟩
  case round =>
    obtain ⟨k, hk, rfl, rfl⟩ := hrel
    by_cases hlt : k < x.1.length
    · have hc := hcell k hlt
      clear hcell
      go_wp2
      go_round
      case rel =>
        refine ⟨k + 1, by omega, by go_num, ?_⟩
        have h1 := ofBe_take_lt x.1 k 0 (by omega)
        have h2 := ofBe_take_lt x.1 (k + 1) 1 (by omega)
        have h3 := ofBe_step x.1 k hlt
        simp only [Nat.reducePow] at h1 h2
        rw [be_or _ _ (by omega), h3]; simp only [Value.int.injEq, true_and]; omega
      case measure => simp [intOf]; omega
    · go_wp2
      go_ret
      exact ⟨by rw [List.take_of_length_le (by omega)]; rfl, hr.1.keep hfr, hr.2.trans (Fr.chp hfr)⟩
theorem rU8_c (p e at_ : Nat) (s : List UInt8) (w : World) (h : RdAt w p e s at_) :
    Calls Tryd.prog 56 #[.pointer (some ⟨p, 0, none⟩)] w fun e' w' => e' = .returned (.int .u8 (ofBe (rdRaw e s at_ 1).1)) ∧ Read p s (rdRaw e s at_ 1).2 w w' := by
  have hraw := take8_c p e at_ s w h
  generalize rdRaw e s at_ 1 = x at hraw ⊢
  have HR := Lib.hid hraw
  clear hraw
  go_enter Tryd.func56, Tryd.ntmps56
  go_wp2_with fail
  refine HR.out.mono ?_
  rintro e w1 ⟨rfl, hr⟩
  go_wp2
  go_ret
  exact ⟨rfl, hr⟩

set_option maxHeartbeats 400000 in
theorem take16_c (p e at_ : Nat) (s : List UInt8) (w : World) (h : RdAt w p e s at_) :
    Calls Tryd.prog 82 #[.pointer (some ⟨p, 0, none⟩), .int .i64 2] w fun e' w' => e' = .returned (.int .u16 (ofBe (rdRaw e s at_ 2).1)) ∧ Read p s (rdRaw e s at_ 2).2 w w' := by
  have hcv := fun (W : World) (l : List UInt8) => run_bytes_of_string (P := Tryd.prog) W 9 25 5 ⟨l.toArray⟩ Tryd.underlying9 Tryd.underlying25 Tryd.underlying5
  have hraw := rRaw_c p e at_ 2 s w h (by omega)
  have hlen := rdRaw_len e s at_ 2
  generalize rdRaw e s at_ 2 = x at hraw hlen ⊢
  have HR := Lib.hid hraw
  clear hraw
  go_enter Tryd.func82, Tryd.ntmps82
  go_wp2_with fail
  refine HR.out.mono ?_
  rintro e w1 ⟨rfl, hr⟩
  go_wp2
  have hcell : ∀ j (hj : j < x.1.length), (w1.alloc (Obj.cells (bytesRow ⟨x.1.toArray⟩ (grownCap w1 x.1.length 0 5)) 5 ((bytesRow ⟨x.1.toArray⟩ (grownCap w1 x.1.length 0 5)).size, (bytesRow ⟨x.1.toArray⟩ (grownCap w1 x.1.length 0 5)).size + 1))).drew.cell? ⟨w1.heap.size, j, none⟩ = some (.int .u8 (x.1[j].toNat : Int)) := by
    intro j hj
    rw [World.cell?_drew, World.cell?_alloc_mark, bytesRow_at _ _ _ (by simpa using hj)]
    simp
  generalize hcap : grownCap w1 x.1.length 0 5 = cap
  rw [hcap] at hcell
  have hfr : Fr w1 (w1.alloc (Obj.cells (bytesRow ⟨x.1.toArray⟩ cap) 5 ((bytesRow ⟨x.1.toArray⟩ cap).size, (bytesRow ⟨x.1.toArray⟩ cap).size + 1))).drew := ((Fr.refl _).alloc _).drew
  generalize (w1.alloc (Obj.cells (bytesRow ⟨x.1.toArray⟩ cap) 5 ((bytesRow ⟨x.1.toArray⟩ cap).size, (bytesRow ⟨x.1.toArray⟩ cap).size + 1))).drew = W2 at hcell hfr ⊢
  clear hcap hcv HR
  generalize w1.heap.size = B2 at hcell ⊢
  go_loop [4, 12] (fun a i => ∃ k : Nat, k ≤ x.1.length ∧ i = .int .i64 k ∧ a = .int .u16 (ofBe (x.1.take k))) (fun _ i => x.1.length - (intOf i).toNat)
  case atStart => exact ⟨0, Nat.zero_le _, rfl, rfl⟩
  case round =>
    obtain ⟨k, hk, rfl, rfl⟩ := hrel
    by_cases hlt : k < x.1.length
    · have hc := hcell k hlt
      clear hcell
      go_wp2
      go_round
      case rel =>
        refine ⟨k + 1, by omega, by go_num, ?_⟩
        have h1 := ofBe_take_lt x.1 k 1 (by omega)
        have h2 := ofBe_take_lt x.1 (k + 1) 2 (by omega)
        have h3 := ofBe_step x.1 k hlt
        simp only [Nat.reducePow] at h1 h2
        rw [be_or _ _ (by omega), IntWalk.u16_in _ (by omega), h3]
      case measure => simp [intOf]; omega
    · go_wp2
      go_ret
      exact ⟨by rw [List.take_of_length_le (by omega)]; rfl, hr.1.keep hfr, hr.2.trans (Fr.chp hfr)⟩
theorem rU16_c (p e at_ : Nat) (s : List UInt8) (w : World) (h : RdAt w p e s at_) :
    Calls Tryd.prog 57 #[.pointer (some ⟨p, 0, none⟩)] w fun e' w' => e' = .returned (.int .u16 (ofBe (rdRaw e s at_ 2).1)) ∧ Read p s (rdRaw e s at_ 2).2 w w' := by
  have hraw := take16_c p e at_ s w h
  generalize rdRaw e s at_ 2 = x at hraw ⊢
  have HR := Lib.hid hraw
  clear hraw
  go_enter Tryd.func57, Tryd.ntmps57
  go_wp2_with fail
  refine HR.out.mono ?_
  rintro e w1 ⟨rfl, hr⟩
  go_wp2
  go_ret
  exact ⟨rfl, hr⟩


theorem Chp.grownBy {p : Nat} {w w' : World} (h : Chp p w w') : w.grownBy w' (some p) := ⟨h.os, h.tape, h.output, h.size, fun k hk hne => h.block k hk (fun e => hne (by rw [e])) (by intro e; cases e)⟩
theorem ownsRow_chp {w w' : World} {p base : Nat} {e : TypeId} {size : Nat} {v : Value} {n : Nat} {xs : List Value} (h : w.ownsRow base e size v n xs) (hp : p < base) (k : Chp p w w') : w'.ownsRow base e size v n xs :=
  h.kept k.grownBy (by
    cases hv : v.ownBlock with
    | none => exact .inl rfl
    | some g => exact .inr (by intro e; cases e; have := (h.lt p hv).1; omega))
/-- A list that is read: its numbers; the error behind; how many bytes are read behind. -/
def rdNums (s : List UInt8) (at_ m : Nat) : List Nat := (List.range m).map fun i => ofBe ((s.drop (at_ + 2 * i)).take 2)
def rdList (e : Nat) (s : List UInt8) (at_ : Nat) : List Nat × Nat × Nat :=
  if e ≠ 0 then ([], e, at_) else if s.length - at_ < 1 then ([], 5, at_)
  else if s.length - (at_ + 1) < 2 * (s.getD at_ 0).toNat then ([], 5, at_) else (rdNums s (at_ + 1) (s.getD at_ 0).toNat, 0, at_ + 1 + 2 * (s.getD at_ 0).toNat)
theorem ofBe_one (s : List UInt8) (at_ : Nat) (h : at_ < s.length) : ofBe ((s.drop at_).take 1) = (s.getD at_ 0).toNat := by
  have e : (s.drop at_).take 1 = [s[at_]] := by rw [List.drop_eq_getElem_cons h]; rfl
  rw [e]
  simp [ofBe, List.getD, h]
end Go.Proofs.YthaocbmkkgeomaaDoor

/- The walks of umpireref01: numbers, lists, their reader. No condition but what each says. -/
namespace Go.Proofs.YthaocbmkkgeomaaDoor
open Go.RowKit

theorem ofNat_mod (m : Nat) : UInt8.ofNat (m % 256) = UInt8.ofNat m := by
  apply UInt8.toNat_inj.1; simp
theorem rNumber_c (n W : Nat) (w : World) (hn : n < 4294967296) (hW : W ≤ 100) :
    Calls Tryd.prog 59 #[.int .u32 n, .int .i64 W] w fun e w' => e = .returned (.string ⟨(be n W).toArray⟩) ∧ Fr w w' := by
  go_enter Tryd.func59, Tryd.ntmps59
  go_wp2
  go_loopw [0, 5, 6] (fun a s i wr => ∃ (k m : Nat) (l : List UInt8), k ≤ W ∧ a = .int .u32 m ∧ s = .string ⟨l.toArray⟩ ∧ i = .int .i64 k ∧ m ≤ n ∧ be m (W - k) ++ l = be n W ∧ l.length = k ∧ Fr w wr) (fun _ _ i _ => W - (intOf i).toNat)
  case atStart => exact ⟨0, n, [], Nat.zero_le _, rfl, rfl, rfl, Nat.le_refl _, by simp, rfl, Fr.refl _⟩
  case round =>
    obtain ⟨k, m, l, hk, rfl, rfl, rfl, hm, hbe, hl, hfr⟩ := hrel
    have HB := Lib.hid hbe
    have HL := Lib.hid hl
    have hll : l.length ≤ 100 := by omega
    clear hbe hl
    by_cases hlt : k < W
    · have hlt' : (k : Int) < W := by omega
      go_wp2
      go_roundw
      case rel => exact ⟨k + 1, m / 256, UInt8.ofNat (m % 256) :: l, by omega, by go_num, congrArg Value.string (mk_append [_] _), by go_num, by omega, by
        have e : W - k = (W - (k + 1)) + 1 := by omega
        rw [← HB.out, e, be, ofNat_mod]; simp, by simp; exact HL.out, hfr.alloc _⟩
      case measure => simp [intOf]; omega
    · go_wp2
      go_ret
      refine ⟨?_, hfr⟩
      have h := HB.out
      rw [show W - k = 0 by omega] at h
      rw [← h]; rfl

/-- The document's reader in block 'p': what is left of 's' behind 'at_' bytes, and its error. -/
structure RfAt (w : World) (p : Nat) (e : Nat) (s : List UInt8) (at_ : Nat) : Prop where
  c0 : w.cell? ⟨p, 0, none⟩ = some (.string ⟨(s.drop at_).toArray⟩)
  c1 : w.cell? ⟨p, 1, none⟩ = some (.int .i64 (at_ : Int))
  c2 : w.cell? ⟨p, 2, none⟩ = some (.int .i64 (e : Int))
  f0 : w.frozen? ⟨p, 0, none⟩ = false
  f1 : w.frozen? ⟨p, 1, none⟩ = false
  f2 : w.frozen? ⟨p, 2, none⟩ = false
  le : at_ ≤ s.length
  big : s.length ≤ 140737488355328
theorem RfAt.lt {w : World} {p e at_ : Nat} {s : List UInt8} (h : RfAt w p e s at_) : p < w.heap.size := lt_of_cell h.c0
theorem RfAt.keep {w w' : World} {p e at_ : Nat} {s : List UInt8} (h : RfAt w p e s at_) (f : Fr w w') : RfAt w' p e s at_ :=
  ⟨f.keep h.c0, f.keep h.c1, f.keep h.c2, (f.frozen p 0 h.lt).trans h.f0, (f.frozen p 1 h.lt).trans h.f1, (f.frozen p 2 h.lt).trans h.f2, h.le, h.big⟩
theorem RfAt.block {w w' : World} {p e at_ : Nat} {s : List UInt8} (h : RfAt w p e s at_) (hb : w'.heap[p]? = w.heap[p]?) : RfAt w' p e s at_ :=
  ⟨(World.cell?_of_block (a := ⟨p, 0, none⟩) hb).trans h.c0, (World.cell?_of_block (a := ⟨p, 1, none⟩) hb).trans h.c1, (World.cell?_of_block (a := ⟨p, 2, none⟩) hb).trans h.c2, (World.frozen?_of_block (a := ⟨p, 0, none⟩) hb).trans h.f0, (World.frozen?_of_block (a := ⟨p, 1, none⟩) hb).trans h.f1, (World.frozen?_of_block (a := ⟨p, 2, none⟩) hb).trans h.f2, h.le, h.big⟩
/-- A reader of the document's that has read. -/
def RRead (p : Nat) (s : List UInt8) (x : Nat × Nat) (w w' : World) : Prop := RfAt w' p x.1 s x.2 ∧ Chp p w w'

theorem fRaw_err (p e at_ n : Nat) (s : List UInt8) (w : World) (h : RfAt w p e s at_) (he : e ≠ 0) :
    Calls Tryd.prog 86 #[.pointer (some ⟨p, 0, none⟩), .int .i64 n] w fun e' w' => e' = .returned (.string ⟨#[]⟩) ∧ w = w' := by
  have c2 := h.c2
  have he' : ((e : Int) != 0) = true := by simp; omega
  clear he
  go_enter Tryd.func86, Tryd.ntmps86
  go_wp2
  go_ret
  exact ⟨rfl, rfl⟩
theorem fRaw_torn (p at_ n : Nat) (s : List UInt8) (w : World) (h : RfAt w p 0 s at_) (hn : s.length - at_ < n) :
    Calls Tryd.prog 86 #[.pointer (some ⟨p, 0, none⟩), .int .i64 n] w fun e' w' => e' = .returned (.string ⟨#[]⟩) ∧ RRead p s (5, at_) w w' := by
  have c2 : w.cell? ⟨p, 2, none⟩ = some (.int .i64 0) := h.c2
  have c0 := h.c0
  have f2 := h.f2
  have hsz := size_mk (s.drop at_)
  have hlt : ((s.drop at_).length : Int) < n := by simp; omega
  have hpos : ¬ (n : Int) ≤ 0 := by omega
  clear hn
  generalize s.drop at_ = r at c0 hsz hlt
  go_enter Tryd.func86, Tryd.ntmps86
  go_wp2
  go_ret
  refine ⟨rfl, ⟨?_, ?_, ?_, ?_, ?_, ?_, h.le, h.big⟩, (Chp.refl _ _).setCell 2 _⟩
  · rw [World.cell?_setCell_other _ _ _ _ (by simp)]; exact h.c0
  · rw [World.cell?_setCell_other _ _ _ _ (by simp)]; exact h.c1
  · exact World.cell?_setCell_same _ _ _ c2
  · exact (World.frozen?_setCell ..).trans h.f0
  · exact (World.frozen?_setCell ..).trans h.f1
  · exact (World.frozen?_setCell ..).trans h.f2
theorem fRaw_ok (p at_ n : Nat) (s : List UInt8) (w : World) (h : RfAt w p 0 s at_) (hn : n ≤ s.length - at_) (hp : 0 < n) :
    Calls Tryd.prog 86 #[.pointer (some ⟨p, 0, none⟩), .int .i64 n] w fun e' w' => e' = .returned (.string ⟨((s.drop at_).take n).toArray⟩) ∧ RRead p s (0, at_ + n) w w' := by
  have c2 : w.cell? ⟨p, 2, none⟩ = some (.int .i64 0) := h.c2
  have c0 := h.c0
  have c1 := h.c1
  have f0 := h.f0
  have f1 := h.f1
  have hbig := h.big
  have hle := h.le
  have hsz := size_mk (s.drop at_)
  have hlt : (n : Int) ≤ ((s.drop at_).length : Int) := by simp; omega
  have hdr : ∀ h, ((s.drop at_).drop n) = s.drop (at_ + n) := fun _ : True => by rw [List.drop_drop]
  have hd := hdr trivial
  have HD := Lib.hid hd
  have hpos : ¬ (n : Int) ≤ 0 := by omega
  have hsum : (at_ : Int) + n ≤ 140737488355328 := by omega
  have hsum2 : at_ + n ≤ s.length := by omega
  clear hn hdr hd hbig
  generalize s.drop at_ = r at c0 hsz hlt HD ⊢
  go_enter Tryd.func86, Tryd.ntmps86
  go_wp2
  go_ret
  have e1 : (⟨r.toArray⟩ : ByteArray).extract n r.length = ⟨(s.drop (at_ + n)).toArray⟩ := by
    rw [← HD.out]; apply ByteArray.ext; simp [ByteArray.data_extract, List.take_of_length_le]
  refine ⟨ret_str (by simp [ByteArray.data_extract]), ⟨?_, ?_, ?_, ?_, ?_, ?_, hsum2, h.big⟩, ((Chp.refl _ _).setCell 0 _).setCell 1 _⟩
  · rw [World.cell?_setCell_other _ _ _ _ (by simp), e1]; exact World.cell?_setCell_same _ _ _ c0
  · rw [World.cell?_setCell_same (u := .int .i64 at_) _ _ _ (by rw [World.cell?_setCell_other _ _ _ _ (by simp)]; exact c1)]; simp
  · rw [World.cell?_setCell_other _ _ _ _ (by simp), World.cell?_setCell_other _ _ _ _ (by simp)]; exact h.c2
  · exact ((World.frozen?_setCell ..).trans (World.frozen?_setCell ..)).trans h.f0
  · exact ((World.frozen?_setCell ..).trans (World.frozen?_setCell ..)).trans h.f1
  · exact ((World.frozen?_setCell ..).trans (World.frozen?_setCell ..)).trans h.f2
theorem fRaw_c (p e at_ n : Nat) (s : List UInt8) (w : World) (h : RfAt w p e s at_) (hp : 0 < n) :
    Calls Tryd.prog 86 #[.pointer (some ⟨p, 0, none⟩), .int .i64 n] w fun e' w' => e' = .returned (.string ⟨(rdRaw e s at_ n).1.toArray⟩) ∧ RRead p s (rdRaw e s at_ n).2 w w' := by
  unfold rdRaw
  by_cases he : e ≠ 0
  · simp only [if_pos he]
    exact (fRaw_err p e at_ n s w h he).mono fun e' w' ⟨h1, h2⟩ => ⟨h1, by subst h2; exact ⟨h, Chp.refl _ _⟩⟩
  · obtain rfl : e = 0 := by omega
    simp only [if_neg he]
    by_cases hlt : s.length - at_ < n
    · simp only [if_pos hlt]
      exact fRaw_torn p at_ n s w h hlt
    · simp only [if_neg hlt]
      exact fRaw_ok p at_ n s w h (by omega) hp
theorem fNum_c (p e at_ W : Nat) (s : List UInt8) (w : World) (h : RfAt w p e s at_) (hW : 0 < W) (hW4 : W ≤ 4) :
    Calls Tryd.prog 63 #[.pointer (some ⟨p, 0, none⟩), .int .i64 W] w fun e' w' => e' = .returned (.int .u32 (ofBe (rdRaw e s at_ W).1)) ∧ RRead p s (rdRaw e s at_ W).2 w w' := by
  have hraw := fRaw_c p e at_ W s w h hW
  have hlen := rdRaw_len e s at_ W
  generalize rdRaw e s at_ W = x at hraw hlen ⊢
  have HR := Lib.hid hraw
  have hl4 : x.1.length ≤ 4 := by omega
  clear hraw hlen
  have hsz := size_mk x.1
  go_enter Tryd.func63, Tryd.ntmps63
  go_wp2_with fail
  refine HR.out.mono ?_
  rintro e w1 ⟨rfl, hr⟩
  go_wp2
  go_loop [6, 7] (fun a i => ∃ k : Nat, k ≤ x.1.length ∧ i = .int .i64 k ∧ a = .int .u32 (ofBe (x.1.take k))) (fun _ i => x.1.length - (intOf i).toNat)
  case atStart => exact ⟨0, Nat.zero_le _, rfl, rfl⟩
  case round =>
    obtain ⟨k, hk, rfl, rfl⟩ := hrel
    by_cases hlt : k < x.1.length
    · have h1 := ofBe_take_lt x.1 k 3 (by omega)
      have h2 := ofBe_take_lt x.1 (k + 1) 4 (by omega)
      have h3 := ofBe_step x.1 k hlt
      simp only [Nat.reducePow] at h1 h2
      have H3 := Lib.hid h3
      have hb := (x.1[k]).toNat_lt
      have hg : ∀ hh, ((⟨x.1.toArray⟩ : ByteArray)[k]'hh) = x.1[k] := fun _ => rfl
      generalize ofBe (x.1.take k) = q at h1 H3 ⊢
      clear h3
      go_wp2
      go_round
      case rel => exact ⟨k + 1, by omega, by go_num, by rw [H3.out]; go_num⟩
      case measure => simp [intOf]; omega
    · go_wp2
      go_ret
      exact ⟨by rw [List.take_of_length_le (by omega)]; rfl, hr⟩
end Go.Proofs.YthaocbmkkgeomaaDoor
