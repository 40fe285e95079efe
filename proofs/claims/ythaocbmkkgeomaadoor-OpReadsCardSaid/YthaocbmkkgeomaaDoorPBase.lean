/- Base words of every walk: 'Fr w w'': what stood in w stands in w'; the tables that are listed; small laws. No condition beyond what each says. -/
import Derived.Test.YthaocbmkkgeomaaDoorRows
import Derived.WalkKit
import Derived.WalkSpells
import Derived.WalkLawsBesides
import Derived.Lib.Hide
import Derived.Lib.LaidTab
import Derived.Lib.ItoaNum
import Derived.Laws.BytesArg
import Derived.Deep.AppendLies
import Derived.Deep.RegionLaw
import Derived.Deep.QuietTactic
import Derived.BigQuiet
import Derived.Lib.AppendStr
import Derived.Lib.ItoaMem
import Derived.Lib.ItoaLen
import Derived.Lib.ParseIntB
import Derived.Deep.MidRow
import Derived.Deep.WholeRow
set_option linter.all false
set_option linter.unusedVariables false
set_option linter.unusedSimpArgs false
set_option linter.unnecessarySimpa false
/- Base words of every walk: 'Fr w w'': what stood in w stands in w'; the tables that are listed; small laws. No condition beyond what each says. -/
namespace Go.Proofs.YthaocbmkkgeomaaDoor
open Go.RowKit

/-- All that stood in 'w' stands in 'w'' unchanged. -/
def Fr (w w' : World) : Prop := Below w.heap.size w w'
theorem Fr.refl (w : World) : Fr w w := Below.refl _ _
theorem Fr.size {w w' : World} (h : Fr w w') : w.heap.size ≤ w'.heap.size := Below.size h
theorem Fr.trans {a b c : World} (h : Fr a b) (k : Fr b c) : Fr a c := Below.trans h (Below.mono k h.size)
theorem Fr.trans' {a b c : World} (h : Fr a b) (k : Below a.heap.size b c) : Fr a c := Below.trans h k
theorem Fr.alloc {a w : World} (h : Fr a w) (o : Obj) : Fr a (w.alloc o) := Below.alloc h h.size o
theorem Fr.drew {a w : World} (h : Fr a w) : Fr a w.drew := Below.drew h
theorem Fr.drewN {a w : World} (h : Fr a w) (n : Nat) : Fr a (w.drewN n) := Below.trans h ⟨rfl, rfl, rfl, Nat.le_refl _, fun _ _ => rfl⟩
theorem Fr.setCell {a w : World} (h : Fr a w) {p : Addr} (hp : a.heap.size ≤ p.block) (u : Value) : Fr a (w.setCell p u) := Below.setCell h hp u
theorem Fr.cell {a w : World} (h : Fr a w) : ∀ b o, b < a.heap.size → w.cell? ⟨b, o, none⟩ = a.cell? ⟨b, o, none⟩ := fun b o hb => Below.cell (p := ⟨b, o, none⟩) h hb
theorem Fr.frozen {a w : World} (h : Fr a w) : ∀ b o, b < a.heap.size → w.frozen? ⟨b, o, none⟩ = a.frozen? ⟨b, o, none⟩ := fun b o hb => Below.frozen (p := ⟨b, o, none⟩) h hb
theorem Fr.block {a w : World} (h : Fr a w) {k : Nat} (hk : k < a.heap.size) : w.heap[k]? = a.heap[k]? := Below.block h k hk

theorem Fr.size1 {w w1 : World} {X : Obj} (h : Fr (w.alloc X) w1) : w.heap.size < w1.heap.size := by have := h.size; simp at this; omega
theorem Fr.size2 {w w1 : World} {X Y : Obj} (h : Fr ((w.alloc X).alloc Y) w1) : w.heap.size + 1 < w1.heap.size := by have := h.size; simp at this; omega
theorem Fr.size3 {w w1 : World} {X Y Z : Obj} (h : Fr (((w.alloc X).alloc Y).alloc Z) w1) : w.heap.size + 2 < w1.heap.size := by have := h.size; simp at this; omega
theorem lt_of_cell {w : World} {a : Addr} {v : Value} (h : w.cell? a = some v) : a.block < w.heap.size := by
  unfold World.cell? at h
  rcases Nat.lt_or_ge a.block w.heap.size with g | g
  · exact g
  · rw [Array.getElem?_eq_none g] at h; simp at h
theorem Fr.keep {a w : World} (h : Fr a w) {p : Addr} {v : Value} (hc : a.cell? p = some v) : w.cell? p = some v := (Below.cell h (lt_of_cell hc)).trans hc

def kModel (f : Int) : Int := if f ≤ 3 then 0 else if f ≤ 5 then 1 else if f ≤ 9 then 2 else 3
def kNeeds (f : Int) : Int := if f = 2 ∨ f = 4 then 2 else if f = 3 then 6 else if f = 6 ∨ f = 8 then 1 else if f = 7 then 3 else if f = 9 then 7 else 0
def kName (f : Int) : List UInt8 := if f = 1 then [114, 101, 97, 100] else if f = 2 then [119, 114, 105, 116, 101] else if f = 3 then [99, 97, 115] else if f = 4 then [101, 110, 113] else if f = 5 then [100, 101, 113] else if f = 6 then [103, 101, 116] else if f = 7 then [112, 117, 116] else if f = 8 then [100, 101, 108] else if f = 9 then [115, 119, 97, 112] else if f = 10 then [97, 99, 113, 117, 105, 114, 101] else [114, 101, 108, 101, 97, 115, 101]

/-- The table of kinds, as cells. -/
structure KindsAt (w : World) : Prop where
  model : ∀ f : Nat, 1 ≤ f → f ≤ 11 → w.cell? ⟨1, f * 3, none⟩ = some (.int .u8 (kModel f))
  name : ∀ f : Nat, 1 ≤ f → f ≤ 11 → w.cell? ⟨1, f * 3 + 1, none⟩ = some (.string ⟨(kName f).toArray⟩)
  needs : ∀ f : Nat, 1 ≤ f → f ≤ 11 → w.cell? ⟨1, f * 3 + 2, none⟩ = some (.int .u8 (kNeeds f))
theorem KindsAt.keep {a w : World} (h : KindsAt a) (f : Fr a w) : KindsAt w :=
  ⟨fun i h1 h2 => f.keep (h.model i h1 h2), fun i h1 h2 => f.keep (h.name i h1 h2), fun i h1 h2 => f.keep (h.needs i h1 h2)⟩

def resWord (K : Nat) : List UInt8 := if K = 0 then [100, 111, 110, 101] else if K = 1 then [118, 97, 108, 117, 101] else if K = 2 then [110, 111, 110, 101] else if K = 3 then [121, 101, 115] else [110, 111]

/-- What every program's walks may need of the variables that are listed. -/
structure Env0 (w : World) : Prop where
  triv0 : True
  pow10 : Lib.TabIs Tryd.prog w "internal/strconv.uint64pow10" .u64 Lib.pow10Tab
  many : 5 < w.heap.size
  maxl : ∃ m, w.cell? ⟨2, 0, none⟩ = some (.int .i64 m)
  errS : ∃ te pe, w.cell? ⟨3, 0, none⟩ = some (.iface te pe)
  errR : ∃ te pe, w.cell? ⟨4, 0, none⟩ = some (.iface te pe)
theorem Env0.keep {a w : World} (h : Env0 a) (f : Fr a w) : Env0 w where
  triv0 := trivial
  pow10 := var?_below f (by kernel_rfl) h.many h.pow10
  many := Nat.lt_of_lt_of_le h.many f.size
  maxl := h.maxl.elim fun m hm => ⟨m, f.keep hm⟩
  errS := by obtain ⟨te, pe, hm⟩ := h.errS; exact ⟨te, pe, f.keep hm⟩
  errR := by obtain ⟨te, pe, hm⟩ := h.errR; exact ⟨te, pe, f.keep hm⟩
/-- The tables that are listed, as they stand in a world. -/
structure Env (w : World) : Prop extends Env0 w where
  triv : True
  kinds : KindsAt w
theorem Env.keep {a w : World} (h : Env a) (f : Fr a w) : Env w where
  toEnv0 := h.toEnv0.keep f
  triv := trivial
  kinds := h.kinds.keep f
instance (w : World) : Coe (Env w) (Env0 w) := ⟨fun h => h.toEnv0⟩
theorem Env.alloc {w : World} (h : Env w) (o : Obj) : Env (w.alloc o) := h.keep ((Fr.refl w).alloc o)
theorem Env.drew {w : World} (h : Env w) : Env w.drew := h.keep ((Fr.refl w).drew)
theorem Env.drewN {w : World} (h : Env w) (n : Nat) : Env (w.drewN n) := h.keep ((Fr.refl w).drewN n)

/-- A slice of 'n' elements whose cells read 'xs', in a block of 'Z'. -/
structure SlAt (w : World) (Z : Nat → Prop) (v : Value) (n : Nat) (xs : List Value) : Prop where
  form : ∃ a cap, v = .slice a n cap ∧ n ≤ cap ∧ cap ≤ maxLen ∧ (xs = [] ∨ ∃ b off, a = some ⟨b, off, none⟩ ∧ Z b ∧ b < w.heap.size ∧ ∀ j u, xs[j]? = some u → w.cell? ⟨b, off + j, none⟩ = some u)
theorem SlAt.keep {w w' : World} {Z : Nat → Prop} {v : Value} {n : Nat} {xs : List Value} (h : SlAt w Z v n xs) (hs : w.heap.size ≤ w'.heap.size) (hb : ∀ k, Z k → k < w.heap.size → w'.heap[k]? = w.heap[k]?) : SlAt w' Z v n xs := by
  obtain ⟨a, cap, rfl, h1, h2, h3⟩ := h
  refine ⟨a, cap, rfl, h1, h2, ?_⟩
  rcases h3 with h3 | ⟨b, off, rfl, hz, hlt, hc⟩
  · exact .inl h3
  · exact .inr ⟨b, off, rfl, hz, by omega, fun j u hj => (World.cell?_of_block (a := ⟨b, off + j, none⟩) (hb b hz hlt)).trans (hc j u hj)⟩
theorem SlAt.fr {w w' : World} {Z : Nat → Prop} {v : Value} {n : Nat} {xs : List Value} (h : SlAt w Z v n xs) (f : Fr w w') : SlAt w' Z v n xs := h.keep f.size fun k _ hk => f.block hk
theorem SlAt.mono {w : World} {Z Z' : Nat → Prop} {v : Value} {n : Nat} {xs : List Value} (h : SlAt w Z v n xs) (hZ : ∀ k, Z k → Z' k) : SlAt w Z' v n xs := by
  obtain ⟨a, cap, rfl, h1, h2, h3⟩ := h
  refine ⟨a, cap, rfl, h1, h2, ?_⟩
  rcases h3 with h3 | ⟨b, off, rfl, hz, hlt, hc⟩
  · exact .inl h3
  · exact .inr ⟨b, off, rfl, hZ b hz, hlt, hc⟩
/-- What a call owns can be read. -/
theorem SlAt.own {w : World} {base : Nat} {e : TypeId} {size : Nat} {v : Value} {n : Nat} {xs : List Value} (h : w.ownsRow base e size v n xs) : SlAt w (base ≤ ·) v n xs := by
  obtain ⟨h1, h2⟩ := h
  rcases h2 with ⟨rfl, rfl⟩ | ⟨g, cap, cur, rfl, hg, hh, hc, hm, hs, ht⟩
  · have : xs = [] := List.eq_nil_of_length_eq_zero (by simpa using h1)
    exact ⟨none, 0, rfl, Nat.le_refl _, by decide, .inl this⟩
  · refine ⟨_, cap, rfl, hc, hm, .inr ⟨g, 0, rfl, hg, ?_, fun j u hj => ?_⟩⟩
    · rcases Nat.lt_or_ge g w.heap.size with h | h
      · exact h
      · rw [Array.getElem?_eq_none h] at hh; simp at hh
    · subst ht
      have hj2 : cur[j]? = some u := by
        have : j < n * size := by have := (List.getElem?_eq_some_iff.1 hj).1; simp at this; omega
        rw [List.getElem?_take_of_lt this] at hj
        simpa using hj
      simp [World.cell?, hh, hj2]
end Go.Proofs.YthaocbmkkgeomaaDoor

/- Small laws on strings of this program's types: string([]byte{a}), string([]byte{a, b}). -/
namespace Go.Proofs.YthaocbmkkgeomaaDoor
open Go.RowKit

/-- 'string(b)' at a literal that the call has just made. -/
theorem conv1 (W : World) (x : Int) (c : Nat) : (convert 25 9 (.slice (some ⟨W.heap.size, 0, none⟩) 1 c)).run Tryd.prog (W.alloc (.cells #[.int .u8 x] 5)) = .ok (.string ⟨#[UInt8.ofNat x.toNat]⟩) (W.alloc (.cells #[.int .u8 x] 5)) :=
  run_convert_bytes_arg _ 25 5 Tryd.underlying25 Tryd.underlying5 _ 0 1 c [x] rfl (fun i hi => by
    rcases (show i = 0 by omega) with rfl; simp) _ Tryd.underlying9
theorem conv2 (W : World) (x y : Int) (c : Nat) : (convert 25 9 (.slice (some ⟨W.heap.size, 0, none⟩) 2 c)).run Tryd.prog (W.alloc (.cells #[.int .u8 x, .int .u8 y] 5)) = .ok (.string ⟨#[UInt8.ofNat x.toNat, UInt8.ofNat y.toNat]⟩) (W.alloc (.cells #[.int .u8 x, .int .u8 y] 5)) :=
  run_convert_bytes_arg _ 25 5 Tryd.underlying25 Tryd.underlying5 _ 0 2 c [x, y] rfl (fun i hi => by
    rcases (show i = 0 ∨ i = 1 by omega) with rfl | rfl <;> simp) _ Tryd.underlying9
theorem conv1' (W : World) (x : Int) (n c : Nat) (hn : n = W.heap.size) : (convert 25 9 (.slice (some ⟨n, 0, none⟩) 1 c)).run Tryd.prog (W.alloc (.cells #[.int .u8 x] 5)) = .ok (.string ⟨#[UInt8.ofNat x.toNat]⟩) (W.alloc (.cells #[.int .u8 x] 5)) := by subst hn; exact conv1 W x c
theorem conv2' (W : World) (x y : Int) (n c : Nat) (hn : n = W.heap.size) : (convert 25 9 (.slice (some ⟨n, 0, none⟩) 2 c)).run Tryd.prog (W.alloc (.cells #[.int .u8 x, .int .u8 y] 5)) = .ok (.string ⟨#[UInt8.ofNat x.toNat, UInt8.ofNat y.toNat]⟩) (W.alloc (.cells #[.int .u8 x, .int .u8 y] 5)) := by subst hn; exact conv2 W x y c
attribute [go_sem] conv1' conv2'
theorem mk_append (x y : List UInt8) : (⟨x.toArray⟩ : ByteArray) ++ ⟨y.toArray⟩ = ⟨(x ++ y).toArray⟩ := ByteArray.mk_append_mk x y
theorem size_mk (l : List UInt8) : (⟨l.toArray⟩ : ByteArray).size = l.length := by simp [ByteArray.size]
theorem ret_str {a : ByteArray} {l : List UInt8} (h : a.data.toList = l) : Ending.returned (.string a) = Ending.returned (.string ⟨l.toArray⟩) := by subst h; simp
end Go.Proofs.YthaocbmkkgeomaaDoor

/- The walks of umpire/codec's Writer: what is written. No condition but what each says. -/
namespace Go.Proofs.YthaocbmkkgeomaaDoor
open Go.RowKit

/-- A number's bytes, the highest first, so many. -/
def be (n : Nat) : Nat → List UInt8
  | 0 => []
  | k + 1 => be (n / 256) k ++ [UInt8.ofNat n]
/-- Bytes as cells. -/
def byteCells (l : List UInt8) : List Value := l.map fun b => .int .u8 (b.toNat : Int)
/-- A writer without an error, in block 'p', which has written 'l'. -/
structure WrAt (w : World) (p : Nat) (v : Value) (l : List UInt8) : Prop where
  e : w.cell? ⟨p, 0, none⟩ = some (.int .i64 0)
  b : w.cell? ⟨p, 1, none⟩ = some v
  f0 : w.frozen? ⟨p, 0, none⟩ = false
  f1 : w.frozen? ⟨p, 1, none⟩ = false
  own : w.ownsRow (p + 1) 5 1 v l.length (byteCells l)
/-- Nothing turned but block 'p' and the row of 'v'. -/
structure Ch (p : Nat) (v : Value) (w w' : World) : Prop where
  os : w'.os = w.os
  tape : w'.tape = w.tape
  output : w'.output = w.output
  size : w.heap.size ≤ w'.heap.size
  block : ∀ k, k < w.heap.size → k ≠ p → some k ≠ v.ownBlock → w'.heap[k]? = w.heap[k]?
/-- The new value's row is the old one's, or new. -/
def Lies (w : World) (v v' : Value) : Prop := v'.ownBlock = v.ownBlock ∨ ∃ g, v'.ownBlock = some g ∧ w.heap.size ≤ g
theorem Ch.refl (p : Nat) (v : Value) (w : World) : Ch p v w w := ⟨rfl, rfl, rfl, Nat.le_refl _, fun _ _ _ _ => rfl⟩
theorem Ch.trans {p : Nat} {v v1 : Value} {w w1 w2 : World} (h : Ch p v w w1) (hl : Lies w v v1) (k : Ch p v1 w1 w2) : Ch p v w w2 :=
  ⟨k.os.trans h.os, k.tape.trans h.tape, k.output.trans h.output, Nat.le_trans h.size k.size, fun b hb h1 h2 => (k.block b (Nat.lt_of_lt_of_le hb h.size) h1 (by
    rcases hl with hl | ⟨g, hl, hg⟩
    · rw [hl]; exact h2
    · rw [hl]; intro e; cases e; omega)).trans (h.block b hb h1 h2)⟩
theorem Lies.trans {w w1 : World} {v v1 v2 : Value} (h : Lies w v v1) (hs : w.heap.size ≤ w1.heap.size) (k : Lies w1 v1 v2) : Lies w v v2 := by
  rcases k with k | ⟨g, k, hg⟩
  · rcases h with h | ⟨g, h, hg⟩
    · exact .inl (k.trans h)
    · exact .inr ⟨g, k.trans h, hg⟩
  · exact .inr ⟨g, k, Nat.le_trans hs hg⟩
theorem Ch.alloc {p : Nat} {v : Value} {a w : World} (h : Ch p v a w) (o : Obj) : Ch p v a (w.alloc o) :=
  ⟨h.os, h.tape, h.output, by have := h.size; simp; omega, fun k hk h1 h2 => (Below.heap_alloc w o k (by have := h.size; omega)).trans (h.block k hk h1 h2)⟩
theorem Ch.drew {p : Nat} {v : Value} {a w : World} (h : Ch p v a w) : Ch p v a w.drew := ⟨h.os, h.tape, h.output, h.size, h.block⟩
theorem Ch.setCell {p : Nat} {v : Value} {a w : World} (h : Ch p v a w) (o : Nat) (u : Value) : Ch p v a (w.setCell ⟨p, o, none⟩ u) :=
  ⟨h.os, h.tape, h.output, by have := h.size; simp [World.setCell]; omega, fun k hk h1 h2 => (Below.heap_setCell w _ u k h1).trans (h.block k hk h1 h2)⟩
theorem Ch.grown {p : Nat} {v : Value} {a w w' : World} {row : Option Nat} (h : Ch p v a w) (hg : w.grownBy w' row) (hr : row = v.ownBlock ∨ ∃ g, row = some g ∧ a.heap.size ≤ g) : Ch p v a w' :=
  ⟨hg.os.trans h.os, hg.tape.trans h.tape, hg.output.trans h.output, Nat.le_trans h.size hg.size, fun k hk h1 h2 => (hg.block k (Nat.lt_of_lt_of_le hk h.size) (by
    rcases hr with hr | ⟨g, hr, hge⟩
    · rw [hr]; exact h2
    · rw [hr]; intro e; cases e; omega)).trans (h.block k hk h1 h2)⟩
theorem Ch.cell {p : Nat} {v : Value} {w w' : World} (h : Ch p v w w') {b o : Nat} (hb : b < w.heap.size) (h1 : b ≠ p) (h2 : some b ≠ v.ownBlock) : w'.cell? ⟨b, o, none⟩ = w.cell? ⟨b, o, none⟩ :=
  World.cell?_of_block (w := w) (h.block b hb h1 h2)
theorem Ch.frozen {p : Nat} {v : Value} {w w' : World} (h : Ch p v w w') {b o : Nat} (hb : b < w.heap.size) (h1 : b ≠ p) (h2 : some b ≠ v.ownBlock) : w'.frozen? ⟨b, o, none⟩ = w.frozen? ⟨b, o, none⟩ :=
  World.frozen?_of_block (w := w) (h.block b hb h1 h2)

theorem Tryd.infoU8 : (Tryd.prog.info? 5).map (fun i => (i.zero, i.size, i.bytes)) = some (some (.int .u8 0), 1, 1) := by kernel_rfl

theorem ownsRow_drew {w : World} {base : Nat} {e : TypeId} {size : Nat} {v : Value} {n : Nat} {xs : List Value} (h : w.ownsRow base e size v n xs) : w.drew.ownsRow base e size v n xs := h
theorem WrAt.ne {w : World} {p : Nat} {v : Value} {l : List UInt8} (h : WrAt w p v l) : some p ≠ v.ownBlock := by
  intro e
  have := (h.own.lt p e.symm).1
  omega
/-- The writer's cells behind an append onto its row. -/
theorem WrAt.after {w W w1 : World} {p : Nat} {v : Value} {l : List UInt8} (h : WrAt w p v l) (X : Obj) (hW : W.heap = (w.alloc X).heap) (hg : W.grownBy w1 v.ownBlock) :
    w1.cell? ⟨p, 0, none⟩ = some (.int .i64 0) ∧ w1.cell? ⟨p, 1, none⟩ = some v ∧ w1.frozen? ⟨p, 0, none⟩ = false ∧ w1.frozen? ⟨p, 1, none⟩ = false := by
  have hp : p < w.heap.size := lt_of_cell h.e
  have hb : w1.heap[p]? = w.heap[p]? := by
    rw [hg.block p (by rw [hW]; simp; omega) h.ne, hW]
    exact Below.heap_alloc w X p hp
  exact ⟨(World.cell?_of_block (a := ⟨p, 0, none⟩) hb).trans h.e, (World.cell?_of_block (a := ⟨p, 1, none⟩) hb).trans h.b, (World.frozen?_of_block (a := ⟨p, 0, none⟩) hb).trans h.f0, (World.frozen?_of_block (a := ⟨p, 1, none⟩) hb).trans h.f1⟩

/-- A writer is well, if it has no error. -/
theorem well_c (p : Nat) (w : World) (h : w.cell? ⟨p, 0, none⟩ = some (.int .i64 0)) :
    Calls Tryd.prog 79 #[.pointer (some ⟨p, 0, none⟩)] w fun e w' => e = .returned (.bool true) ∧ w = w' := by
  go_enter Tryd.func79, Tryd.ntmps79
  go_wp2
  go_ret
  exact ⟨rfl, rfl⟩

theorem u8wrap (m : Nat) : IntKind.u8.wrap (m : Int) = ((UInt8.ofNat m).toNat : Int) := by
  simp [IntKind.wrap, IntKind.bits, IntKind.signed]
theorem byteCells_append (l m : List UInt8) : byteCells (l ++ m) = byteCells l ++ byteCells m := by simp [byteCells]
/-- What an append of one byte and its store leave. -/
theorem WrAt.done {w W w1 : World} {p g cap : Nat} {v : Value} {l : List UInt8} (h : WrAt w p v l) (X : Obj) (hW : W.heap = (w.alloc X).heap) (hos : W.os = w.os) (htape : W.tape = w.tape) (hout : W.output = w.output) (hg : W.grownBy w1 v.ownBlock) (b : UInt8) (x : Int) (hx : x = (b.toNat : Int))
    (hown : w1.ownsRow (p + 1) 5 1 (.slice (some ⟨g, 0, none⟩) (l.length + 1) cap) (l.length + 1) (byteCells l ++ [.int .u8 x])) (hat : v.ownBlock = some g ∨ g = w.heap.size + 1) :
    WrAt (w1.setCell ⟨p, 1, none⟩ (.slice (some ⟨g, 0, none⟩) (l.length + 1) cap)) p (.slice (some ⟨g, 0, none⟩) (l.length + 1) cap) (l ++ [b]) ∧
    Ch p v w (w1.setCell ⟨p, 1, none⟩ (.slice (some ⟨g, 0, none⟩) (l.length + 1) cap)) ∧ Lies w v (.slice (some ⟨g, 0, none⟩) (l.length + 1) cap) := by
  obtain ⟨q0, q1, q2, q3⟩ := h.after X hW hg
  subst hx
  have hch : Ch p v w w1 := by
    refine ⟨hg.os.trans hos, hg.tape.trans htape, hg.output.trans hout, ?_, fun k hk h1 h2 => ?_⟩
    · have := hg.size; rw [hW] at this; simp at this; omega
    · rw [hg.block k (by rw [hW]; simp; omega) h2, hW]; exact Below.heap_alloc w X k hk
  refine ⟨⟨?_, ?_, ?_, ?_, ?_⟩, hch.setCell 1 _, ?_⟩
  · rw [World.cell?_setCell_other _ _ _ _ (by simp)]; exact q0
  · exact World.cell?_setCell_same _ _ _ q1
  · exact (World.frozen?_setCell ..).trans q2
  · exact (World.frozen?_setCell ..).trans q3
  · have e : (l ++ [b]).length = l.length + 1 := by simp
    rw [byteCells_append, e]
    exact ownsRow_setCell_below hown (by simp) _
  · rcases hat with hat | hat
    · exact .inl hat.symm
    · exact .inr ⟨g, rfl, by omega⟩
theorem be_len (n k : Nat) : (be n k).length = k := by induction k generalizing n with
  | zero => rfl
  | succ k ih => simp [be, ih]

set_option maxHeartbeats 1000000 in
theorem put8_c (n p : Nat) (v : Value) (l : List UInt8) (w : World) (hn : n < 256) (hw : WrAt w p v l) (hl : l.length < 100000) :
    Calls Tryd.prog 77 #[.pointer (some ⟨p, 0, none⟩), .int .u8 n, .int .i64 1] w fun e w' => e = .returned (.tuple #[]) ∧ ∃ v', WrAt w' p v' (l ++ be n 1) ∧ Ch p v w w' ∧ Lies w v v' := by
  have he := hw.e
  obtain ⟨i0, hi, hz0, hz1, hz2⟩ := info_parts Tryd.infoU8
  go_enter Tryd.func77, Tryd.ntmps77
  go_wp2_with (go_at_call 79; refine (well_c p _ he).mono ?_; rintro e w1 ⟨rfl, rfl⟩)
  clear he
  go_loopw [6] (fun i wr => ∃ (k : Nat) (j : Int) (v1 : Value), k ≤ 1 ∧ j = (k : Int) - 1 ∧ i = .int .i64 j ∧ WrAt wr p v1 (l ++ (be n 1).take (1 - k)) ∧ Ch p v w wr ∧ Lies w v v1) (fun i _ => (intOf i + 1).toNat)
  case atStart => exact ⟨1, 0, v, Nat.le_refl _, rfl, rfl, by simpa using hw, Ch.refl _ _ _, .inl rfl⟩
  case round =>
    obtain ⟨k, j, v1, hk, hj, rfl, hw1, hch, hli⟩ := hrel
    have hlen : (l ++ (be n 1).take (1 - k)).length < 100004 := by simp [be_len]; omega
    rcases (show k = 0 ∨ k = 1 by omega) with rfl | rfl
    · obtain rfl : j = -1 := by omega
      clear hj
      go_wp2
      go_end0
      exact ⟨rfl, v1, by rw [show (be n 1).take (1 - 0) = be n 1 from List.take_of_length_le (by rw [be_len]; omega)] at hw1; exact hw1, hch, hli⟩
    · obtain rfl : j = 0 := by omega
      have he1 := hw1.e
      have hb1 := hw1.b
      have hf1 := hw1.f1
      have hown := hw1.own
      have hp : p < wr.heap.size := lt_of_cell he1
      generalize hL : l ++ (be n 1).take (1 - 1) = L at hw1 hlen hown
      have HL := Lib.hid hL
      have HJ := Lib.hid hj
      clear hL hj he1
      go_wp2
      have k0 : IntKind.i64.wrap 0 = 0 := by decide
      have k1 : IntKind.u32.wrap (n : Int) = n := by simp [IntKind.wrap, IntKind.bits, IntKind.signed]; omega
      go_region_law (first | (refine step_append_lies _ rfl (.tmp 26) (.tmp 33) 25 rfl (p + 1) 5 i0 (.int .u8 0) 1 1 Tryd.underlying25 hi hz0 hz1 hz2 rfl (by decide) v1 L.length (byteCells L) rfl (by first | exact ownsRow_drew (hown.alloc _) | exact hown.alloc _) ⟨wr.heap.size, 0, none⟩ 1 1 [.int .u8 (IntKind.u8.wrap (n : Int))] rfl rfl (by intro j u hj; match j, hj with | 0, hj => simp at hj; subst hj; simp [Addr.add]) (by intro u hu; simp at hu; subst hu; rfl) (by decide) (by unfold maxLen; omega) (by omega) (by simp; omega) _ rfl ?_; intro g cap w1 hown1 hgrow hat hlt; obtain ⟨q0, q1, q2, q3⟩ := hw1.after (Obj.cells #[.int .u8 (IntKind.u8.wrap (n : Int))] 5) (by rfl) hgrow))
      all_goals
        clear k0 k1
        obtain ⟨d1, d2, d3⟩ := hw1.done (Obj.cells #[.int .u8 (IntKind.u8.wrap (n : Int))] 5) (by rfl) (by rfl) (by rfl) (by rfl) hgrow (UInt8.ofNat n) (IntKind.u8.wrap (n : Int)) (u8wrap n) hown1 (by simpa using hat)
        go_wp2
        go_roundw
        case rel => exact ⟨0, -1, _, by omega, by omega, rfl, by rw [show l ++ (be n 1).take (1 - 0) = L ++ [UInt8.ofNat n] by rw [← HL.out]; simp [be, Nat.div_div_eq_div_mul]]; exact d1, hch.trans hli d2, hli.trans hch.size d3⟩
        case measure => simp [intOf]

set_option maxHeartbeats 1000000 in
theorem put16_c (n p : Nat) (v : Value) (l : List UInt8) (w : World) (hn : n < 65536) (hw : WrAt w p v l) (hl : l.length < 100000) :
    Calls Tryd.prog 78 #[.pointer (some ⟨p, 0, none⟩), .int .u16 n, .int .i64 2] w fun e w' => e = .returned (.tuple #[]) ∧ ∃ v', WrAt w' p v' (l ++ be n 2) ∧ Ch p v w w' ∧ Lies w v v' := by
  have he := hw.e
  obtain ⟨i0, hi, hz0, hz1, hz2⟩ := info_parts Tryd.infoU8
  go_enter Tryd.func78, Tryd.ntmps78
  go_wp2_with (go_at_call 79; refine (well_c p _ he).mono ?_; rintro e w1 ⟨rfl, rfl⟩)
  clear he
  go_loopw [6] (fun i wr => ∃ (k : Nat) (j : Int) (v1 : Value), k ≤ 2 ∧ j = (k : Int) - 1 ∧ i = .int .i64 j ∧ WrAt wr p v1 (l ++ (be n 2).take (2 - k)) ∧ Ch p v w wr ∧ Lies w v v1) (fun i _ => (intOf i + 1).toNat)
  case atStart => exact ⟨2, 1, v, Nat.le_refl _, rfl, rfl, by simpa using hw, Ch.refl _ _ _, .inl rfl⟩
  case round =>
    obtain ⟨k, j, v1, hk, hj, rfl, hw1, hch, hli⟩ := hrel
    have hlen : (l ++ (be n 2).take (2 - k)).length < 100004 := by simp [be_len]; omega
    rcases (show k = 0 ∨ k = 1 ∨ k = 2 by omega) with rfl | rfl | rfl
    · obtain rfl : j = -1 := by omega
      clear hj
      go_wp2
      go_end0
      exact ⟨rfl, v1, by rw [show (be n 2).take (2 - 0) = be n 2 from List.take_of_length_le (by rw [be_len]; omega)] at hw1; exact hw1, hch, hli⟩
    · obtain rfl : j = 0 := by omega
      have he1 := hw1.e
      have hb1 := hw1.b
      have hf1 := hw1.f1
      have hown := hw1.own
      have hp : p < wr.heap.size := lt_of_cell he1
      generalize hL : l ++ (be n 2).take (2 - 1) = L at hw1 hlen hown
      have HL := Lib.hid hL
      have HJ := Lib.hid hj
      clear hL hj he1
      go_wp2
      have k0 : IntKind.i64.wrap 0 = 0 := by decide
      have k1 : IntKind.u32.wrap (n : Int) = n := by simp [IntKind.wrap, IntKind.bits, IntKind.signed]; omega
      go_region_law (first | (refine step_append_lies _ rfl (.tmp 26) (.tmp 33) 25 rfl (p + 1) 5 i0 (.int .u8 0) 1 1 Tryd.underlying25 hi hz0 hz1 hz2 rfl (by decide) v1 L.length (byteCells L) rfl (by first | exact ownsRow_drew (hown.alloc _) | exact hown.alloc _) ⟨wr.heap.size, 0, none⟩ 1 1 [.int .u8 (IntKind.u8.wrap (n : Int))] rfl rfl (by intro j u hj; match j, hj with | 0, hj => simp at hj; subst hj; simp [Addr.add]) (by intro u hu; simp at hu; subst hu; rfl) (by decide) (by unfold maxLen; omega) (by omega) (by simp; omega) _ rfl ?_; intro g cap w1 hown1 hgrow hat hlt; obtain ⟨q0, q1, q2, q3⟩ := hw1.after (Obj.cells #[.int .u8 (IntKind.u8.wrap (n : Int))] 5) (by rfl) hgrow))
      all_goals
        clear k0 k1
        obtain ⟨d1, d2, d3⟩ := hw1.done (Obj.cells #[.int .u8 (IntKind.u8.wrap (n : Int))] 5) (by rfl) (by rfl) (by rfl) (by rfl) hgrow (UInt8.ofNat n) (IntKind.u8.wrap (n : Int)) (u8wrap n) hown1 (by simpa using hat)
        go_wp2
        go_roundw
        case rel => exact ⟨0, -1, _, by omega, by omega, rfl, by rw [show l ++ (be n 2).take (2 - 0) = L ++ [UInt8.ofNat n] by rw [← HL.out]; simp [be, Nat.div_div_eq_div_mul]]; exact d1, hch.trans hli d2, hli.trans hch.size d3⟩
        case measure => simp [intOf]
    · obtain rfl : j = 1 := by omega
      have he1 := hw1.e
      have hb1 := hw1.b
      have hf1 := hw1.f1
      have hown := hw1.own
      have hp : p < wr.heap.size := lt_of_cell he1
      generalize hL : l ++ (be n 2).take (2 - 2) = L at hw1 hlen hown
      have HL := Lib.hid hL
      have HJ := Lib.hid hj
      clear hL hj he1
      go_wp2
      have k0 : IntKind.i64.wrap 8 = 8 := by decide
      have k1 : IntKind.u32.wrap (n : Int) = n := by simp [IntKind.wrap, IntKind.bits, IntKind.signed]; omega
      go_region_law (first | (refine step_append_lies _ rfl (.tmp 26) (.tmp 33) 25 rfl (p + 1) 5 i0 (.int .u8 0) 1 1 Tryd.underlying25 hi hz0 hz1 hz2 rfl (by decide) v1 L.length (byteCells L) rfl (by first | exact ownsRow_drew (hown.alloc _) | exact hown.alloc _) ⟨wr.heap.size, 0, none⟩ 1 1 [.int .u8 (IntKind.u8.wrap ((n : Int) / 256))] rfl rfl (by intro j u hj; match j, hj with | 0, hj => simp at hj; subst hj; simp [Addr.add]) (by intro u hu; simp at hu; subst hu; rfl) (by decide) (by unfold maxLen; omega) (by omega) (by simp; omega) _ rfl ?_; intro g cap w1 hown1 hgrow hat hlt; obtain ⟨q0, q1, q2, q3⟩ := hw1.after (Obj.cells #[.int .u8 (IntKind.u8.wrap ((n : Int) / 256))] 5) (by rfl) hgrow))
      all_goals
        clear k0 k1
        obtain ⟨d1, d2, d3⟩ := hw1.done (Obj.cells #[.int .u8 (IntKind.u8.wrap ((n : Int) / 256))] 5) (by rfl) (by rfl) (by rfl) (by rfl) hgrow (UInt8.ofNat (n / 256)) (IntKind.u8.wrap ((n : Int) / 256)) (u8wrap (n / 256)) hown1 (by simpa using hat)
        go_wp2
        go_roundw
        case rel => exact ⟨1, 0, _, by omega, by omega, rfl, by rw [show l ++ (be n 2).take (2 - 1) = L ++ [UInt8.ofNat (n / 256)] by rw [← HL.out]; simp [be, Nat.div_div_eq_div_mul]]; exact d1, hch.trans hli d2, hli.trans hch.size d3⟩
        case measure => simp [intOf]

end Go.Proofs.YthaocbmkkgeomaaDoor

/- The walks of umpire/codec's Writer: its methods. No condition but that there is no error, and how long what is written is at most. -/
namespace Go.Proofs.YthaocbmkkgeomaaDoor
open Go.RowKit

/-- The writer in block 'p' has written 'l'; nothing turned but its own block and row. -/
def Wrote (p : Nat) (v : Value) (l : List UInt8) (w w' : World) : Prop := ∃ v', WrAt w' p v' l ∧ Ch p v w w' ∧ Lies w v v'

theorem U8_c (n p : Nat) (v : Value) (l : List UInt8) (w : World) (hn : n < 256) (hw : WrAt w p v l) (hl : l.length < 100000) :
    Calls Tryd.prog 52 #[.pointer (some ⟨p, 0, none⟩), .int .u8 n] w fun e w' => e = .returned (.tuple #[]) ∧ Wrote p v (l ++ be n 1) w w' := by
  go_enter Tryd.func52, Tryd.ntmps52
  go_wp2_with (go_at_call 77; refine (put8_c n p v l _ hn hw hl).mono ?_; rintro e w1 ⟨rfl, h⟩; have H : Wrote p v (l ++ be n 1) w w1 := h; clear h)
  go_end0
  exact ⟨rfl, H⟩
theorem U16_c (n p : Nat) (v : Value) (l : List UInt8) (w : World) (hn : n < 65536) (hw : WrAt w p v l) (hl : l.length < 100000) :
    Calls Tryd.prog 53 #[.pointer (some ⟨p, 0, none⟩), .int .u16 n] w fun e w' => e = .returned (.tuple #[]) ∧ Wrote p v (l ++ be n 2) w w' := by
  go_enter Tryd.func53, Tryd.ntmps53
  go_wp2_with (go_at_call 78; refine (put16_c n p v l _ hn hw hl).mono ?_; rintro e w1 ⟨rfl, h⟩; have H : Wrote p v (l ++ be n 2) w w1 := h; clear h)
  go_end0
  exact ⟨rfl, H⟩

/-- 'string(b)' at a slice that the call owns. -/
theorem conv_own {w : World} {base : Nat} {v : Value} {l : List UInt8} (h : w.ownsRow base 5 1 v l.length (byteCells l)) : (convert 25 9 v).run Tryd.prog w = .ok (.string ⟨l.toArray⟩) w := by
  rcases h.2 with ⟨rfl, h0⟩ | ⟨g, cap, cur, rfl, hg, hh, hc, hm, hs, ht⟩
  · obtain rfl : l = [] := List.eq_nil_of_length_eq_zero h0
    exact run_convert_bytes_nil w 25 5 Tryd.underlying25 Tryd.underlying5 0 0 _ Tryd.underlying9
  · refine run_convert_bytes_back w 25 9 5 _ cap l Tryd.underlying25 Tryd.underlying5 Tryd.underlying9 fun j hj => ?_
    exact h.cells rfl j _ (by simp [byteCells, hj])
/-- What a writer has written, as a string. -/
theorem Bytes_c (p : Nat) (v : Value) (l : List UInt8) (w : World) (hw : WrAt w p v l) :
    Calls Tryd.prog 54 #[.pointer (some ⟨p, 0, none⟩)] w fun e w' => e = .returned (.tuple #[.string ⟨l.toArray⟩, .int .i64 0]) ∧ w = w' := by
  have he := hw.e
  have hb := hw.b
  have hcv := conv_own hw.own
  go_enter Tryd.func54, Tryd.ntmps54
  go_wp2_with (go_at_call 79; refine (well_c p _ he).mono ?_; rintro e w1 ⟨rfl, rfl⟩)
  go_ret2
  exact ⟨rfl, rfl⟩

/-- Where a string's bytes are appended: onto the old row, or onto a new one. -/
theorem append_string_lies {P : Program} (w : World) (base : Nat) (t u ty e : TypeId) (i : TypeInfo) (ht : P.underlying t = some (.slice e)) (hu : P.underlying u = some .string) (hi : P.info? e = some i) (hz : i.zero = some (.int .u8 0)) (hsize : i.size = 1) (hby : i.bytes = 1)
    (v : Value) (n : Nat) (xs : List Value) (hown : w.ownsRow base e 1 v n xs) (s : ByteArray) (hm : n + s.size ≤ 140737488355328) (hb : base ≤ w.heap.size) :
    ∃ v' w', (Builtin.append_ #[t, u] ty #[v, .string s]).run P w = .ok v' w' ∧ w'.ownsRow base e 1 v' (n + s.size) (xs ++ Lib.strCells s) ∧ w.grownBy w' v.ownBlock ∧ Lies w v v' := by
  obtain ⟨v', w', hr, ho, hg, hiff⟩ := Lib.run_append_own_string (P := P) w base t u ty e i ht hu hi hz hsize hby v n xs hown s (by unfold maxLen; omega) hm hb
  refine ⟨v', w', hr, ho, hg, ?_⟩
  rcases hown.2 with ⟨rfl, rfl⟩ | ⟨g, cap, cur, rfl, hbg, hh, hc, hcm, hcs, htake⟩
  · by_cases h0 : s.size = 0
    · rw [hiff.2 ⟨rfl, h0⟩]; exact .inl rfl
    · have h := run_append_nil_string (P := P) w t u ty e i (.int .u8 0) ht hu hi hz s (by omega) (by omega) (by rw [hby]; omega)
      rw [hr] at h
      obtain ⟨rfl, _⟩ := Result.ok.inj h
      exact .inr ⟨_, rfl, Nat.le_refl _⟩
  · by_cases hroom : n + s.size ≤ cap
    · have h := Lib.run_append_room_string (P := P) w t u ty e i ht hu hi hsize g n cap cur hh s hroom (by rw [hcs]; omega)
      rw [hr] at h
      obtain ⟨rfl, _⟩ := Result.ok.inj h
      exact .inl rfl
    · have holds : ∀ j u, xs[j]? = some u → w.cell? ((⟨g, 0, none⟩ : Addr).add j) = some u := hown.cells (g := g) rfl
      have h := Lib.run_append_grow_string (P := P) w t u ty e i (.int .u8 0) ht hu hi hz ⟨g, 0, none⟩ n cap xs (by rw [hsize]; exact hown.1) holds s (by omega) (by omega) (by rw [hby]; exact growslice_fits (by omega) (by omega))
      rw [hr] at h
      obtain ⟨rfl, _⟩ := Result.ok.inj h
      exact .inr ⟨_, rfl, Nat.le_refl _⟩

/-- An append whose run is known, for the walk. -/
theorem wpList_append_known {P : Program} {w : World} {ops : Array Oper} {rest : List Oper} {o : Oper} {a : Act} {Q : Exit → Act → World → Prop} (hgd : o.guard = none) (sl x : Operand) (t u : TypeId)
    (ho : o.op = .call { callee := .builtin .append, args := #[sl, x], argTypes := #[t, u] }) (v y : Value) (hs : a.eval sl = v) (hx : a.eval x = y) (v' : Value) (w' : World)
    (hr : Hid ((Builtin.append_ #[t, u] o.type #[v, y]).run P w = .ok v' w')) (h : wpList P ops Q rest (a.put o.dst v') w') : wpList P ops Q (o :: rest) a w := by
  refine wpList_plain hgd fun K hK => ?_
  unfold Oper.wp execOp
  simp only [ho, resolve, invoke, builtin, Sem.run_bind, Sem.run_pure, Result.andThen_ok, List.map_toArray, List.map_cons, List.map_nil, hs, hx, hr.out]
  exact hK _ _ h


theorem Wrote.below {p : Nat} {v : Value} {l l0 : List UInt8} {w w' : World} (h : Wrote p v l w w') (hw : WrAt w p v l0) : Below p w w' := by
  obtain ⟨v', _, hc, _⟩ := h
  have hp : p < w.heap.size := lt_of_cell hw.e
  exact ⟨hc.os, hc.tape, hc.output, hc.size, fun k hk => hc.block k (by omega) (by omega) (fun e => by have := (hw.own.lt k e.symm).1; omega)⟩

/-- Numbers of 16 bits, as cells. -/
def u16Cells (l : List Nat) : List Value := l.map fun n : Nat => Value.int .u16 (n : Int)
def listBytes (l : List Nat) : List UInt8 := be l.length 1 ++ l.flatMap fun n => be n 2

theorem flat2_len (l : List Nat) : (l.flatMap fun n => be n 2).length = 2 * l.length := by
  induction l with
  | nil => rfl
  | cons a l ih => simp [List.flatMap_cons, be_len, ih]; omega

end Go.Proofs.YthaocbmkkgeomaaDoor

/- Two lists of numbers, or of micros: the same or not. No condition but that both can be read. -/
namespace Go.Proofs.YthaocbmkkgeomaaDoor
open Go.RowKit

/-- A call that only drew. -/
def Dr (w w' : World) : Prop := ∃ n, w' = w.drewN n
theorem Dr.refl (w : World) : Dr w w := ⟨0, rfl⟩
theorem Dr.drewN {w w' : World} (h : Dr w w') (n : Nat) : Dr w (w'.drewN n) := by
  obtain ⟨m, rfl⟩ := h; exact ⟨m + n, World.drewN_drewN ..⟩
theorem Dr.fr {w w' : World} (h : Dr w w') : Fr w w' := by
  obtain ⟨m, rfl⟩ := h; exact (Fr.refl _).drewN _
theorem Dr.trans {a b c : World} (h : Dr a b) (k : Dr b c) : Dr a c := by
  obtain ⟨m, rfl⟩ := k; exact h.drewN m
abbrev Any : Nat → Prop := fun _ => True
/-- A list of numbers of 16 bits that can be read. -/
def Rd16 (w : World) (v : Value) (l : List Nat) : Prop := SlAt w Any v l.length (u16Cells l)
theorem Rd16.keep {w w' : World} {v : Value} {l : List Nat} (h : Rd16 w v l) (f : Fr w w') : Rd16 w' v l := SlAt.fr h f
theorem SlAt.at {w : World} {Z : Nat → Prop} {a : Option Addr} {n cap : Nat} {xs : List Value} (h : xs = [] ∨ ∃ b off, a = some ⟨b, off, none⟩ ∧ Z b ∧ b < w.heap.size ∧ ∀ j u, xs[j]? = some u → w.cell? ⟨b, off + j, none⟩ = some u) (hne : xs ≠ []) : ∃ b off, a = some ⟨b, off, none⟩ ∧ b < w.heap.size ∧ ∀ j u, xs[j]? = some u → w.cell? ⟨b, off + j, none⟩ = some u := by
  rcases h with h | ⟨b, off, h1, _, h2, h3⟩
  · exact absurd h hne
  · exact ⟨b, off, h1, h2, h3⟩
theorem take_next {α : Type} {l m : List α} {k : Nat} (h : l.take k = m.take k) (hl : k < l.length) (hm : k < m.length) (he : l[k] = m[k]) : l.take (k + 1) = m.take (k + 1) := by
  rw [List.take_succ_eq_append_getElem hl, List.take_succ_eq_append_getElem hm, h, he]
theorem ne_at {α : Type} {l m : List α} {k : Nat} (hl : k < l.length) (hm : k < m.length) (he : ¬ l[k] = m[k]) : ¬ l = m := by
  intro h; subst h; exact he rfl
theorem eq_all {α : Type} {l m : List α} {k : Nat} (h : l.take k = m.take k) (hl : ¬ k < l.length) (hlen : l.length = m.length) : l = m := by
  rw [List.take_of_length_le (by omega), List.take_of_length_le (by omega)] at h; exact h

/-- A micro-operation. -/
structure Mic where
  read : Bool
  key : Nat
  v : Nat
  deriving DecidableEq
def Mic.cells (m : Mic) : List Value := [.bool m.read, .int .u8 m.key, .int .u16 m.v]
def Mic.val (m : Mic) : Value := .agg #[.bool m.read, .int .u8 m.key, .int .u16 m.v]
def micCells (l : List Mic) : List Value := l.flatMap Mic.cells
theorem micCells_at : ∀ (l : List Mic) (k : Nat) (h : k < l.length), (micCells l)[k * 3]? = some (.bool l[k].read) ∧ (micCells l)[k * 3 + 1]? = some (.int .u8 l[k].key) ∧ (micCells l)[k * 3 + 2]? = some (.int .u16 l[k].v)
  | m :: l, 0, _ => by simp [micCells, Mic.cells]
  | m :: l, k + 1, h => by
    have ih := micCells_at l k (by simpa using h)
    have e : (k + 1) * 3 = k * 3 + 1 + 1 + 1 := by omega
    simp only [micCells, List.flatMap_cons, Mic.cells, List.cons_append, List.nil_append, e, List.getElem?_cons_succ, List.getElem_cons_succ] at ih ⊢
    exact ih
/-- A list of micros that can be read. -/
def RdM (w : World) (v : Value) (l : List Mic) : Prop := SlAt w Any v l.length (micCells l)
theorem RdM.keep {w w' : World} {v : Value} {l : List Mic} (h : RdM w v l) (f : Fr w w') : RdM w' v l := SlAt.fr h f
theorem mic_ne_nil {l : List Mic} {k : Nat} (h : k < l.length) : micCells l ≠ [] := by
  intro e
  have := (micCells_at l k h).1
  rw [e] at this; simp at this
theorem micAt {w wr : World} {b o k : Nat} {l : List Mic} (hfr : Fr w wr) (hc : ∀ j u, (micCells l)[j]? = some u → w.cell? ⟨b, o + j, none⟩ = some u) (h : k < l.length) : wr.cell? ⟨b, o + k * 3, none⟩ = some (.bool l[k].read) ∧ wr.cell? ⟨b, o + k * 3 + 1, none⟩ = some (.int .u8 l[k].key) ∧ wr.cell? ⟨b, o + k * 3 + 2, none⟩ = some (.int .u16 l[k].v) := by
  obtain ⟨h1, h2, h3⟩ := micCells_at l k h
  exact ⟨hfr.keep (hc _ _ h1), hfr.keep (hc _ _ h2), hfr.keep (hc _ _ h3)⟩
-- GENERATED BELOW (gen_same.py)
end Go.Proofs.YthaocbmkkgeomaaDoor

/- Decimal numerals: what is read of one is the number, and what is read as a number, in as few digits as it has, is its numeral: plain. -/
namespace Go.Proofs.YthaocbmkkgeomaaDoor
open Go.RowKit

theorem decDigits_ten {v : Nat} (h : ¬ v < 10) : Lib.decDigits v = Lib.decDigits (v / 10) ++ [UInt8.ofNat (48 + v % 10)] := by
  rw [Lib.decDigits.eq_1 v, dif_neg h]
theorem digit_nat {d : Nat} (h : d < 10) : (UInt8.ofNat (48 + d)).toNat = 48 + d := by simp; omega
/-- What a row of digits spells. -/
def digVal (acc : Nat) : List UInt8 → Nat
  | [] => acc
  | c :: r => digVal (10 * acc + (c.toNat - 48)) r
def isDig (c : UInt8) : Bool := decide (48 ≤ c.toNat) && decide (c.toNat ≤ 57)
theorem digVal_snoc (acc : Nat) (l : List UInt8) (c : UInt8) : digVal acc (l ++ [c]) = 10 * digVal acc l + (c.toNat - 48) := by
  induction l generalizing acc with
  | nil => rfl
  | cons a l ih => exact ih _
theorem decDigits_val (v : Nat) : digVal 0 (Lib.decDigits v) = v ∧ (Lib.decDigits v).all isDig = true := by
  induction v using Nat.strongRecOn with
  | _ v ih =>
    by_cases h : v < 10
    · have e := Lib.decDigits_one h
      generalize Lib.decDigits v = l at e
      subst e
      have hd := digit_nat h
      generalize UInt8.ofNat (48 + v) = c at hd
      refine ⟨?_, ?_⟩
      · show 10 * 0 + (c.toNat - 48) = v
        omega
      · show (isDig c && true) = true
        unfold isDig
        simp
        omega
    · obtain ⟨h1, h2⟩ := ih (v / 10) (by omega)
      have hd := digit_nat (show v % 10 < 10 by omega)
      rw [decDigits_ten h, digVal_snoc, h1, List.all_append, h2]
      generalize UInt8.ofNat (48 + v % 10) = c at hd
      refine ⟨by omega, ?_⟩
      show (true && (isDig c && true)) = true
      unfold isDig
      simp
      omega
theorem decDigits_ne (v : Nat) : Lib.decDigits v ≠ [] := by
  by_cases h : v < 10
  · rw [Lib.decDigits_one h]; simp
  · rw [decDigits_ten h]; simp
/-- The first digit is 0 of 0 alone. -/
theorem decDigits_head (v : Nat) : (Lib.decDigits v).head? = some 48 → v = 0 := by
  induction v using Nat.strongRecOn with
  | _ v ih =>
    intro hh
    by_cases h : v < 10
    · rw [Lib.decDigits_one h] at hh
      have := congrArg UInt8.toNat (Option.some.inj hh)
      rw [digit_nat h] at this
      simp at this
      omega
    · rw [decDigits_ten h] at hh
      have hne := decDigits_ne (v / 10)
      have h1 : (Lib.decDigits (v / 10)).head? = some 48 := by
        revert hh hne
        generalize Lib.decDigits (v / 10) = l
        cases l with
        | nil => simp
        | cons a l => simp
      have := ih (v / 10) (by omega) h1
      omega
theorem digVal_pos {l : List UInt8} {acc : Nat} (h : 0 < acc) : 0 < digVal acc l := by
  induction l generalizing acc with
  | nil => exact h
  | cons c l ih => exact ih (by omega)
/-- A row of digits without a needless 0 is the numeral of what it spells. -/
theorem decDigits_of : ∀ (n : Nat) (l : List UInt8), l.length = n → l ≠ [] → l.all isDig = true → (l.head? = some 48 → l.length = 1) → Lib.decDigits (digVal 0 l) = l
  | 0, l, hn, hne, _, _ => absurd (List.eq_nil_of_length_eq_zero hn) hne
  | n + 1, l, hn, hne, hd, hz => by
    obtain ⟨c, hc⟩ : ∃ c, l = l.dropLast ++ [c] := ⟨l.getLast hne, (List.dropLast_concat_getLast hne).symm⟩
    generalize l.dropLast = p at hc
    subst hc
    rw [List.all_append, Bool.and_eq_true] at hd
    have hcd : 48 ≤ c.toNat ∧ c.toNat ≤ 57 := by have := hd.2; simpa [isDig] using this
    rw [digVal_snoc]
    by_cases hp : p = []
    · subst hp
      have hv : 10 * digVal 0 [] + (c.toNat - 48) = c.toNat - 48 := by
        show 10 * 0 + (c.toNat - 48) = c.toNat - 48
        omega
      have h10 : c.toNat - 48 < 10 := by omega
      rw [hv]
      have e := Lib.decDigits_one h10
      rw [e]
      have hd := digit_nat h10
      generalize UInt8.ofNat (48 + (c.toNat - 48)) = q at hd
      have hq : q = c := by apply UInt8.toNat_inj.1; rw [hd]; omega
      rw [hq]
      rfl
    · have hh : p.head? ≠ some 48 := by
        intro e
        have : (p ++ [c]).head? = some 48 := by
          cases p with
          | nil => exact absurd rfl hp
          | cons a p => simpa using e
        have := hz this
        simp at this
        exact hp this
      have hpos : 0 < digVal 0 p := by
        cases p with
        | nil => exact absurd rfl hp
        | cons a p =>
          have ha : 48 ≤ a.toNat ∧ a.toNat ≤ 57 := by
            have := hd.1
            simp only [List.all_cons, Bool.and_eq_true] at this
            simpa [isDig] using this.1
          have hne48 : a.toNat ≠ 48 := by
            intro e
            apply hh
            have : a = 48 := by apply UInt8.toNat_inj.1; simpa using e
            simp [this]
          show 0 < digVal (10 * 0 + (a.toNat - 48)) p
          exact digVal_pos (by omega)
      have ih := decDigits_of n p (by simp at hn; exact hn) hp hd.1 (fun e => absurd e hh)
      have h10 : ¬ 10 * digVal 0 p + (c.toNat - 48) < 10 := by omega
      rw [decDigits_ten h10, show (10 * digVal 0 p + (c.toNat - 48)) / 10 = digVal 0 p by omega, ih, show (10 * digVal 0 p + (c.toNat - 48)) % 10 = c.toNat - 48 by omega]
      have hd := digit_nat (show c.toNat - 48 < 10 by omega)
      generalize UInt8.ofNat (48 + (c.toNat - 48)) = q at hd
      have hq : q = c := by apply UInt8.toNat_inj.1; rw [hd]; omega
      rw [hq]
theorem decDigits_inj {a b : Nat} (h : Lib.decDigits a = Lib.decDigits b) : a = b := by
  have h1 := (decDigits_val a).1
  rw [h, (decDigits_val b).1] at h1
  exact h1.symm
theorem decDigits_len5 {v : Nat} (h : v < 65536) : (Lib.decDigits v).length ≤ 5 := by
  rw [Lib.decDigits_length]
  by_cases h1 : v < 10
  · rw [Lib.nDigits_small h1]; omega
  rw [Lib.nDigits_big h1]
  by_cases h2 : v / 10 < 10
  · rw [Lib.nDigits_small h2]; omega
  rw [Lib.nDigits_big h2]
  by_cases h3 : v / 10 / 10 < 10
  · rw [Lib.nDigits_small h3]; omega
  rw [Lib.nDigits_big h3]
  by_cases h4 : v / 10 / 10 / 10 < 10
  · rw [Lib.nDigits_small h4]; omega
  rw [Lib.nDigits_big h4, Lib.nDigits_small (by omega)]
  omega

/-- The number that strconv.ParseUint hands back at 16 bits. -/
def num16 (s : List UInt8) : Nat := match Lib.parseUintB 16 s with | .ok u => u | .range => 65535 | _ => 0
theorem parseM_snoc (M acc : Nat) (l : List UInt8) (c : UInt8) {u : Nat} (h : Lib.parseUintM M acc l = .ok u) : Lib.parseUintM M acc (l ++ [c]) = Lib.parseUintM M u [c] := by
  induction l generalizing acc with
  | nil =>
    have : acc = u := by simpa [Lib.parseUintM] using h
    rw [← this]; rfl
  | cons a l ih =>
    rw [List.cons_append, Lib.parseUintM]
    rw [Lib.parseUintM] at h
    split at h
    · rename_i h1
      rw [if_pos h1]
      split at h
      · cases h
      · rename_i h2
        rw [if_neg h2]
        split at h
        · cases h
        · rename_i h3
          rw [if_neg h3]
          exact ih _ h
    · cases h
theorem parseM_dec (v : Nat) (h : v < 65536) : Lib.parseUintM 65535 0 (Lib.decDigits v) = .ok v := by
  induction v using Nat.strongRecOn with
  | _ v ih =>
    by_cases h1 : v < 10
    · have hd := digit_nat h1
      rw [Lib.decDigits_one h1, Lib.parseUintM, hd, if_pos (by omega), if_neg (by omega), if_neg (by omega), Lib.parseUintM]
      congr 1
      omega
    · have h2 := ih (v / 10) (by omega) (by omega)
      have hd := digit_nat (show v % 10 < 10 by omega)
      rw [decDigits_ten h1, parseM_snoc _ _ _ _ h2, Lib.parseUintM, hd, if_pos (by omega), if_neg (by omega), if_neg (by omega), Lib.parseUintM]
      congr 1
      omega
theorem parse16_dec (v : Nat) (h : v < 65536) : Lib.parseUintB 16 (Lib.decDigits v) = .ok v := by
  unfold Lib.parseUintB
  rw [if_neg (decDigits_ne v)]
  exact parseM_dec v h
theorem num16_dec (v : Nat) (h : v < 65536) : num16 (Lib.decDigits v) = v := by
  unfold num16
  rw [parse16_dec v h]
theorem parseM_le (M acc : Nat) (l : List UInt8) {u : Nat} (ha : acc ≤ M) (h : Lib.parseUintM M acc l = .ok u) : u ≤ M := by
  induction l generalizing acc with
  | nil =>
    have : acc = u := by simpa [Lib.parseUintM] using h
    omega
  | cons a l ih =>
    rw [Lib.parseUintM] at h
    split at h
    · split at h
      · cases h
      · split at h
        · cases h
        · rename_i h3
          exact ih _ (by omega) h
    · cases h
theorem num16_lt (s : List UInt8) : num16 s < 65536 := by
  unfold num16
  split
  · rename_i u h
    unfold Lib.parseUintB at h
    split at h
    · cases h
    · have := parseM_le _ _ _ (by omega) h
      omega
  · omega
  · omega
/-- A word's number, of 0 to 65535, in as few digits as it has. -/
def numW (s : List UInt8) : Option Nat :=
  if s = [] ∨ 5 < s.length ∨ (s.head? = some 48 ∧ 1 < s.length) then none else if s.all isDig then if 65535 < digVal 0 s then none else some (digVal 0 s) else none
theorem numW_some {s : List UInt8} {v : Nat} : numW s = some v ↔ v < 65536 ∧ s = Lib.decDigits v := by
  constructor
  · intro h
    unfold numW at h
    split at h
    · cases h
    · rename_i h1
      split at h
      · rename_i h2
        split at h
        · cases h
        · rename_i h3
          have hv : digVal 0 s = v := Option.some.inj h
          refine ⟨by omega, ?_⟩
          rw [← hv]
          refine (decDigits_of _ s rfl (fun e => h1 (.inl e)) h2 (fun e => ?_)).symm
          have h4 : ¬ 1 < s.length := fun h5 => h1 (.inr (.inr ⟨e, h5⟩))
          have h5 : s ≠ [] := fun e => h1 (.inl e)
          have := List.length_pos_iff.2 h5
          omega
      · cases h
  · rintro ⟨hv, rfl⟩
    have h5 := decDigits_len5 hv
    have hne := decDigits_ne v
    obtain ⟨h1, h2⟩ := decDigits_val v
    unfold numW
    rw [if_neg ?_, if_pos h2, h1, if_neg (by omega)]
    rintro (h | h | ⟨h, h6⟩)
    · exact hne h
    · omega
    · have := decDigits_head v h
      subst this
      rw [Lib.decDigits_one (by omega)] at h6
      simp at h6
end Go.Proofs.YthaocbmkkgeomaaDoor

/- The walks of umpire/op: which kind an operation is, whether it may be, whose it is. No condition but the tables' content ('Env') and the numbers' bounds. -/
namespace Go.Proofs.YthaocbmkkgeomaaDoor
open Go.RowKit

theorem find_no (f : Int) (w : World) (h0 : 0 ≤ f) (h1 : f ≤ 255) (h : f = 0 ∨ 12 ≤ f) :
    Calls Tryd.prog 64 #[.int .u8 f] w fun e w' => e = .returned (.tuple #[.agg #[.int .u8 0, .string ⟨#[]⟩, .int .u8 0], .bool false]) ∧ Fr w w' := by
  rcases h with h | h
  · subst h
    go_enter Tryd.func64, Tryd.ntmps64
    go_wp2
    exact bodyPost_ret (v := .tuple #[.agg #[.int .u8 0, .string ⟨#[]⟩, .int .u8 0], .bool false]) (by simp [results, Tryd.results64, go_sem]) rfl ⟨rfl, (Fr.refl _).alloc _⟩
  · go_enter Tryd.func64, Tryd.ntmps64
    go_wp2
    exact bodyPost_ret (v := .tuple #[.agg #[.int .u8 0, .string ⟨#[]⟩, .int .u8 0], .bool false]) (by simp [results, Tryd.results64, go_sem]) rfl ⟨rfl, (Fr.refl _).alloc _⟩

theorem find_yes (f : Nat) (w : World) (h0 : 1 ≤ f) (h1 : f ≤ 11) (hE : Env w) :
    Calls Tryd.prog 64 #[.int .u8 f] w fun e w' => e = .returned (.tuple #[.agg #[.int .u8 (kModel f), .string ⟨(kName f).toArray⟩, .int .u8 (kNeeds f)], .bool true]) ∧ Fr w w' := by
  have c0 := hE.kinds.model f h0 h1
  have c1 := hE.kinds.name f h0 h1
  have c2 := hE.kinds.needs f h0 h1
  have hz : 1 < w.heap.size := lt_of_cell c0
  have hf0 : ((f : Int) == 0) = false := by simp; omega
  clear hE
  go_enter Tryd.func64, Tryd.ntmps64
  go_wp2
  exact bodyPost_ret (v := .tuple #[.agg #[.int .u8 (kModel f), .string ⟨(kName f).toArray⟩, .int .u8 (kNeeds f)], .bool true]) (by simp [results, Tryd.results64, go_sem, hz]) rfl ⟨rfl, (Fr.refl _).alloc _⟩

def hasK (f : Int) : Bool := bits BinOp.and IntKind.u8 (kNeeds f) 1 != 0
def hasA (f : Int) : Bool := bits BinOp.and IntKind.u8 (kNeeds f) 2 != 0
def hasB (f : Int) : Bool := bits BinOp.and IntKind.u8 (kNeeds f) 4 != 0
def mayB (F O K A B : Int) : Bool := decide (1 ≤ F) && decide (F ≤ 11) && decide (O < 8) && decide (K < 8) && (hasK F || K == 0) && (hasA F || A == 0) && (hasB F || B == 0)

theorem may_c (F : Nat) (O K A B : Int) (w : World) (hE : Env w) (hF : F ≤ 255) :
    Calls Tryd.prog 67 #[.agg #[.int .u8 F, .int .u8 O, .int .u8 K, .int .u16 A, .int .u16 B]] w fun e w' => e = .returned (.bool (mayB F O K A B)) ∧ Fr w w' := by
  by_cases hf : 1 ≤ F ∧ F ≤ 11
  · obtain ⟨h1, h2⟩ := hf
    have HM : Hid (mayB F O K A B = (decide (O < 8) && decide (K < 8) && (hasK F || K == 0) && (hasA F || A == 0) && (hasB F || B == 0))) := by
      unfold Hid mayB; rw [show decide (1 ≤ (F : Int)) = true by simp; omega, show decide ((F : Int) ≤ 11) = true by simp; omega]; simp
    go_enter Tryd.func67, Tryd.ntmps67
    go_wp2_with (go_at_call 64; refine (find_yes F _ h1 h2 (by repeat (first | assumption | apply Env.alloc))).mono ?_; rintro e w1 ⟨rfl, hb⟩; have hc := hb.cell; have hz := hb.size1)
    all_goals
      go_ret
      refine ⟨?_, ?_⟩
      · rw [HM.out]; first | (simp_all [hasK, hasA, hasB]; done) | (simp_all [hasK, hasA, hasB]; intros; omega)
      · repeat (first | exact Fr.refl _ | assumption | apply Fr.alloc | refine Fr.trans ?_ (by assumption))
  · have HM : Hid (mayB F O K A B = false) := by
      unfold Hid mayB
      rcases Nat.lt_or_ge F 1 with h | h
      · rw [show decide (1 ≤ (F : Int)) = false by simp; omega]; simp
      · rw [show decide ((F : Int) ≤ 11) = false by simp; omega]; simp
    go_enter Tryd.func67, Tryd.ntmps67
    go_wp2_with (go_at_call 64; refine (find_no F _ (by omega) (by omega) (by omega)).mono ?_; rintro e w1 ⟨rfl, hb⟩; have hc := hb.cell; have hz := hb.size1)
    all_goals
      go_ret
      refine ⟨?_, ?_⟩
      · rw [HM.out]; rfl
      · repeat (first | exact Fr.refl _ | assumption | apply Fr.alloc | refine Fr.trans ?_ (by assumption))

theorem Model_no (f : Int) (w : World) (h0 : 0 ≤ f) (h1 : f ≤ 255) (h : f = 0 ∨ 12 ≤ f) :
    Calls Tryd.prog 42 #[.int .u8 f] w fun e w' => e = .returned (.tuple #[.int .u8 0, .bool false]) ∧ Fr w w' := by
  go_enter Tryd.func42, Tryd.ntmps42
  go_wp2_with (go_at_call 64; refine (find_no f _ h0 h1 h).mono ?_; rintro e w1 ⟨rfl, hb⟩; have hc := hb.cell; have hz := hb.size)
  go_ret2
  exact ⟨rfl, by repeat (first | exact Fr.refl _ | assumption | apply Fr.alloc | refine Fr.trans ?_ (by assumption))⟩
theorem Model_yes (f : Nat) (w : World) (h0 : 1 ≤ f) (h1 : f ≤ 11) (hE : Env w) :
    Calls Tryd.prog 42 #[.int .u8 f] w fun e w' => e = .returned (.tuple #[.int .u8 (kModel f), .bool true]) ∧ Fr w w' := by
  go_enter Tryd.func42, Tryd.ntmps42
  go_wp2_with (go_at_call 64; refine (find_yes f _ h0 h1 hE).mono ?_; rintro e w1 ⟨rfl, hb⟩; have hc := hb.cell; have hz := hb.size)
  go_ret2
  exact ⟨rfl, by repeat (first | exact Fr.refl _ | assumption | apply Fr.alloc | refine Fr.trans ?_ (by assumption))⟩

/-- Whose an operation is, as op.Check tells. -/
def checkN (m F O K A B : Int) : Int := if mayB F O K A B && kModel F == m then 0 else 10

theorem Check_c (m : Int) (F : Nat) (O K A B : Int) (w : World) (hE : Env w) (hF : F ≤ 255) :
    Calls Tryd.prog 45 #[.int .u8 m, .agg #[.int .u8 F, .int .u8 O, .int .u8 K, .int .u16 A, .int .u16 B]] w fun e w' => e = .returned (.int .i64 (checkN m F O K A B)) ∧ Fr w w' := by
  by_cases hf : 1 ≤ F ∧ F ≤ 11
  · obtain ⟨h1, h2⟩ := hf
    go_enter Tryd.func45, Tryd.ntmps45
    go_wp2_with (first | (go_at_call 42; refine (Model_yes F _ h1 h2 (by repeat (first | assumption | apply Env.alloc))).mono ?_; rintro e w1 ⟨rfl, hb⟩; have hc := hb.cell; have hz := hb.size1; have hE1 := Env.keep (by repeat (first | assumption | apply Env.alloc)) hb) | (go_at_call 67; refine (may_c F O K A B _ hE1 hF).mono ?_; rintro e w2 ⟨rfl, hb2⟩; cases hm : mayB F O K A B))
    all_goals
      go_ret
      refine ⟨?_, ?_⟩
      · first | (simp_all [checkN]; done) | (unfold checkN; rw [hm]; simp_all; done)
      · repeat (first | exact Fr.refl _ | assumption | apply Fr.alloc | refine Fr.trans ?_ (by assumption))
  · have hm : mayB F O K A B = false := by
      unfold mayB
      rcases Nat.lt_or_ge F 1 with h | h
      · rw [show decide (1 ≤ (F : Int)) = false by simp; omega]; simp
      · rw [show decide ((F : Int) ≤ 11) = false by simp; omega]; simp
    have HM := Lib.hid hm
    clear hm
    go_enter Tryd.func45, Tryd.ntmps45
    go_wp2_with (first | (go_at_call 42; refine (Model_no F _ (by omega) (by omega) (by omega)).mono ?_; rintro e w1 ⟨rfl, hb⟩; have hc := hb.cell; have hz := hb.size1; have hE1 := Env.keep (by repeat (first | assumption | apply Env.alloc)) hb) | (go_at_call 67; refine (may_c F O K A B _ hE1 hF).mono ?_; rw [HM.out]; rintro e w2 ⟨rfl, hb2⟩))
    all_goals
      go_ret
      refine ⟨?_, ?_⟩
      · rw [checkN, HM.out]; rfl
      · repeat (first | exact Fr.refl _ | assumption | apply Fr.alloc | refine Fr.trans ?_ (by assumption))
end Go.Proofs.YthaocbmkkgeomaaDoor

/- Whole structs read out of a box and laid into a new one: arms of a walk that do not open the cells. No condition but what each says. -/
namespace Go.Proofs.YthaocbmkkgeomaaDoor
open Go.RowKit

/-- A block that is these cells, and may be written. -/
def BoxAt (w : World) (b : Nat) (c : Array Value) (t : TypeId) : Prop := w.heap[b]? = some (.cells c t (0, 0))
theorem BoxAt.lt {w : World} {b : Nat} {c : Array Value} {t : TypeId} (h : BoxAt w b c t) : b < w.heap.size := by
  unfold BoxAt at h
  rcases Nat.lt_or_ge b w.heap.size with g | g
  · exact g
  · rw [Array.getElem?_eq_none g] at h; cases h
theorem BoxAt.fr {a w : World} {b : Nat} {c : Array Value} {t : TypeId} (h : BoxAt a b c t) (f : Fr a w) : BoxAt w b c t := (f.block h.lt).trans h
theorem BoxAt.alloc {w : World} {b : Nat} {c : Array Value} {t : TypeId} (h : BoxAt w b c t) (X : Obj) : BoxAt (w.alloc X) b c t := h.fr ((Fr.refl w).alloc X)
theorem BoxAt.drew {w : World} {b : Nat} {c : Array Value} {t : TypeId} (h : BoxAt w b c t) : BoxAt w.drew b c t := h
theorem BoxAt.drewN {w : World} {b : Nat} {c : Array Value} {t : TypeId} (h : BoxAt w b c t) (n : Nat) : BoxAt (w.drewN n) b c t := h
theorem BoxAt.set {w : World} {b : Nat} {c : Array Value} {t : TypeId} (h : BoxAt w b c t) {p : Addr} (hp : p.block ≠ b) (u : Value) : BoxAt (w.setCell p u) b c t := (Below.heap_setCell w p u b (fun e => hp e.symm)).trans h
theorem BoxAt.new (w : World) (c : Array Value) (t : TypeId) : BoxAt (w.alloc (.cells c t)) w.heap.size c t := heap_alloc_last w _
theorem BoxAt.new' (w : World) (c : Array Value) (t : TypeId) (n : Nat) (hn : n = w.heap.size) : BoxAt (w.alloc (.cells c t)) n c t := hn ▸ heap_alloc_last w _
theorem BoxAt.of_fr {w w1 : World} {c : Array Value} {t : TypeId} (h : Fr (w.alloc (.cells c t)) w1) : BoxAt w1 w.heap.size c t := (BoxAt.new w c t).fr h
theorem BoxAt.cell {w : World} {b : Nat} {c : Array Value} {t : TypeId} (h : BoxAt w b c t) (j : Nat) : w.cell? ⟨b, j, none⟩ = c[j]? := cell_of_row w b j c t (0, 0) h
theorem BoxAt.at {w : World} {b : Nat} {c : Array Value} {t : TypeId} (h : BoxAt w b c t) (j : Nat) {v : Value} (hv : c[j]? = some v) : w.cell? ⟨b, j, none⟩ = some v := (h.cell j).trans hv
theorem BoxAt.free {w : World} {b : Nat} {c : Array Value} {t : TypeId} (h : BoxAt w b c t) (j : Nat) : w.frozen? ⟨b, j, none⟩ = false := by
  unfold BoxAt at h
  simp [World.frozen?, h]

/-- A block laid anew, all else as it was. -/
structure Relaid (b : Nat) (c : Array Value) (t : TypeId) (w w' : World) : Prop where
  os : w'.os = w.os
  tape : w'.tape = w.tape
  output : w'.output = w.output
  size : w'.heap.size = w.heap.size
  box : BoxAt w' b c t
  other : ∀ k, k ≠ b → w'.heap[k]? = w.heap[k]?
theorem Relaid.boxOther {b : Nat} {c : Array Value} {t : TypeId} {w w' : World} (h : Relaid b c t w w') {d : Nat} {e : Array Value} {u : TypeId} (hB : BoxAt w d e u) (hd : d ≠ b) : BoxAt w' d e u := (h.other d hd).trans hB
theorem Relaid.fr {b : Nat} {c : Array Value} {t : TypeId} {a w w' : World} (h : Relaid b c t w w') (f : Fr a w) (hb : a.heap.size ≤ b) : Fr a w' :=
  ⟨h.os.trans f.os, h.tape.trans f.tape, h.output.trans f.output, by rw [h.size]; exact f.size, fun k hk => (h.other k (by omega)).trans (f.block hk)⟩
section
variable {P : Program} {ops : Array Oper} {rest : List Oper} {o : Oper} {a : Act} {Q : Exit → Act → World → Prop}
/-- The next operation is this one (cheap to ask ahead of a law that is dear to try). -/
theorem wpList_here {w : World} (i : Op) (ho : o.op = i) (h : wpList P ops Q (o :: rest) a w) : wpList P ops Q (o :: rest) a w := h
/-- A whole struct is read out of its block. -/
theorem wpList_load_box {w : World} (ty : TypeId) (x : Operand) (ho : o.op = .load ty x)
    (g : Nat) (hx : a.eval x = .pointer (some ⟨g, 0, none⟩)) (cs : Array Value) (hg : BoxAt w g cs ty) (d : TypeDesc)
    (hu : P.underlying ty = some d) (hd : (match d with | .struct _ | .array _ _ => true | _ => false) = true) (hi : (P.info? ty).map (·.size) = some cs.size)
    (hw : Region.wanted o (yielded ops a.tmps) = true) (h : wpList P ops Q rest (a.put o.dst (.agg cs)) w) : wpList P ops Q (o :: rest) a w :=
  wpList_step fun K hK => by
    simp only [hw, if_true]
    exact wp_load_row ty x ho g hx ty cs (0, 0) d hg hu hd hi (hK _ _ h)
/-- A whole struct is laid into the newest block. -/
theorem wpList_store_new {w : World} (ty : TypeId) (x y : Operand) (ho : o.op = .store ty x y) (c c' : Array Value) (n : Nat) (hn : n = w.heap.size)
    (hx : a.eval x = .pointer (some ⟨n, 0, none⟩)) (hy : a.eval y = .agg c') (hi : (P.info? ty).map (·.size) = some c'.size) (hs : c.size = c'.size) (h1 : c'.all (·.oneCell') = true)
    (hw : Region.wanted o (yielded ops a.tmps) = true) (hdst : o.dst = none) (h : wpList P ops Q rest a (w.alloc (.cells c' ty))) : wpList P ops Q (o :: rest) a (w.alloc (.cells c ty)) :=
  wpList_step fun K hK => by
    subst hn
    simp only [hw, if_true]
    have hp : a.put o.dst undef = a := by rw [hdst]; rfl
    unfold Oper.wp execOp
    simp only [ho, hx, hy, Sem.run_bind, run_storeAt_new w ty c c' hi hs h1, Result.andThen_ok, Sem.run_pure]
    show K (a.put o.dst undef) _
    rw [hp]
    exact hK _ _ h
/-- A whole struct is laid into a block that is there. -/
theorem wpList_store_old {w : World} (ty : TypeId) (x y : Operand) (ho : o.op = .store ty x y) (b : Nat) (c c' : Array Value)
    (hx : a.eval x = .pointer (some ⟨b, 0, none⟩)) (hy : a.eval y = .agg c') (hB : BoxAt w b c ty) (hi : (P.info? ty).map (·.size) = some c'.size) (hs : c.size = c'.size) (h1 : c'.all (·.oneCell') = true)
    (hw : Region.wanted o (yielded ops a.tmps) = true) (hdst : o.dst = none) (h : ∀ w', Relaid b c' ty w w' → wpList P ops Q rest a w') : wpList P ops Q (o :: rest) a w :=
  wpList_step fun K hK => by
    simp only [hw, if_true]
    have hst : (Instr.storeAt ty (.pointer (some ⟨b, 0, none⟩)) (.agg c')).run P w = .ok () (w.setRow b c') := by
      simp only [Instr.storeAt, Instr.sureAddr, Sem.run_bind, Sem.run_pure, Result.andThen]
      exact run_storeVar_row w b ty ty c c' hB hi hs h1
    have hp : a.put o.dst undef = a := by rw [hdst]; rfl
    unfold Oper.wp execOp
    simp only [ho, hx, hy, Sem.run_bind, hst, Result.andThen_ok, Sem.run_pure]
    show K (a.put o.dst undef) _
    rw [hp]
    exact hK _ _ (h _ ⟨rfl, rfl, rfl, by simp, setRow_heap w b c c' ty _ hB, fun k hk => setRow_other w b k c' hk⟩)
end
end Go.Proofs.YthaocbmkkgeomaaDoor
