/- Base words of every walk: 'Fr w w'': what stood in w stands in w'; the tables that are listed; small laws. No condition beyond what each says. -/
import Derived.Test.YtfklgaeejmeipaaGreatDoorRows
import Derived.WalkKit
import Derived.WalkSpells
import Derived.WalkLawsBesides
import Derived.Lib.Hide
import Derived.Lib.LaidTab
import Derived.Lib.ItoaNum
import Derived.Laws.BytesArg
import Derived.Deep.AppendLies
import Derived.Deep.RegionLaw
import Derived.Deep.QuietTactic
import Derived.BigQuiet
import Derived.Lib.AppendStr
set_option linter.all false
set_option linter.unusedVariables false
set_option linter.unusedSimpArgs false
set_option linter.unnecessarySimpa false
/- Base words of every walk: 'Fr w w'': what stood in w stands in w'; the tables that are listed; small laws. No condition beyond what each says. -/
namespace Go.Proofs.YtfklgaeejmeipaaGreatDoor
open Go.RowKit

/-- All that stood in 'w' stands in 'w'' unchanged. -/
def Fr (w w' : World) : Prop := Below w.heap.size w w'
theorem Fr.refl (w : World) : Fr w w := Below.refl _ _
theorem Fr.size {w w' : World} (h : Fr w w') : w.heap.size ≤ w'.heap.size := Below.size h
theorem Fr.trans {a b c : World} (h : Fr a b) (k : Fr b c) : Fr a c := Below.trans h (Below.mono k h.size)
theorem Fr.trans' {a b c : World} (h : Fr a b) (k : Below a.heap.size b c) : Fr a c := Below.trans h k
theorem Fr.alloc {a w : World} (h : Fr a w) (o : Obj) : Fr a (w.alloc o) := Below.alloc h h.size o
theorem Fr.drew {a w : World} (h : Fr a w) : Fr a w.drew := Below.drew h
theorem Fr.drewN {a w : World} (h : Fr a w) (n : Nat) : Fr a (w.drewN n) := Below.trans h ⟨rfl, rfl, rfl, Nat.le_refl _, fun _ _ => rfl⟩
theorem Fr.setCell {a w : World} (h : Fr a w) {p : Addr} (hp : a.heap.size ≤ p.block) (u : Value) : Fr a (w.setCell p u) := Below.setCell h hp u
theorem Fr.cell {a w : World} (h : Fr a w) : ∀ b o, b < a.heap.size → w.cell? ⟨b, o, none⟩ = a.cell? ⟨b, o, none⟩ := fun b o hb => Below.cell (p := ⟨b, o, none⟩) h hb
theorem Fr.frozen {a w : World} (h : Fr a w) : ∀ b o, b < a.heap.size → w.frozen? ⟨b, o, none⟩ = a.frozen? ⟨b, o, none⟩ := fun b o hb => Below.frozen (p := ⟨b, o, none⟩) h hb
theorem Fr.block {a w : World} (h : Fr a w) {k : Nat} (hk : k < a.heap.size) : w.heap[k]? = a.heap[k]? := Below.block h k hk

theorem Fr.size1 {w w1 : World} {X : Obj} (h : Fr (w.alloc X) w1) : w.heap.size < w1.heap.size := by have := h.size; simp at this; omega
theorem Fr.size2 {w w1 : World} {X Y : Obj} (h : Fr ((w.alloc X).alloc Y) w1) : w.heap.size + 1 < w1.heap.size := by have := h.size; simp at this; omega
theorem Fr.size3 {w w1 : World} {X Y Z : Obj} (h : Fr (((w.alloc X).alloc Y).alloc Z) w1) : w.heap.size + 2 < w1.heap.size := by have := h.size; simp at this; omega
theorem lt_of_cell {w : World} {a : Addr} {v : Value} (h : w.cell? a = some v) : a.block < w.heap.size := by
  unfold World.cell? at h
  rcases Nat.lt_or_ge a.block w.heap.size with g | g
  · exact g
  · rw [Array.getElem?_eq_none g] at h; simp at h
theorem Fr.keep {a w : World} (h : Fr a w) {p : Addr} {v : Value} (hc : a.cell? p = some v) : w.cell? p = some v := (Below.cell h (lt_of_cell hc)).trans hc

def kModel (f : Int) : Int := if f ≤ 3 then 0 else if f ≤ 5 then 1 else if f ≤ 9 then 2 else 3
def kNeeds (f : Int) : Int := if f = 2 ∨ f = 4 then 2 else if f = 3 then 6 else if f = 6 ∨ f = 8 then 1 else if f = 7 then 3 else if f = 9 then 7 else 0
def kName (f : Int) : List UInt8 := if f = 1 then [114, 101, 97, 100] else if f = 2 then [119, 114, 105, 116, 101] else if f = 3 then [99, 97, 115] else if f = 4 then [101, 110, 113] else if f = 5 then [100, 101, 113] else if f = 6 then [103, 101, 116] else if f = 7 then [112, 117, 116] else if f = 8 then [100, 101, 108] else if f = 9 then [115, 119, 97, 112] else if f = 10 then [97, 99, 113, 117, 105, 114, 101] else [114, 101, 108, 101, 97, 115, 101]

/-- The table of kinds, as cells. -/
structure KindsAt (w : World) : Prop where
  model : ∀ f : Nat, 1 ≤ f → f ≤ 11 → w.cell? ⟨2, f * 3, none⟩ = some (.int .u8 (kModel f))
  name : ∀ f : Nat, 1 ≤ f → f ≤ 11 → w.cell? ⟨2, f * 3 + 1, none⟩ = some (.string ⟨(kName f).toArray⟩)
  needs : ∀ f : Nat, 1 ≤ f → f ≤ 11 → w.cell? ⟨2, f * 3 + 2, none⟩ = some (.int .u8 (kNeeds f))
theorem KindsAt.keep {a w : World} (h : KindsAt a) (f : Fr a w) : KindsAt w :=
  ⟨fun i h1 h2 => f.keep (h.model i h1 h2), fun i h1 h2 => f.keep (h.name i h1 h2), fun i h1 h2 => f.keep (h.needs i h1 h2)⟩

def resWord (K : Nat) : List UInt8 := if K = 0 then [100, 111, 110, 101] else if K = 1 then [118, 97, 108, 117, 101] else if K = 2 then [110, 111, 110, 101] else if K = 3 then [121, 101, 115] else [110, 111]

/-- What every program's walks may need of the variables that are listed. -/
structure Env0 (w : World) : Prop where
  triv0 : True
  pow10 : Lib.TabIs Tryz.prog w "internal/strconv.uint64pow10" .u64 Lib.pow10Tab
  many : 7 < w.heap.size
  maxl : ∃ m, w.cell? ⟨4, 0, none⟩ = some (.int .i64 m)
  errS : ∃ te pe, w.cell? ⟨8, 0, none⟩ = some (.iface te pe)
  errR : ∃ te pe, w.cell? ⟨9, 0, none⟩ = some (.iface te pe)
theorem Env0.keep {a w : World} (h : Env0 a) (f : Fr a w) : Env0 w where
  triv0 := trivial
  pow10 := var?_below f (by kernel_rfl) h.many h.pow10
  many := Nat.lt_of_lt_of_le h.many f.size
  maxl := h.maxl.elim fun m hm => ⟨m, f.keep hm⟩
  errS := by obtain ⟨te, pe, hm⟩ := h.errS; exact ⟨te, pe, f.keep hm⟩
  errR := by obtain ⟨te, pe, hm⟩ := h.errR; exact ⟨te, pe, f.keep hm⟩
/-- The tables that are listed, as they stand in a world. -/
structure Env (w : World) : Prop extends Env0 w where
  triv : True
  kinds : KindsAt w
theorem Env.keep {a w : World} (h : Env a) (f : Fr a w) : Env w where
  toEnv0 := h.toEnv0.keep f
  triv := trivial
  kinds := h.kinds.keep f
instance (w : World) : Coe (Env w) (Env0 w) := ⟨fun h => h.toEnv0⟩
theorem Env.alloc {w : World} (h : Env w) (o : Obj) : Env (w.alloc o) := h.keep ((Fr.refl w).alloc o)
theorem Env.drew {w : World} (h : Env w) : Env w.drew := h.keep ((Fr.refl w).drew)
theorem Env.drewN {w : World} (h : Env w) (n : Nat) : Env (w.drewN n) := h.keep ((Fr.refl w).drewN n)

/-- A slice of 'n' elements whose cells read 'xs', in a block of 'Z'. -/
structure SlAt (w : World) (Z : Nat → Prop) (v : Value) (n : Nat) (xs : List Value) : Prop where
  form : ∃ a cap, v = .slice a n cap ∧ n ≤ cap ∧ cap ≤ maxLen ∧ (xs = [] ∨ ∃ b off, a = some ⟨b, off, none⟩ ∧ Z b ∧ b < w.heap.size ∧ ∀ j u, xs[j]? = some u → w.cell? ⟨b, off + j, none⟩ = some u)
theorem SlAt.keep {w w' : World} {Z : Nat → Prop} {v : Value} {n : Nat} {xs : List Value} (h : SlAt w Z v n xs) (hs : w.heap.size ≤ w'.heap.size) (hb : ∀ k, Z k → k < w.heap.size → w'.heap[k]? = w.heap[k]?) : SlAt w' Z v n xs := by
  obtain ⟨a, cap, rfl, h1, h2, h3⟩ := h
  refine ⟨a, cap, rfl, h1, h2, ?_⟩
  rcases h3 with h3 | ⟨b, off, rfl, hz, hlt, hc⟩
  · exact .inl h3
  · exact .inr ⟨b, off, rfl, hz, by omega, fun j u hj => (World.cell?_of_block (a := ⟨b, off + j, none⟩) (hb b hz hlt)).trans (hc j u hj)⟩
theorem SlAt.fr {w w' : World} {Z : Nat → Prop} {v : Value} {n : Nat} {xs : List Value} (h : SlAt w Z v n xs) (f : Fr w w') : SlAt w' Z v n xs := h.keep f.size fun k _ hk => f.block hk
theorem SlAt.mono {w : World} {Z Z' : Nat → Prop} {v : Value} {n : Nat} {xs : List Value} (h : SlAt w Z v n xs) (hZ : ∀ k, Z k → Z' k) : SlAt w Z' v n xs := by
  obtain ⟨a, cap, rfl, h1, h2, h3⟩ := h
  refine ⟨a, cap, rfl, h1, h2, ?_⟩
  rcases h3 with h3 | ⟨b, off, rfl, hz, hlt, hc⟩
  · exact .inl h3
  · exact .inr ⟨b, off, rfl, hZ b hz, hlt, hc⟩
/-- What a call owns can be read. -/
theorem SlAt.own {w : World} {base : Nat} {e : TypeId} {size : Nat} {v : Value} {n : Nat} {xs : List Value} (h : w.ownsRow base e size v n xs) : SlAt w (base ≤ ·) v n xs := by
  obtain ⟨h1, h2⟩ := h
  rcases h2 with ⟨rfl, rfl⟩ | ⟨g, cap, cur, rfl, hg, hh, hc, hm, hs, ht⟩
  · have : xs = [] := List.eq_nil_of_length_eq_zero (by simpa using h1)
    exact ⟨none, 0, rfl, Nat.le_refl _, by decide, .inl this⟩
  · refine ⟨_, cap, rfl, hc, hm, .inr ⟨g, 0, rfl, hg, ?_, fun j u hj => ?_⟩⟩
    · rcases Nat.lt_or_ge g w.heap.size with h | h
      · exact h
      · rw [Array.getElem?_eq_none h] at hh; simp at hh
    · subst ht
      have hj2 : cur[j]? = some u := by
        have : j < n * size := by have := (List.getElem?_eq_some_iff.1 hj).1; simp at this; omega
        rw [List.getElem?_take_of_lt this] at hj
        simpa using hj
      simp [World.cell?, hh, hj2]
end Go.Proofs.YtfklgaeejmeipaaGreatDoor

/- Small laws on strings of this program's types: string([]byte{a}), string([]byte{a, b}). -/
namespace Go.Proofs.YtfklgaeejmeipaaGreatDoor
open Go.RowKit

/-- 'string(b)' at a literal that the call has just made. -/
theorem conv1 (W : World) (x : Int) (c : Nat) : (convert 107 9 (.slice (some ⟨W.heap.size, 0, none⟩) 1 c)).run Tryz.prog (W.alloc (.cells #[.int .u8 x] 5)) = .ok (.string ⟨#[UInt8.ofNat x.toNat]⟩) (W.alloc (.cells #[.int .u8 x] 5)) :=
  run_convert_bytes_arg _ 107 5 Tryz.underlying107 Tryz.underlying5 _ 0 1 c [x] rfl (fun i hi => by
    rcases (show i = 0 by omega) with rfl; simp) _ Tryz.underlying9
theorem conv2 (W : World) (x y : Int) (c : Nat) : (convert 107 9 (.slice (some ⟨W.heap.size, 0, none⟩) 2 c)).run Tryz.prog (W.alloc (.cells #[.int .u8 x, .int .u8 y] 5)) = .ok (.string ⟨#[UInt8.ofNat x.toNat, UInt8.ofNat y.toNat]⟩) (W.alloc (.cells #[.int .u8 x, .int .u8 y] 5)) :=
  run_convert_bytes_arg _ 107 5 Tryz.underlying107 Tryz.underlying5 _ 0 2 c [x, y] rfl (fun i hi => by
    rcases (show i = 0 ∨ i = 1 by omega) with rfl | rfl <;> simp) _ Tryz.underlying9
theorem conv1' (W : World) (x : Int) (n c : Nat) (hn : n = W.heap.size) : (convert 107 9 (.slice (some ⟨n, 0, none⟩) 1 c)).run Tryz.prog (W.alloc (.cells #[.int .u8 x] 5)) = .ok (.string ⟨#[UInt8.ofNat x.toNat]⟩) (W.alloc (.cells #[.int .u8 x] 5)) := by subst hn; exact conv1 W x c
theorem conv2' (W : World) (x y : Int) (n c : Nat) (hn : n = W.heap.size) : (convert 107 9 (.slice (some ⟨n, 0, none⟩) 2 c)).run Tryz.prog (W.alloc (.cells #[.int .u8 x, .int .u8 y] 5)) = .ok (.string ⟨#[UInt8.ofNat x.toNat, UInt8.ofNat y.toNat]⟩) (W.alloc (.cells #[.int .u8 x, .int .u8 y] 5)) := by subst hn; exact conv2 W x y c
attribute [go_sem] conv1' conv2'
theorem mk_append (x y : List UInt8) : (⟨x.toArray⟩ : ByteArray) ++ ⟨y.toArray⟩ = ⟨(x ++ y).toArray⟩ := ByteArray.mk_append_mk x y
theorem size_mk (l : List UInt8) : (⟨l.toArray⟩ : ByteArray).size = l.length := by simp [ByteArray.size]
theorem ret_str {a : ByteArray} {l : List UInt8} (h : a.data.toList = l) : Ending.returned (.string a) = Ending.returned (.string ⟨l.toArray⟩) := by subst h; simp
end Go.Proofs.YtfklgaeejmeipaaGreatDoor

/- The walks of umpire/codec's Writer: what is written. No condition but what each says. -/
namespace Go.Proofs.YtfklgaeejmeipaaGreatDoor
open Go.RowKit

/-- A number's bytes, the highest first, so many. -/
def be (n : Nat) : Nat → List UInt8
  | 0 => []
  | k + 1 => be (n / 256) k ++ [UInt8.ofNat n]
/-- Bytes as cells. -/
def byteCells (l : List UInt8) : List Value := l.map fun b => .int .u8 (b.toNat : Int)
/-- A writer without an error, in block 'p', which has written 'l'. -/
structure WrAt (w : World) (p : Nat) (v : Value) (l : List UInt8) : Prop where
  e : w.cell? ⟨p, 0, none⟩ = some (.int .i64 0)
  b : w.cell? ⟨p, 1, none⟩ = some v
  f0 : w.frozen? ⟨p, 0, none⟩ = false
  f1 : w.frozen? ⟨p, 1, none⟩ = false
  own : w.ownsRow (p + 1) 5 1 v l.length (byteCells l)
/-- Nothing turned but block 'p' and the row of 'v'. -/
structure Ch (p : Nat) (v : Value) (w w' : World) : Prop where
  os : w'.os = w.os
  tape : w'.tape = w.tape
  output : w'.output = w.output
  size : w.heap.size ≤ w'.heap.size
  block : ∀ k, k < w.heap.size → k ≠ p → some k ≠ v.ownBlock → w'.heap[k]? = w.heap[k]?
/-- The new value's row is the old one's, or new. -/
def Lies (w : World) (v v' : Value) : Prop := v'.ownBlock = v.ownBlock ∨ ∃ g, v'.ownBlock = some g ∧ w.heap.size ≤ g
theorem Ch.refl (p : Nat) (v : Value) (w : World) : Ch p v w w := ⟨rfl, rfl, rfl, Nat.le_refl _, fun _ _ _ _ => rfl⟩
theorem Ch.trans {p : Nat} {v v1 : Value} {w w1 w2 : World} (h : Ch p v w w1) (hl : Lies w v v1) (k : Ch p v1 w1 w2) : Ch p v w w2 :=
  ⟨k.os.trans h.os, k.tape.trans h.tape, k.output.trans h.output, Nat.le_trans h.size k.size, fun b hb h1 h2 => (k.block b (Nat.lt_of_lt_of_le hb h.size) h1 (by
    rcases hl with hl | ⟨g, hl, hg⟩
    · rw [hl]; exact h2
    · rw [hl]; intro e; cases e; omega)).trans (h.block b hb h1 h2)⟩
theorem Lies.trans {w w1 : World} {v v1 v2 : Value} (h : Lies w v v1) (hs : w.heap.size ≤ w1.heap.size) (k : Lies w1 v1 v2) : Lies w v v2 := by
  rcases k with k | ⟨g, k, hg⟩
  · rcases h with h | ⟨g, h, hg⟩
    · exact .inl (k.trans h)
    · exact .inr ⟨g, k.trans h, hg⟩
  · exact .inr ⟨g, k, Nat.le_trans hs hg⟩
theorem Ch.alloc {p : Nat} {v : Value} {a w : World} (h : Ch p v a w) (o : Obj) : Ch p v a (w.alloc o) :=
  ⟨h.os, h.tape, h.output, by have := h.size; simp; omega, fun k hk h1 h2 => (Below.heap_alloc w o k (by have := h.size; omega)).trans (h.block k hk h1 h2)⟩
theorem Ch.drew {p : Nat} {v : Value} {a w : World} (h : Ch p v a w) : Ch p v a w.drew := ⟨h.os, h.tape, h.output, h.size, h.block⟩
theorem Ch.setCell {p : Nat} {v : Value} {a w : World} (h : Ch p v a w) (o : Nat) (u : Value) : Ch p v a (w.setCell ⟨p, o, none⟩ u) :=
  ⟨h.os, h.tape, h.output, by have := h.size; simp [World.setCell]; omega, fun k hk h1 h2 => (Below.heap_setCell w _ u k h1).trans (h.block k hk h1 h2)⟩
theorem Ch.grown {p : Nat} {v : Value} {a w w' : World} {row : Option Nat} (h : Ch p v a w) (hg : w.grownBy w' row) (hr : row = v.ownBlock ∨ ∃ g, row = some g ∧ a.heap.size ≤ g) : Ch p v a w' :=
  ⟨hg.os.trans h.os, hg.tape.trans h.tape, hg.output.trans h.output, Nat.le_trans h.size hg.size, fun k hk h1 h2 => (hg.block k (Nat.lt_of_lt_of_le hk h.size) (by
    rcases hr with hr | ⟨g, hr, hge⟩
    · rw [hr]; exact h2
    · rw [hr]; intro e; cases e; omega)).trans (h.block k hk h1 h2)⟩
theorem Ch.cell {p : Nat} {v : Value} {w w' : World} (h : Ch p v w w') {b o : Nat} (hb : b < w.heap.size) (h1 : b ≠ p) (h2 : some b ≠ v.ownBlock) : w'.cell? ⟨b, o, none⟩ = w.cell? ⟨b, o, none⟩ :=
  World.cell?_of_block (w := w) (h.block b hb h1 h2)
theorem Ch.frozen {p : Nat} {v : Value} {w w' : World} (h : Ch p v w w') {b o : Nat} (hb : b < w.heap.size) (h1 : b ≠ p) (h2 : some b ≠ v.ownBlock) : w'.frozen? ⟨b, o, none⟩ = w.frozen? ⟨b, o, none⟩ :=
  World.frozen?_of_block (w := w) (h.block b hb h1 h2)

theorem Tryz.infoU8 : (Tryz.prog.info? 5).map (fun i => (i.zero, i.size, i.bytes)) = some (some (.int .u8 0), 1, 1) := by kernel_rfl

theorem ownsRow_drew {w : World} {base : Nat} {e : TypeId} {size : Nat} {v : Value} {n : Nat} {xs : List Value} (h : w.ownsRow base e size v n xs) : w.drew.ownsRow base e size v n xs := h
theorem WrAt.ne {w : World} {p : Nat} {v : Value} {l : List UInt8} (h : WrAt w p v l) : some p ≠ v.ownBlock := by
  intro e
  have := (h.own.lt p e.symm).1
  omega
/-- The writer's cells behind an append onto its row. -/
theorem WrAt.after {w W w1 : World} {p : Nat} {v : Value} {l : List UInt8} (h : WrAt w p v l) (X : Obj) (hW : W.heap = (w.alloc X).heap) (hg : W.grownBy w1 v.ownBlock) :
    w1.cell? ⟨p, 0, none⟩ = some (.int .i64 0) ∧ w1.cell? ⟨p, 1, none⟩ = some v ∧ w1.frozen? ⟨p, 0, none⟩ = false ∧ w1.frozen? ⟨p, 1, none⟩ = false := by
  have hp : p < w.heap.size := lt_of_cell h.e
  have hb : w1.heap[p]? = w.heap[p]? := by
    rw [hg.block p (by rw [hW]; simp; omega) h.ne, hW]
    exact Below.heap_alloc w X p hp
  exact ⟨(World.cell?_of_block (a := ⟨p, 0, none⟩) hb).trans h.e, (World.cell?_of_block (a := ⟨p, 1, none⟩) hb).trans h.b, (World.frozen?_of_block (a := ⟨p, 0, none⟩) hb).trans h.f0, (World.frozen?_of_block (a := ⟨p, 1, none⟩) hb).trans h.f1⟩

/-- A writer is well, if it has no error. -/
theorem well_c (p : Nat) (w : World) (h : w.cell? ⟨p, 0, none⟩ = some (.int .i64 0)) :
    Calls Tryz.prog 175 #[.pointer (some ⟨p, 0, none⟩)] w fun e w' => e = .returned (.bool true) ∧ w = w' := by
  go_enter Tryz.func175, Tryz.ntmps175
  go_wp2
  go_ret
  exact ⟨rfl, rfl⟩

theorem u8wrap (m : Nat) : IntKind.u8.wrap (m : Int) = ((UInt8.ofNat m).toNat : Int) := by
  simp [IntKind.wrap, IntKind.bits, IntKind.signed]
theorem byteCells_append (l m : List UInt8) : byteCells (l ++ m) = byteCells l ++ byteCells m := by simp [byteCells]
/-- What an append of one byte and its store leave. -/
theorem WrAt.done {w W w1 : World} {p g cap : Nat} {v : Value} {l : List UInt8} (h : WrAt w p v l) (X : Obj) (hW : W.heap = (w.alloc X).heap) (hos : W.os = w.os) (htape : W.tape = w.tape) (hout : W.output = w.output) (hg : W.grownBy w1 v.ownBlock) (b : UInt8) (x : Int) (hx : x = (b.toNat : Int))
    (hown : w1.ownsRow (p + 1) 5 1 (.slice (some ⟨g, 0, none⟩) (l.length + 1) cap) (l.length + 1) (byteCells l ++ [.int .u8 x])) (hat : v.ownBlock = some g ∨ g = w.heap.size + 1) :
    WrAt (w1.setCell ⟨p, 1, none⟩ (.slice (some ⟨g, 0, none⟩) (l.length + 1) cap)) p (.slice (some ⟨g, 0, none⟩) (l.length + 1) cap) (l ++ [b]) ∧
    Ch p v w (w1.setCell ⟨p, 1, none⟩ (.slice (some ⟨g, 0, none⟩) (l.length + 1) cap)) ∧ Lies w v (.slice (some ⟨g, 0, none⟩) (l.length + 1) cap) := by
  obtain ⟨q0, q1, q2, q3⟩ := h.after X hW hg
  subst hx
  have hch : Ch p v w w1 := by
    refine ⟨hg.os.trans hos, hg.tape.trans htape, hg.output.trans hout, ?_, fun k hk h1 h2 => ?_⟩
    · have := hg.size; rw [hW] at this; simp at this; omega
    · rw [hg.block k (by rw [hW]; simp; omega) h2, hW]; exact Below.heap_alloc w X k hk
  refine ⟨⟨?_, ?_, ?_, ?_, ?_⟩, hch.setCell 1 _, ?_⟩
  · rw [World.cell?_setCell_other _ _ _ _ (by simp)]; exact q0
  · exact World.cell?_setCell_same _ _ _ q1
  · exact (World.frozen?_setCell ..).trans q2
  · exact (World.frozen?_setCell ..).trans q3
  · have e : (l ++ [b]).length = l.length + 1 := by simp
    rw [byteCells_append, e]
    exact ownsRow_setCell_below hown (by simp) _
  · rcases hat with hat | hat
    · exact .inl hat.symm
    · exact .inr ⟨g, rfl, by omega⟩
theorem be_len (n k : Nat) : (be n k).length = k := by induction k generalizing n with
  | zero => rfl
  | succ k ih => simp [be, ih]

set_option maxHeartbeats 1000000 in
theorem put8_c (n p : Nat) (v : Value) (l : List UInt8) (w : World) (hn : n < 256) (hw : WrAt w p v l) (hl : l.length < 100000) :
    Calls Tryz.prog 169 #[.pointer (some ⟨p, 0, none⟩), .int .u8 n, .int .i64 1] w fun e w' => e = .returned (.tuple #[]) ∧ ∃ v', WrAt w' p v' (l ++ be n 1) ∧ Ch p v w w' ∧ Lies w v v' := by
  have he := hw.e
  obtain ⟨i0, hi, hz0, hz1, hz2⟩ := info_parts Tryz.infoU8
  go_enter Tryz.func169, Tryz.ntmps169
  go_wp2_with (go_at_call 175; refine (well_c p _ he).mono ?_; rintro e w1 ⟨rfl, rfl⟩)
  clear he
  go_loopw [6] (fun i wr => ∃ (k : Nat) (j : Int) (v1 : Value), k ≤ 1 ∧ j = (k : Int) - 1 ∧ i = .int .i64 j ∧ WrAt wr p v1 (l ++ (be n 1).take (1 - k)) ∧ Ch p v w wr ∧ Lies w v v1) (fun i _ => (intOf i + 1).toNat)
  case atStart => exact ⟨1, 0, v, Nat.le_refl _, rfl, rfl, by simpa using hw, Ch.refl _ _ _, .inl rfl⟩
  case round =>
    obtain ⟨k, j, v1, hk, hj, rfl, hw1, hch, hli⟩ := hrel
    have hlen : (l ++ (be n 1).take (1 - k)).length < 100004 := by simp [be_len]; omega
    rcases (show k = 0 ∨ k = 1 by omega) with rfl | rfl
    · obtain rfl : j = -1 := by omega
      clear hj
      go_wp2
      go_end0
      exact ⟨rfl, v1, by rw [show (be n 1).take (1 - 0) = be n 1 from List.take_of_length_le (by rw [be_len]; omega)] at hw1; exact hw1, hch, hli⟩
    · obtain rfl : j = 0 := by omega
      have he1 := hw1.e
      have hb1 := hw1.b
      have hf1 := hw1.f1
      have hown := hw1.own
      have hp : p < wr.heap.size := lt_of_cell he1
      generalize hL : l ++ (be n 1).take (1 - 1) = L at hw1 hlen hown
      have HL := Lib.hid hL
      have HJ := Lib.hid hj
      clear hL hj he1
      go_wp2
      have k0 : IntKind.i64.wrap 0 = 0 := by decide
      have k1 : IntKind.u32.wrap (n : Int) = n := by simp [IntKind.wrap, IntKind.bits, IntKind.signed]; omega
      go_region_law (first | (refine step_append_lies _ rfl (.tmp 26) (.tmp 33) 107 rfl (p + 1) 5 i0 (.int .u8 0) 1 1 Tryz.underlying107 hi hz0 hz1 hz2 rfl (by decide) v1 L.length (byteCells L) rfl (by first | exact ownsRow_drew (hown.alloc _) | exact hown.alloc _) ⟨wr.heap.size, 0, none⟩ 1 1 [.int .u8 (IntKind.u8.wrap (n : Int))] rfl rfl (by intro j u hj; match j, hj with | 0, hj => simp at hj; subst hj; simp [Addr.add]) (by intro u hu; simp at hu; subst hu; rfl) (by decide) (by unfold maxLen; omega) (by omega) (by simp; omega) _ rfl ?_; intro g cap w1 hown1 hgrow hat hlt; obtain ⟨q0, q1, q2, q3⟩ := hw1.after (Obj.cells #[.int .u8 (IntKind.u8.wrap (n : Int))] 5) (by rfl) hgrow))
      all_goals
        clear k0 k1
        obtain ⟨d1, d2, d3⟩ := hw1.done (Obj.cells #[.int .u8 (IntKind.u8.wrap (n : Int))] 5) (by rfl) (by rfl) (by rfl) (by rfl) hgrow (UInt8.ofNat n) (IntKind.u8.wrap (n : Int)) (u8wrap n) hown1 (by simpa using hat)
        go_wp2
        go_roundw
        case rel => exact ⟨0, -1, _, by omega, by omega, rfl, by rw [show l ++ (be n 1).take (1 - 0) = L ++ [UInt8.ofNat n] by rw [← HL.out]; simp [be, Nat.div_div_eq_div_mul]]; exact d1, hch.trans hli d2, hli.trans hch.size d3⟩
        case measure => simp [intOf]

set_option maxHeartbeats 1000000 in
theorem put16_c (n p : Nat) (v : Value) (l : List UInt8) (w : World) (hn : n < 65536) (hw : WrAt w p v l) (hl : l.length < 100000) :
    Calls Tryz.prog 170 #[.pointer (some ⟨p, 0, none⟩), .int .u16 n, .int .i64 2] w fun e w' => e = .returned (.tuple #[]) ∧ ∃ v', WrAt w' p v' (l ++ be n 2) ∧ Ch p v w w' ∧ Lies w v v' := by
  have he := hw.e
  obtain ⟨i0, hi, hz0, hz1, hz2⟩ := info_parts Tryz.infoU8
  go_enter Tryz.func170, Tryz.ntmps170
  go_wp2_with (go_at_call 175; refine (well_c p _ he).mono ?_; rintro e w1 ⟨rfl, rfl⟩)
  clear he
  go_loopw [6] (fun i wr => ∃ (k : Nat) (j : Int) (v1 : Value), k ≤ 2 ∧ j = (k : Int) - 1 ∧ i = .int .i64 j ∧ WrAt wr p v1 (l ++ (be n 2).take (2 - k)) ∧ Ch p v w wr ∧ Lies w v v1) (fun i _ => (intOf i + 1).toNat)
  case atStart => exact ⟨2, 1, v, Nat.le_refl _, rfl, rfl, by simpa using hw, Ch.refl _ _ _, .inl rfl⟩
  case round =>
    obtain ⟨k, j, v1, hk, hj, rfl, hw1, hch, hli⟩ := hrel
    have hlen : (l ++ (be n 2).take (2 - k)).length < 100004 := by simp [be_len]; omega
    rcases (show k = 0 ∨ k = 1 ∨ k = 2 by omega) with rfl | rfl | rfl
    · obtain rfl : j = -1 := by omega
      clear hj
      go_wp2
      go_end0
      exact ⟨rfl, v1, by rw [show (be n 2).take (2 - 0) = be n 2 from List.take_of_length_le (by rw [be_len]; omega)] at hw1; exact hw1, hch, hli⟩
    · obtain rfl : j = 0 := by omega
      have he1 := hw1.e
      have hb1 := hw1.b
      have hf1 := hw1.f1
      have hown := hw1.own
      have hp : p < wr.heap.size := lt_of_cell he1
      generalize hL : l ++ (be n 2).take (2 - 1) = L at hw1 hlen hown
      have HL := Lib.hid hL
      have HJ := Lib.hid hj
      clear hL hj he1
      go_wp2
      have k0 : IntKind.i64.wrap 0 = 0 := by decide
      have k1 : IntKind.u32.wrap (n : Int) = n := by simp [IntKind.wrap, IntKind.bits, IntKind.signed]; omega
      go_region_law (first | (refine step_append_lies _ rfl (.tmp 26) (.tmp 33) 107 rfl (p + 1) 5 i0 (.int .u8 0) 1 1 Tryz.underlying107 hi hz0 hz1 hz2 rfl (by decide) v1 L.length (byteCells L) rfl (by first | exact ownsRow_drew (hown.alloc _) | exact hown.alloc _) ⟨wr.heap.size, 0, none⟩ 1 1 [.int .u8 (IntKind.u8.wrap (n : Int))] rfl rfl (by intro j u hj; match j, hj with | 0, hj => simp at hj; subst hj; simp [Addr.add]) (by intro u hu; simp at hu; subst hu; rfl) (by decide) (by unfold maxLen; omega) (by omega) (by simp; omega) _ rfl ?_; intro g cap w1 hown1 hgrow hat hlt; obtain ⟨q0, q1, q2, q3⟩ := hw1.after (Obj.cells #[.int .u8 (IntKind.u8.wrap (n : Int))] 5) (by rfl) hgrow))
      all_goals
        clear k0 k1
        obtain ⟨d1, d2, d3⟩ := hw1.done (Obj.cells #[.int .u8 (IntKind.u8.wrap (n : Int))] 5) (by rfl) (by rfl) (by rfl) (by rfl) hgrow (UInt8.ofNat n) (IntKind.u8.wrap (n : Int)) (u8wrap n) hown1 (by simpa using hat)
        go_wp2
        go_roundw
        case rel => exact ⟨0, -1, _, by omega, by omega, rfl, by rw [show l ++ (be n 2).take (2 - 0) = L ++ [UInt8.ofNat n] by rw [← HL.out]; simp [be, Nat.div_div_eq_div_mul]]; exact d1, hch.trans hli d2, hli.trans hch.size d3⟩
        case measure => simp [intOf]
    · obtain rfl : j = 1 := by omega
      have he1 := hw1.e
      have hb1 := hw1.b
      have hf1 := hw1.f1
      have hown := hw1.own
      have hp : p < wr.heap.size := lt_of_cell he1
      generalize hL : l ++ (be n 2).take (2 - 2) = L at hw1 hlen hown
      have HL := Lib.hid hL
      have HJ := Lib.hid hj
      clear hL hj he1
      go_wp2
      have k0 : IntKind.i64.wrap 8 = 8 := by decide
      have k1 : IntKind.u32.wrap (n : Int) = n := by simp [IntKind.wrap, IntKind.bits, IntKind.signed]; omega
      go_region_law (first | (refine step_append_lies _ rfl (.tmp 26) (.tmp 33) 107 rfl (p + 1) 5 i0 (.int .u8 0) 1 1 Tryz.underlying107 hi hz0 hz1 hz2 rfl (by decide) v1 L.length (byteCells L) rfl (by first | exact ownsRow_drew (hown.alloc _) | exact hown.alloc _) ⟨wr.heap.size, 0, none⟩ 1 1 [.int .u8 (IntKind.u8.wrap ((n : Int) / 256))] rfl rfl (by intro j u hj; match j, hj with | 0, hj => simp at hj; subst hj; simp [Addr.add]) (by intro u hu; simp at hu; subst hu; rfl) (by decide) (by unfold maxLen; omega) (by omega) (by simp; omega) _ rfl ?_; intro g cap w1 hown1 hgrow hat hlt; obtain ⟨q0, q1, q2, q3⟩ := hw1.after (Obj.cells #[.int .u8 (IntKind.u8.wrap ((n : Int) / 256))] 5) (by rfl) hgrow))
      all_goals
        clear k0 k1
        obtain ⟨d1, d2, d3⟩ := hw1.done (Obj.cells #[.int .u8 (IntKind.u8.wrap ((n : Int) / 256))] 5) (by rfl) (by rfl) (by rfl) (by rfl) hgrow (UInt8.ofNat (n / 256)) (IntKind.u8.wrap ((n : Int) / 256)) (u8wrap (n / 256)) hown1 (by simpa using hat)
        go_wp2
        go_roundw
        case rel => exact ⟨1, 0, _, by omega, by omega, rfl, by rw [show l ++ (be n 2).take (2 - 1) = L ++ [UInt8.ofNat (n / 256)] by rw [← HL.out]; simp [be, Nat.div_div_eq_div_mul]]; exact d1, hch.trans hli d2, hli.trans hch.size d3⟩
        case measure => simp [intOf]

set_option maxHeartbeats 1000000 in
theorem put32_c (n p : Nat) (v : Value) (l : List UInt8) (w : World) (hn : n < 4294967296) (hw : WrAt w p v l) (hl : l.length < 100000) :
    Calls Tryz.prog 171 #[.pointer (some ⟨p, 0, none⟩), .int .u32 n, .int .i64 4] w fun e w' => e = .returned (.tuple #[]) ∧ ∃ v', WrAt w' p v' (l ++ be n 4) ∧ Ch p v w w' ∧ Lies w v v' := by
  have he := hw.e
  obtain ⟨i0, hi, hz0, hz1, hz2⟩ := info_parts Tryz.infoU8
  go_enter Tryz.func171, Tryz.ntmps171
  go_wp2_with (go_at_call 175; refine (well_c p _ he).mono ?_; rintro e w1 ⟨rfl, rfl⟩)
  clear he
  go_loopw [6] (fun i wr => ∃ (k : Nat) (j : Int) (v1 : Value), k ≤ 4 ∧ j = (k : Int) - 1 ∧ i = .int .i64 j ∧ WrAt wr p v1 (l ++ (be n 4).take (4 - k)) ∧ Ch p v w wr ∧ Lies w v v1) (fun i _ => (intOf i + 1).toNat)
  case atStart => exact ⟨4, 3, v, Nat.le_refl _, rfl, rfl, by simpa using hw, Ch.refl _ _ _, .inl rfl⟩
  case round =>
    obtain ⟨k, j, v1, hk, hj, rfl, hw1, hch, hli⟩ := hrel
    have hlen : (l ++ (be n 4).take (4 - k)).length < 100004 := by simp [be_len]; omega
    rcases (show k = 0 ∨ k = 1 ∨ k = 2 ∨ k = 3 ∨ k = 4 by omega) with rfl | rfl | rfl | rfl | rfl
    · obtain rfl : j = -1 := by omega
      clear hj
      go_wp2
      go_end0
      exact ⟨rfl, v1, by rw [show (be n 4).take (4 - 0) = be n 4 from List.take_of_length_le (by rw [be_len]; omega)] at hw1; exact hw1, hch, hli⟩
    · obtain rfl : j = 0 := by omega
      have he1 := hw1.e
      have hb1 := hw1.b
      have hf1 := hw1.f1
      have hown := hw1.own
      have hp : p < wr.heap.size := lt_of_cell he1
      generalize hL : l ++ (be n 4).take (4 - 1) = L at hw1 hlen hown
      have HL := Lib.hid hL
      have HJ := Lib.hid hj
      clear hL hj he1
      go_wp2
      have k0 : IntKind.i64.wrap 0 = 0 := by decide
      have k1 : IntKind.u32.wrap (n : Int) = n := by simp [IntKind.wrap, IntKind.bits, IntKind.signed]; omega
      go_region_law (first | (refine step_append_lies _ rfl (.tmp 26) (.tmp 32) 107 rfl (p + 1) 5 i0 (.int .u8 0) 1 1 Tryz.underlying107 hi hz0 hz1 hz2 rfl (by decide) v1 L.length (byteCells L) rfl (by first | exact ownsRow_drew (hown.alloc _) | exact hown.alloc _) ⟨wr.heap.size, 0, none⟩ 1 1 [.int .u8 (IntKind.u8.wrap (n : Int))] rfl rfl (by intro j u hj; match j, hj with | 0, hj => simp at hj; subst hj; simp [Addr.add]) (by intro u hu; simp at hu; subst hu; rfl) (by decide) (by unfold maxLen; omega) (by omega) (by simp; omega) _ rfl ?_; intro g cap w1 hown1 hgrow hat hlt; obtain ⟨q0, q1, q2, q3⟩ := hw1.after (Obj.cells #[.int .u8 (IntKind.u8.wrap (n : Int))] 5) (by rfl) hgrow))
      all_goals
        clear k0 k1
        obtain ⟨d1, d2, d3⟩ := hw1.done (Obj.cells #[.int .u8 (IntKind.u8.wrap (n : Int))] 5) (by rfl) (by rfl) (by rfl) (by rfl) hgrow (UInt8.ofNat n) (IntKind.u8.wrap (n : Int)) (u8wrap n) hown1 (by simpa using hat)
        go_wp2
        go_roundw
        case rel => exact ⟨0, -1, _, by omega, by omega, rfl, by rw [show l ++ (be n 4).take (4 - 0) = L ++ [UInt8.ofNat n] by rw [← HL.out]; simp [be, Nat.div_div_eq_div_mul]]; exact d1, hch.trans hli d2, hli.trans hch.size d3⟩
        case measure => simp [intOf]
    · obtain rfl : j = 1 := by omega
      have he1 := hw1.e
      have hb1 := hw1.b
      have hf1 := hw1.f1
      have hown := hw1.own
      have hp : p < wr.heap.size := lt_of_cell he1
      generalize hL : l ++ (be n 4).take (4 - 2) = L at hw1 hlen hown
      have HL := Lib.hid hL
      have HJ := Lib.hid hj
      clear hL hj he1
      go_wp2
      have k0 : IntKind.i64.wrap 8 = 8 := by decide
      have k1 : IntKind.u32.wrap (n : Int) = n := by simp [IntKind.wrap, IntKind.bits, IntKind.signed]; omega
      go_region_law (first | (refine step_append_lies _ rfl (.tmp 26) (.tmp 32) 107 rfl (p + 1) 5 i0 (.int .u8 0) 1 1 Tryz.underlying107 hi hz0 hz1 hz2 rfl (by decide) v1 L.length (byteCells L) rfl (by first | exact ownsRow_drew (hown.alloc _) | exact hown.alloc _) ⟨wr.heap.size, 0, none⟩ 1 1 [.int .u8 (IntKind.u8.wrap ((n : Int) / 256))] rfl rfl (by intro j u hj; match j, hj with | 0, hj => simp at hj; subst hj; simp [Addr.add]) (by intro u hu; simp at hu; subst hu; rfl) (by decide) (by unfold maxLen; omega) (by omega) (by simp; omega) _ rfl ?_; intro g cap w1 hown1 hgrow hat hlt; obtain ⟨q0, q1, q2, q3⟩ := hw1.after (Obj.cells #[.int .u8 (IntKind.u8.wrap ((n : Int) / 256))] 5) (by rfl) hgrow))
      all_goals
        clear k0 k1
        obtain ⟨d1, d2, d3⟩ := hw1.done (Obj.cells #[.int .u8 (IntKind.u8.wrap ((n : Int) / 256))] 5) (by rfl) (by rfl) (by rfl) (by rfl) hgrow (UInt8.ofNat (n / 256)) (IntKind.u8.wrap ((n : Int) / 256)) (u8wrap (n / 256)) hown1 (by simpa using hat)
        go_wp2
        go_roundw
        case rel => exact ⟨1, 0, _, by omega, by omega, rfl, by rw [show l ++ (be n 4).take (4 - 1) = L ++ [UInt8.ofNat (n / 256)] by rw [← HL.out]; simp [be, Nat.div_div_eq_div_mul]]; exact d1, hch.trans hli d2, hli.trans hch.size d3⟩
        case measure => simp [intOf]
    · obtain rfl : j = 2 := by omega
      have he1 := hw1.e
      have hb1 := hw1.b
      have hf1 := hw1.f1
      have hown := hw1.own
      have hp : p < wr.heap.size := lt_of_cell he1
      generalize hL : l ++ (be n 4).take (4 - 3) = L at hw1 hlen hown
      have HL := Lib.hid hL
      have HJ := Lib.hid hj
      clear hL hj he1
      go_wp2
      have k0 : IntKind.i64.wrap 16 = 16 := by decide
      have k1 : IntKind.u32.wrap (n : Int) = n := by simp [IntKind.wrap, IntKind.bits, IntKind.signed]; omega
      go_region_law (first | (refine step_append_lies _ rfl (.tmp 26) (.tmp 32) 107 rfl (p + 1) 5 i0 (.int .u8 0) 1 1 Tryz.underlying107 hi hz0 hz1 hz2 rfl (by decide) v1 L.length (byteCells L) rfl (by first | exact ownsRow_drew (hown.alloc _) | exact hown.alloc _) ⟨wr.heap.size, 0, none⟩ 1 1 [.int .u8 (IntKind.u8.wrap ((n : Int) / 65536))] rfl rfl (by intro j u hj; match j, hj with | 0, hj => simp at hj; subst hj; simp [Addr.add]) (by intro u hu; simp at hu; subst hu; rfl) (by decide) (by unfold maxLen; omega) (by omega) (by simp; omega) _ rfl ?_; intro g cap w1 hown1 hgrow hat hlt; obtain ⟨q0, q1, q2, q3⟩ := hw1.after (Obj.cells #[.int .u8 (IntKind.u8.wrap ((n : Int) / 65536))] 5) (by rfl) hgrow))
      all_goals
        clear k0 k1
        obtain ⟨d1, d2, d3⟩ := hw1.done (Obj.cells #[.int .u8 (IntKind.u8.wrap ((n : Int) / 65536))] 5) (by rfl) (by rfl) (by rfl) (by rfl) hgrow (UInt8.ofNat (n / 65536)) (IntKind.u8.wrap ((n : Int) / 65536)) (u8wrap (n / 65536)) hown1 (by simpa using hat)
        go_wp2
        go_roundw
        case rel => exact ⟨2, 1, _, by omega, by omega, rfl, by rw [show l ++ (be n 4).take (4 - 2) = L ++ [UInt8.ofNat (n / 65536)] by rw [← HL.out]; simp [be, Nat.div_div_eq_div_mul]]; exact d1, hch.trans hli d2, hli.trans hch.size d3⟩
        case measure => simp [intOf]
    · obtain rfl : j = 3 := by omega
      have he1 := hw1.e
      have hb1 := hw1.b
      have hf1 := hw1.f1
      have hown := hw1.own
      have hp : p < wr.heap.size := lt_of_cell he1
      generalize hL : l ++ (be n 4).take (4 - 4) = L at hw1 hlen hown
      have HL := Lib.hid hL
      have HJ := Lib.hid hj
      clear hL hj he1
      go_wp2
      have k0 : IntKind.i64.wrap 24 = 24 := by decide
      have k1 : IntKind.u32.wrap (n : Int) = n := by simp [IntKind.wrap, IntKind.bits, IntKind.signed]; omega
      go_region_law (first | (refine step_append_lies _ rfl (.tmp 26) (.tmp 32) 107 rfl (p + 1) 5 i0 (.int .u8 0) 1 1 Tryz.underlying107 hi hz0 hz1 hz2 rfl (by decide) v1 L.length (byteCells L) rfl (by first | exact ownsRow_drew (hown.alloc _) | exact hown.alloc _) ⟨wr.heap.size, 0, none⟩ 1 1 [.int .u8 (IntKind.u8.wrap ((n : Int) / 16777216))] rfl rfl (by intro j u hj; match j, hj with | 0, hj => simp at hj; subst hj; simp [Addr.add]) (by intro u hu; simp at hu; subst hu; rfl) (by decide) (by unfold maxLen; omega) (by omega) (by simp; omega) _ rfl ?_; intro g cap w1 hown1 hgrow hat hlt; obtain ⟨q0, q1, q2, q3⟩ := hw1.after (Obj.cells #[.int .u8 (IntKind.u8.wrap ((n : Int) / 16777216))] 5) (by rfl) hgrow))
      all_goals
        clear k0 k1
        obtain ⟨d1, d2, d3⟩ := hw1.done (Obj.cells #[.int .u8 (IntKind.u8.wrap ((n : Int) / 16777216))] 5) (by rfl) (by rfl) (by rfl) (by rfl) hgrow (UInt8.ofNat (n / 16777216)) (IntKind.u8.wrap ((n : Int) / 16777216)) (u8wrap (n / 16777216)) hown1 (by simpa using hat)
        go_wp2
        go_roundw
        case rel => exact ⟨3, 2, _, by omega, by omega, rfl, by rw [show l ++ (be n 4).take (4 - 3) = L ++ [UInt8.ofNat (n / 16777216)] by rw [← HL.out]; simp [be, Nat.div_div_eq_div_mul]]; exact d1, hch.trans hli d2, hli.trans hch.size d3⟩
        case measure => simp [intOf]
end Go.Proofs.YtfklgaeejmeipaaGreatDoor

/- The walks of umpire/codec's Writer: its methods. No condition but that there is no error, and how long what is written is at most. -/
namespace Go.Proofs.YtfklgaeejmeipaaGreatDoor
open Go.RowKit

/-- The writer in block 'p' has written 'l'; nothing turned but its own block and row. -/
def Wrote (p : Nat) (v : Value) (l : List UInt8) (w w' : World) : Prop := ∃ v', WrAt w' p v' l ∧ Ch p v w w' ∧ Lies w v v'

theorem U8_c (n p : Nat) (v : Value) (l : List UInt8) (w : World) (hn : n < 256) (hw : WrAt w p v l) (hl : l.length < 100000) :
    Calls Tryz.prog 140 #[.pointer (some ⟨p, 0, none⟩), .int .u8 n] w fun e w' => e = .returned (.tuple #[]) ∧ Wrote p v (l ++ be n 1) w w' := by
  go_enter Tryz.func140, Tryz.ntmps140
  go_wp2_with (go_at_call 169; refine (put8_c n p v l _ hn hw hl).mono ?_; rintro e w1 ⟨rfl, h⟩; have H : Wrote p v (l ++ be n 1) w w1 := h; clear h)
  go_end0
  exact ⟨rfl, H⟩
theorem U16_c (n p : Nat) (v : Value) (l : List UInt8) (w : World) (hn : n < 65536) (hw : WrAt w p v l) (hl : l.length < 100000) :
    Calls Tryz.prog 141 #[.pointer (some ⟨p, 0, none⟩), .int .u16 n] w fun e w' => e = .returned (.tuple #[]) ∧ Wrote p v (l ++ be n 2) w w' := by
  go_enter Tryz.func141, Tryz.ntmps141
  go_wp2_with (go_at_call 170; refine (put16_c n p v l _ hn hw hl).mono ?_; rintro e w1 ⟨rfl, h⟩; have H : Wrote p v (l ++ be n 2) w w1 := h; clear h)
  go_end0
  exact ⟨rfl, H⟩
theorem U32_c (n p : Nat) (v : Value) (l : List UInt8) (w : World) (hn : n < 4294967296) (hw : WrAt w p v l) (hl : l.length < 100000) :
    Calls Tryz.prog 142 #[.pointer (some ⟨p, 0, none⟩), .int .u32 n] w fun e w' => e = .returned (.tuple #[]) ∧ Wrote p v (l ++ be n 4) w w' := by
  go_enter Tryz.func142, Tryz.ntmps142
  go_wp2_with (go_at_call 171; refine (put32_c n p v l _ hn hw hl).mono ?_; rintro e w1 ⟨rfl, h⟩; have H : Wrote p v (l ++ be n 4) w w1 := h; clear h)
  go_end0
  exact ⟨rfl, H⟩

/-- 'string(b)' at a slice that the call owns. -/
theorem conv_own {w : World} {base : Nat} {v : Value} {l : List UInt8} (h : w.ownsRow base 5 1 v l.length (byteCells l)) : (convert 107 9 v).run Tryz.prog w = .ok (.string ⟨l.toArray⟩) w := by
  rcases h.2 with ⟨rfl, h0⟩ | ⟨g, cap, cur, rfl, hg, hh, hc, hm, hs, ht⟩
  · obtain rfl : l = [] := List.eq_nil_of_length_eq_zero h0
    exact run_convert_bytes_nil w 107 5 Tryz.underlying107 Tryz.underlying5 0 0 _ Tryz.underlying9
  · refine run_convert_bytes_back w 107 9 5 _ cap l Tryz.underlying107 Tryz.underlying5 Tryz.underlying9 fun j hj => ?_
    exact h.cells rfl j _ (by simp [byteCells, hj])
/-- What a writer has written, as a string. -/
theorem Bytes_c (p : Nat) (v : Value) (l : List UInt8) (w : World) (hw : WrAt w p v l) :
    Calls Tryz.prog 178 #[.pointer (some ⟨p, 0, none⟩)] w fun e w' => e = .returned (.tuple #[.string ⟨l.toArray⟩, .int .i64 0]) ∧ w = w' := by
  have he := hw.e
  have hb := hw.b
  have hcv := conv_own hw.own
  go_enter Tryz.func178, Tryz.ntmps178
  go_wp2_with (go_at_call 175; refine (well_c p _ he).mono ?_; rintro e w1 ⟨rfl, rfl⟩)
  go_ret2
  exact ⟨rfl, rfl⟩

/-- Where a string's bytes are appended: onto the old row, or onto a new one. -/
theorem append_string_lies {P : Program} (w : World) (base : Nat) (t u ty e : TypeId) (i : TypeInfo) (ht : P.underlying t = some (.slice e)) (hu : P.underlying u = some .string) (hi : P.info? e = some i) (hz : i.zero = some (.int .u8 0)) (hsize : i.size = 1) (hby : i.bytes = 1)
    (v : Value) (n : Nat) (xs : List Value) (hown : w.ownsRow base e 1 v n xs) (s : ByteArray) (hm : n + s.size ≤ 140737488355328) (hb : base ≤ w.heap.size) :
    ∃ v' w', (Builtin.append_ #[t, u] ty #[v, .string s]).run P w = .ok v' w' ∧ w'.ownsRow base e 1 v' (n + s.size) (xs ++ Lib.strCells s) ∧ w.grownBy w' v.ownBlock ∧ Lies w v v' := by
  obtain ⟨v', w', hr, ho, hg, hiff⟩ := Lib.run_append_own_string (P := P) w base t u ty e i ht hu hi hz hsize hby v n xs hown s (by unfold maxLen; omega) hm hb
  refine ⟨v', w', hr, ho, hg, ?_⟩
  rcases hown.2 with ⟨rfl, rfl⟩ | ⟨g, cap, cur, rfl, hbg, hh, hc, hcm, hcs, htake⟩
  · by_cases h0 : s.size = 0
    · rw [hiff.2 ⟨rfl, h0⟩]; exact .inl rfl
    · have h := run_append_nil_string (P := P) w t u ty e i (.int .u8 0) ht hu hi hz s (by omega) (by omega) (by rw [hby]; omega)
      rw [hr] at h
      obtain ⟨rfl, _⟩ := Result.ok.inj h
      exact .inr ⟨_, rfl, Nat.le_refl _⟩
  · by_cases hroom : n + s.size ≤ cap
    · have h := Lib.run_append_room_string (P := P) w t u ty e i ht hu hi hsize g n cap cur hh s hroom (by rw [hcs]; omega)
      rw [hr] at h
      obtain ⟨rfl, _⟩ := Result.ok.inj h
      exact .inl rfl
    · have holds : ∀ j u, xs[j]? = some u → w.cell? ((⟨g, 0, none⟩ : Addr).add j) = some u := hown.cells (g := g) rfl
      have h := Lib.run_append_grow_string (P := P) w t u ty e i (.int .u8 0) ht hu hi hz ⟨g, 0, none⟩ n cap xs (by rw [hsize]; exact hown.1) holds s (by omega) (by omega) (by rw [hby]; exact growslice_fits (by omega) (by omega))
      rw [hr] at h
      obtain ⟨rfl, _⟩ := Result.ok.inj h
      exact .inr ⟨_, rfl, Nat.le_refl _⟩

/-- An append whose run is known, for the walk. -/
theorem wpList_append_known {P : Program} {w : World} {ops : Array Oper} {rest : List Oper} {o : Oper} {a : Act} {Q : Exit → Act → World → Prop} (hgd : o.guard = none) (sl x : Operand) (t u : TypeId)
    (ho : o.op = .call { callee := .builtin .append, args := #[sl, x], argTypes := #[t, u] }) (v y : Value) (hs : a.eval sl = v) (hx : a.eval x = y) (v' : Value) (w' : World)
    (hr : Hid ((Builtin.append_ #[t, u] o.type #[v, y]).run P w = .ok v' w')) (h : wpList P ops Q rest (a.put o.dst v') w') : wpList P ops Q (o :: rest) a w := by
  refine wpList_plain hgd fun K hK => ?_
  unfold Oper.wp execOp
  simp only [ho, resolve, invoke, builtin, Sem.run_bind, Sem.run_pure, Result.andThen_ok, List.map_toArray, List.map_cons, List.map_nil, hs, hx, hr.out]
  exact hK _ _ h

/-- A string's bytes, written. -/
theorem wRaw_c (p : Nat) (v : Value) (l : List UInt8) (s : ByteArray) (w : World) (hw : WrAt w p v l) (hl : l.length < 100000) (hs : s.size < 100000) :
    Calls Tryz.prog 148 #[.pointer (some ⟨p, 0, none⟩), .string s] w fun e w' => e = .returned (.tuple #[]) ∧ Wrote p v (l ++ s.data.toList) w w' := by
  have he := hw.e
  have hb := hw.b
  have hp : p < w.heap.size := lt_of_cell he
  obtain ⟨i0, hi, hz0, hz1, hz2⟩ := info_parts Tryz.infoU8
  obtain ⟨v1, w1, hrun, hown1, hgrow, hlies⟩ := append_string_lies (P := Tryz.prog) w (p + 1) 107 9 107 5 i0 Tryz.underlying107 Tryz.underlying9 hi hz0 hz1 hz2 v l.length (byteCells l) hw.own s (by omega) (by omega)
  have hb1 : w1.heap[p]? = w.heap[p]? := hgrow.block p hp hw.ne
  have q0 := (World.cell?_of_block (a := ⟨p, 0, none⟩) hb1).trans hw.e
  have q1 := (World.cell?_of_block (a := ⟨p, 1, none⟩) hb1).trans hw.b
  have q2 := (World.frozen?_of_block (a := ⟨p, 0, none⟩) hb1).trans hw.f0
  have q3 := (World.frozen?_of_block (a := ⟨p, 1, none⟩) hb1).trans hw.f1
  have hsl : ∃ a n c, v1 = .slice a n c := by
    rcases hown1.2 with ⟨rfl, _⟩ | ⟨g, cap, cur, rfl, _⟩
    · exact ⟨_, _, _, rfl⟩
    · exact ⟨_, _, _, rfl⟩
  obtain ⟨a1, n1, c1, rfl⟩ := hsl
  have hfin : Wrote p v (l ++ s.data.toList) w (w1.setCell ⟨p, 1, none⟩ (.slice a1 n1 c1)) := by
    refine ⟨_, ⟨?_, World.cell?_setCell_same _ _ _ q1, (World.frozen?_setCell ..).trans q2, (World.frozen?_setCell ..).trans q3, ?_⟩, ((Ch.refl p v w).grown hgrow (.inl rfl)).setCell 1 _, hlies⟩
    · rw [World.cell?_setCell_other _ _ _ _ (by simp)]; exact q0
    · have e : (l ++ s.data.toList).length = l.length + s.size := by rw [List.length_append, Array.length_toList]; rfl
      rw [byteCells_append, e]
      refine ownsRow_setCell_below (by simpa [byteCells, Lib.strCells] using hown1) (by simp) _
  have HF := Lib.hid hfin
  clear hfin hlies hown1 hb1 hi hz0 hz1 hz2 q0 q2
  have HG := Lib.hid hgrow
  have HR := Lib.hid hrun
  clear hgrow hl hs hw hrun
  go_enter Tryz.func148, Tryz.ntmps148
  go_wp2_with (first | (go_at_call 175; refine (well_c p _ he).mono ?_; rintro e w1 ⟨rfl, rfl⟩) | (at_builtin; refine wpList_append_known rfl (.tmp 16) (.tmp 17) 107 9 rfl v (.string s) rfl rfl _ _ HR ?_))
  go_end0
  exact ⟨rfl, HF.out⟩

theorem Wrote.below {p : Nat} {v : Value} {l l0 : List UInt8} {w w' : World} (h : Wrote p v l w w') (hw : WrAt w p v l0) : Below p w w' := by
  obtain ⟨v', _, hc, _⟩ := h
  have hp : p < w.heap.size := lt_of_cell hw.e
  exact ⟨hc.os, hc.tape, hc.output, hc.size, fun k hk => hc.block k (by omega) (by omega) (fun e => by have := (hw.own.lt k e.symm).1; omega)⟩

/-- Numbers of 16 bits, as cells. -/
def u16Cells (l : List Nat) : List Value := l.map fun n : Nat => Value.int .u16 (n : Int)
def listBytes (l : List Nat) : List UInt8 := be l.length 1 ++ l.flatMap fun n => be n 2

theorem flat2_len (l : List Nat) : (l.flatMap fun n => be n 2).length = 2 * l.length := by
  induction l with
  | nil => rfl
  | cons a l ih => simp [List.flatMap_cons, be_len, ih]; omega

theorem List_c (p : Nat) (v sl : Value) (l : List UInt8) (nums : List Nat) (w : World) (hw : WrAt w p v l) (hl : l.length < 90000) (hs : SlAt w (· < p) sl nums.length (u16Cells nums)) (hn : ∀ n ∈ nums, n < 65536) (hlen : nums.length ≤ 255) :
    Calls Tryz.prog 158 #[.pointer (some ⟨p, 0, none⟩), sl] w fun e w' => e = .returned (.tuple #[]) ∧ Wrote p v (l ++ listBytes nums) w w' := by
  obtain ⟨a, cap, rfl, hcap, hmax, hform⟩ := hs
  unfold maxLen at hmax
  have hxs := hform
  clear hform
  go_enter Tryz.func158, Tryz.ntmps158
  go_wp2_with (go_at_call 140; refine (U8_c nums.length p v l _ (by omega) hw (by omega)).mono ?_; rintro e w1 ⟨rfl, H⟩)
  have hb0 := H.below hw
  obtain ⟨v1, hw1, hc1, hl1⟩ := H
  go_loopw [22] (fun i wr => ∃ (k : Nat) (v2 : Value), k ≤ nums.length ∧ i = .int .i64 k ∧ WrAt wr p v2 (l ++ be nums.length 1 ++ (nums.take k).flatMap fun n => be n 2) ∧ Ch p v w wr ∧ Lies w v v2) (fun i _ => nums.length - (intOf i).toNat)
  case atStart => exact ⟨0, v1, Nat.zero_le _, rfl, by simpa using hw1, hc1, hl1⟩
  case round =>
    obtain ⟨k, v2, hk, rfl, hw2, hc2, hl2⟩ := hrel
    by_cases hlt : k < nums.length
    · have hbel : Below p w wr := Wrote.below ⟨v2, hw2, hc2, hl2⟩ hw
      have hcell : ∃ b off, a = some ⟨b, off, none⟩ ∧ wr.cell? ⟨b, off + k, none⟩ = some (.int .u16 (nums[k] : Int)) := by
        rcases hxs with hxs | ⟨b, off, rfl, hlt', _, hc⟩
        · simp [u16Cells] at hxs; subst hxs; simp at hlt
        · exact ⟨b, off, rfl, (Below.cell (p := ⟨b, off + k, none⟩) hbel hlt').trans (hc k _ (by simp [u16Cells, hlt]))⟩
      obtain ⟨b, off, rfl, hcell⟩ := hcell
      have hnk := hn nums[k] (List.getElem_mem hlt)
      have hlen2 : (l ++ be nums.length 1 ++ (nums.take k).flatMap fun n => be n 2).length < 100000 := by
        rw [List.length_append, List.length_append, be_len, flat2_len]; simp; omega
      have ht : nums.take (k + 1) = nums.take k ++ [nums[k]] := List.take_succ_eq_append_getElem hlt
      have HT := Lib.hid ht
      clear ht hxs
      go_wp2_with (go_at_call 141; refine (U16_c nums[k] p v2 _ _ hnk hw2 hlen2).mono ?_; rintro e w3 ⟨rfl, H3⟩)
      obtain ⟨v3, hw3, hc3, hl3⟩ := H3
      go_wp2
      go_roundw
      case rel => exact ⟨k + 1, v3, by omega, by go_num, by rw [HT.out, List.flatMap_append, ← List.append_assoc]; simpa using hw3, hc2.trans hl2 hc3, hl2.trans hc2.size hl3⟩
      case measure => simp [intOf]; omega
    · go_wp2
      go_end0
      exact ⟨rfl, v2, by rw [List.take_of_length_le (by omega)] at hw2; simpa [listBytes] using hw2, hc2, hl2⟩
end Go.Proofs.YtfklgaeejmeipaaGreatDoor

/- Two lists of numbers, or of micros: the same or not. No condition but that both can be read. -/
namespace Go.Proofs.YtfklgaeejmeipaaGreatDoor
open Go.RowKit

/-- A call that only drew. -/
def Dr (w w' : World) : Prop := ∃ n, w' = w.drewN n
theorem Dr.refl (w : World) : Dr w w := ⟨0, rfl⟩
theorem Dr.drewN {w w' : World} (h : Dr w w') (n : Nat) : Dr w (w'.drewN n) := by
  obtain ⟨m, rfl⟩ := h; exact ⟨m + n, World.drewN_drewN ..⟩
theorem Dr.fr {w w' : World} (h : Dr w w') : Fr w w' := by
  obtain ⟨m, rfl⟩ := h; exact (Fr.refl _).drewN _
theorem Dr.trans {a b c : World} (h : Dr a b) (k : Dr b c) : Dr a c := by
  obtain ⟨m, rfl⟩ := k; exact h.drewN m
abbrev Any : Nat → Prop := fun _ => True
/-- A list of numbers of 16 bits that can be read. -/
def Rd16 (w : World) (v : Value) (l : List Nat) : Prop := SlAt w Any v l.length (u16Cells l)
theorem Rd16.keep {w w' : World} {v : Value} {l : List Nat} (h : Rd16 w v l) (f : Fr w w') : Rd16 w' v l := SlAt.fr h f
theorem SlAt.at {w : World} {Z : Nat → Prop} {a : Option Addr} {n cap : Nat} {xs : List Value} (h : xs = [] ∨ ∃ b off, a = some ⟨b, off, none⟩ ∧ Z b ∧ b < w.heap.size ∧ ∀ j u, xs[j]? = some u → w.cell? ⟨b, off + j, none⟩ = some u) (hne : xs ≠ []) : ∃ b off, a = some ⟨b, off, none⟩ ∧ b < w.heap.size ∧ ∀ j u, xs[j]? = some u → w.cell? ⟨b, off + j, none⟩ = some u := by
  rcases h with h | ⟨b, off, h1, _, h2, h3⟩
  · exact absurd h hne
  · exact ⟨b, off, h1, h2, h3⟩
theorem take_next {α : Type} {l m : List α} {k : Nat} (h : l.take k = m.take k) (hl : k < l.length) (hm : k < m.length) (he : l[k] = m[k]) : l.take (k + 1) = m.take (k + 1) := by
  rw [List.take_succ_eq_append_getElem hl, List.take_succ_eq_append_getElem hm, h, he]
theorem ne_at {α : Type} {l m : List α} {k : Nat} (hl : k < l.length) (hm : k < m.length) (he : ¬ l[k] = m[k]) : ¬ l = m := by
  intro h; subst h; exact he rfl
theorem eq_all {α : Type} {l m : List α} {k : Nat} (h : l.take k = m.take k) (hl : ¬ k < l.length) (hlen : l.length = m.length) : l = m := by
  rw [List.take_of_length_le (by omega), List.take_of_length_le (by omega)] at h; exact h

/-- A micro-operation. -/
structure Mic where
  read : Bool
  key : Nat
  v : Nat
  deriving DecidableEq
def Mic.cells (m : Mic) : List Value := [.bool m.read, .int .u8 m.key, .int .u16 m.v]
def Mic.val (m : Mic) : Value := .agg #[.bool m.read, .int .u8 m.key, .int .u16 m.v]
def micCells (l : List Mic) : List Value := l.flatMap Mic.cells
theorem micCells_at : ∀ (l : List Mic) (k : Nat) (h : k < l.length), (micCells l)[k * 3]? = some (.bool l[k].read) ∧ (micCells l)[k * 3 + 1]? = some (.int .u8 l[k].key) ∧ (micCells l)[k * 3 + 2]? = some (.int .u16 l[k].v)
  | m :: l, 0, _ => by simp [micCells, Mic.cells]
  | m :: l, k + 1, h => by
    have ih := micCells_at l k (by simpa using h)
    have e : (k + 1) * 3 = k * 3 + 1 + 1 + 1 := by omega
    simp only [micCells, List.flatMap_cons, Mic.cells, List.cons_append, List.nil_append, e, List.getElem?_cons_succ, List.getElem_cons_succ] at ih ⊢
    exact ih
/-- A list of micros that can be read. -/
def RdM (w : World) (v : Value) (l : List Mic) : Prop := SlAt w Any v l.length (micCells l)
theorem RdM.keep {w w' : World} {v : Value} {l : List Mic} (h : RdM w v l) (f : Fr w w') : RdM w' v l := SlAt.fr h f
theorem mic_ne_nil {l : List Mic} {k : Nat} (h : k < l.length) : micCells l ≠ [] := by
  intro e
  have := (micCells_at l k h).1
  rw [e] at this; simp at this
theorem micAt {w wr : World} {b o k : Nat} {l : List Mic} (hfr : Fr w wr) (hc : ∀ j u, (micCells l)[j]? = some u → w.cell? ⟨b, o + j, none⟩ = some u) (h : k < l.length) : wr.cell? ⟨b, o + k * 3, none⟩ = some (.bool l[k].read) ∧ wr.cell? ⟨b, o + k * 3 + 1, none⟩ = some (.int .u8 l[k].key) ∧ wr.cell? ⟨b, o + k * 3 + 2, none⟩ = some (.int .u16 l[k].v) := by
  obtain ⟨h1, h2, h3⟩ := micCells_at l k h
  exact ⟨hfr.keep (hc _ _ h1), hfr.keep (hc _ _ h2), hfr.keep (hc _ _ h3)⟩
theorem mic_neq (x y : Mic) (W : World) : (binOp .neq 58 (.agg #[.bool x.read, .int .u8 x.key, .int .u16 x.v]) (.agg #[.bool y.read, .int .u8 y.key, .int .u16 y.v])).run Tryz.prog W = .ok (.bool (decide (x ≠ y))) W := by
  obtain ⟨a, b, c⟩ := x
  obtain ⟨a', b', c'⟩ := y
  by_cases h1 : a = a' <;> by_cases h2 : b = b' <;> by_cases h3 : c = c' <;> simp [go_sem, Tryz.eqGuardType58, Tryz.stoodInHeld58, Tryz.underlying58, h1, h2, h3] <;> (intros; omega)
-- GENERATED BELOW (gen_same.py)
set_option maxRecDepth 100000 in
theorem equal16_c (u v : Value) (l m : List Nat) (w : World) (hu : Rd16 w u l) (hv : Rd16 w v m) :
    Calls Tryz.prog 57 #[u, v] w fun e w' => e = .returned (.bool (decide (l = m))) ∧ Dr w w' := by
  obtain ⟨a, capa, rfl, hca, hma, hxa⟩ := hu
  obtain ⟨b, capb, rfl, hcb, hmb, hxb⟩ := hv
  unfold maxLen at hma hmb
  by_cases hlen : l.length = m.length
  · have hl2 : ((l.length : Int) != m.length) = false := by simp; omega
    go_enter Tryz.func57, Tryz.ntmps57
    go_wp2
    go_loopw [13] (fun i wr => ∃ k : Nat, k ≤ l.length ∧ i = .int .i64 k ∧ l.take k = m.take k ∧ Dr w wr) (fun i _ => l.length - (intOf i).toNat)
    case atStart => exact ⟨0, Nat.zero_le _, rfl, rfl, Dr.refl _⟩
    case round =>
      obtain ⟨k, hk, rfl, htk, hdr⟩ := hrel
      have hfr := hdr.fr
      by_cases hlt : k < l.length
      · have hltm : k < m.length := by omega
        obtain ⟨b1, o1, rfl, hb1, hc1⟩ := SlAt.at (n := 0) (cap := 0) hxa (by simp [u16Cells]; intro h; subst h; simp at hlt)
        obtain ⟨b2, o2, rfl, hb2, hc2⟩ := SlAt.at (n := 0) (cap := 0) hxb (by simp [u16Cells]; intro h; subst h; simp at hltm)
        have hk1 : k < capa := by omega
        have hk2 : k < capb := by omega
        by_cases he : l[k] = m[k]
        · have hT := Lib.hid (take_next htk hlt hltm he)
          have c1 := hfr.keep (hc1 k (.int .u16 l[k]) (by simp [u16Cells, hlt]))
          have c2 := hfr.keep (hc2 k (.int .u16 m[k]) (by simp [u16Cells, hltm]))
          rw [← he] at c2
          generalize l[k] = x at c1 c2
          clear hc1 hc2 hxa hxb htk he
          go_wp2
          go_quiet (fail)
          go_wp2
          go_roundw
          case rel => exact ⟨k + 1, by omega, by go_num, hT.out, by repeat (with_reducible first | assumption | apply Dr.drewN)⟩
          case measure => simp [intOf]; omega
        · have hT := Lib.hid (ne_at hlt hltm he)
          have c1 := hfr.keep (hc1 k (.int .u16 l[k]) (by simp [u16Cells, hlt]))
          have c2 := hfr.keep (hc2 k (.int .u16 m[k]) (by simp [u16Cells, hltm]))
          have hne : ((l[k] : Int) != m[k]) = true := by simp; omega
          generalize l[k] = x at c1 hne
          generalize m[k] = y at c2 hne
          clear hc1 hc2 hxa hxb htk he
          go_wp2
          go_quiet (fail)
          go_wp2
          go_ret
          exact ⟨by rw [decide_eq_false hT.out]; rfl, by repeat (with_reducible first | assumption | apply Dr.drewN)⟩
      · have hT := Lib.hid (eq_all htk hlt hlen)
        go_wp2
        go_ret
        exact ⟨by rw [decide_eq_true hT.out]; rfl, hdr⟩
  · have hl2 : ((l.length : Int) != m.length) = true := by simp; omega
    have hne : l ≠ m := fun h => hlen (by rw [h])
    have hT := Lib.hid hne
    clear hne hlen hxa hxb
    go_enter Tryz.func57, Tryz.ntmps57
    go_wp2
    go_ret
    exact ⟨by rw [decide_eq_false hT.out]; rfl, Dr.refl _⟩
set_option maxRecDepth 100000 in
theorem same16_c (u v : Value) (l m : List Nat) (w : World) (hu : Rd16 w u l) (hv : Rd16 w v m) :
    Calls Tryz.prog 54 #[u, v] w fun e w' => e = .returned (.bool (decide (l = m))) ∧ Dr w w' := by
  obtain ⟨a, capa, rfl, hca, hma, hxa⟩ := hu
  obtain ⟨b, capb, rfl, hcb, hmb, hxb⟩ := hv
  unfold maxLen at hma hmb
  by_cases hlen : l.length = m.length
  · have hl2 : ((l.length : Int) != m.length) = false := by simp; omega
    go_enter Tryz.func54, Tryz.ntmps54
    go_wp2
    go_loopw [5] (fun i wr => ∃ k : Nat, k ≤ l.length ∧ i = .int .i64 k ∧ l.take k = m.take k ∧ Dr w wr) (fun i _ => l.length - (intOf i).toNat)
    case atStart => exact ⟨0, Nat.zero_le _, rfl, rfl, Dr.refl _⟩
    case round =>
      obtain ⟨k, hk, rfl, htk, hdr⟩ := hrel
      have hfr := hdr.fr
      by_cases hlt : k < l.length
      · have hltm : k < m.length := by omega
        obtain ⟨b1, o1, rfl, hb1, hc1⟩ := SlAt.at (n := 0) (cap := 0) hxa (by simp [u16Cells]; intro h; subst h; simp at hlt)
        obtain ⟨b2, o2, rfl, hb2, hc2⟩ := SlAt.at (n := 0) (cap := 0) hxb (by simp [u16Cells]; intro h; subst h; simp at hltm)
        have hk1 : k < capa := by omega
        have hk2 : k < capb := by omega
        by_cases he : l[k] = m[k]
        · have hT := Lib.hid (take_next htk hlt hltm he)
          have c1 := hfr.keep (hc1 k (.int .u16 l[k]) (by simp [u16Cells, hlt]))
          have c2 := hfr.keep (hc2 k (.int .u16 m[k]) (by simp [u16Cells, hltm]))
          rw [← he] at c2
          generalize l[k] = x at c1 c2
          clear hc1 hc2 hxa hxb htk he
          go_wp2
          go_quiet (fail)
          go_wp2
          go_roundw
          case rel => exact ⟨k + 1, by omega, by go_num, hT.out, by repeat (with_reducible first | assumption | apply Dr.drewN)⟩
          case measure => simp [intOf]; omega
        · have hT := Lib.hid (ne_at hlt hltm he)
          have c1 := hfr.keep (hc1 k (.int .u16 l[k]) (by simp [u16Cells, hlt]))
          have c2 := hfr.keep (hc2 k (.int .u16 m[k]) (by simp [u16Cells, hltm]))
          have hne : ((l[k] : Int) != m[k]) = true := by simp; omega
          generalize l[k] = x at c1 hne
          generalize m[k] = y at c2 hne
          clear hc1 hc2 hxa hxb htk he
          go_wp2
          go_quiet (fail)
          go_wp2
          go_ret
          exact ⟨by rw [decide_eq_false hT.out]; rfl, by repeat (with_reducible first | assumption | apply Dr.drewN)⟩
      · have hT := Lib.hid (eq_all htk hlt hlen)
        go_wp2
        go_ret
        exact ⟨by rw [decide_eq_true hT.out]; rfl, hdr⟩
  · have hl2 : ((l.length : Int) != m.length) = true := by simp; omega
    have hne : l ≠ m := fun h => hlen (by rw [h])
    have hT := Lib.hid hne
    clear hne hlen hxa hxb
    go_enter Tryz.func54, Tryz.ntmps54
    go_wp2
    go_ret
    exact ⟨by rw [decide_eq_false hT.out]; rfl, Dr.refl _⟩
set_option maxRecDepth 100000 in
theorem equalMic_c (u v : Value) (l m : List Mic) (w : World) (hu : RdM w u l) (hv : RdM w v m) :
    Calls Tryz.prog 55 #[u, v] w fun e w' => e = .returned (.bool (decide (l = m))) ∧ Dr w w' := by
  obtain ⟨a, capa, rfl, hca, hma, hxa⟩ := hu
  obtain ⟨b, capb, rfl, hcb, hmb, hxb⟩ := hv
  unfold maxLen at hma hmb
  by_cases hlen : l.length = m.length
  · have hl2 : ((l.length : Int) != m.length) = false := by simp; omega
    go_enter Tryz.func55, Tryz.ntmps55
    go_wp2
    go_loopw [13] (fun i wr => ∃ k : Nat, k ≤ l.length ∧ i = .int .i64 k ∧ l.take k = m.take k ∧ Dr w wr) (fun i _ => l.length - (intOf i).toNat)
    case atStart => exact ⟨0, Nat.zero_le _, rfl, rfl, Dr.refl _⟩
    case round =>
      obtain ⟨k, hk, rfl, htk, hdr⟩ := hrel
      have hfr := hdr.fr
      by_cases hlt : k < l.length
      · have hltm : k < m.length := by omega
        obtain ⟨b1, o1, rfl, hb1, hc1⟩ := SlAt.at (n := 0) (cap := 0) hxa (by exact mic_ne_nil hlt)
        obtain ⟨b2, o2, rfl, hb2, hc2⟩ := SlAt.at (n := 0) (cap := 0) hxb (by exact mic_ne_nil hltm)
        have hk1 : k < capa := by omega
        have hk2 : k < capb := by omega
        by_cases he : l[k] = m[k]
        · have hT := Lib.hid (take_next htk hlt hltm he)
          obtain ⟨c10, c11, c12⟩ := micAt hfr hc1 hlt
          obtain ⟨c20, c21, c22⟩ := micAt hfr hc2 hltm
          rw [← he] at c20 c21 c22
          generalize l[k] = x at c10 c11 c12 c20 c21 c22
          clear hc1 hc2 hxa hxb htk he
          go_wp2
          go_quiet (fail)
          go_wp2
          go_roundw
          case rel => exact ⟨k + 1, by omega, by go_num, hT.out, by repeat (with_reducible first | assumption | apply Dr.drewN)⟩
          case measure => simp [intOf]; omega
        · have hT := Lib.hid (ne_at hlt hltm he)
          obtain ⟨c10, c11, c12⟩ := micAt hfr hc1 hlt
          obtain ⟨c20, c21, c22⟩ := micAt hfr hc2 hltm
          have hne := fun W => (mic_neq l[k] m[k] W).trans (by rw [decide_eq_true he])
          generalize l[k] = x at c10 c11 c12 hne
          generalize m[k] = y at c20 c21 c22 hne
          clear hc1 hc2 hxa hxb htk he
          go_wp2
          go_quiet (fail)
          go_wp2
          go_ret
          exact ⟨by rw [decide_eq_false hT.out]; rfl, by repeat (with_reducible first | assumption | apply Dr.drewN)⟩
      · have hT := Lib.hid (eq_all htk hlt hlen)
        go_wp2
        go_ret
        exact ⟨by rw [decide_eq_true hT.out]; rfl, hdr⟩
  · have hl2 : ((l.length : Int) != m.length) = true := by simp; omega
    have hne : l ≠ m := fun h => hlen (by rw [h])
    have hT := Lib.hid hne
    clear hne hlen hxa hxb
    go_enter Tryz.func55, Tryz.ntmps55
    go_wp2
    go_ret
    exact ⟨by rw [decide_eq_false hT.out]; rfl, Dr.refl _⟩
end Go.Proofs.YtfklgaeejmeipaaGreatDoor
