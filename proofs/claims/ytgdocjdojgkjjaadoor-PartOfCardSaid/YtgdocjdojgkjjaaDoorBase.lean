/- Base words of every walk: 'Fr w w'': what stood in w stands in w'; the tables that are listed; small laws. No condition beyond what each says. -/
import Derived.Test.YtgdocjdojgkjjaaDoorRows
import Derived.WalkKit
import Derived.WalkSpells
import Derived.WalkLawsBesides
import Derived.Lib.Hide
import Derived.Lib.LaidTab
import Derived.Lib.ItoaNum
namespace Go.Proofs.YtgdocjdojgkjjaaDoor
open Go.RowKit

/-- All that stood in 'w' stands in 'w'' unchanged. -/
def Fr (w w' : World) : Prop := Below w.heap.size w w'
theorem Fr.refl (w : World) : Fr w w := Below.refl _ _
theorem Fr.size {w w' : World} (h : Fr w w') : w.heap.size ≤ w'.heap.size := Below.size h
theorem Fr.trans {a b c : World} (h : Fr a b) (k : Fr b c) : Fr a c := Below.trans h (Below.mono k h.size)
theorem Fr.alloc {a w : World} (h : Fr a w) (o : Obj) : Fr a (w.alloc o) := Below.alloc h h.size o
theorem Fr.drew {a w : World} (h : Fr a w) : Fr a w.drew := Below.drew h
theorem Fr.drewN {a w : World} (h : Fr a w) (n : Nat) : Fr a (w.drewN n) := Below.trans h ⟨rfl, rfl, rfl, Nat.le_refl _, fun _ _ => rfl⟩
theorem Fr.setCell {a w : World} (h : Fr a w) {p : Addr} (hp : a.heap.size ≤ p.block) (u : Value) : Fr a (w.setCell p u) := Below.setCell h hp u
theorem Fr.cell {a w : World} (h : Fr a w) : ∀ b o, b < a.heap.size → w.cell? ⟨b, o, none⟩ = a.cell? ⟨b, o, none⟩ := fun b o hb => Below.cell (p := ⟨b, o, none⟩) h hb
theorem Fr.frozen {a w : World} (h : Fr a w) : ∀ b o, b < a.heap.size → w.frozen? ⟨b, o, none⟩ = a.frozen? ⟨b, o, none⟩ := fun b o hb => Below.frozen (p := ⟨b, o, none⟩) h hb
theorem Fr.block {a w : World} (h : Fr a w) {k : Nat} (hk : k < a.heap.size) : w.heap[k]? = a.heap[k]? := Below.block h k hk

theorem Fr.size1 {w w1 : World} {X : Obj} (h : Fr (w.alloc X) w1) : w.heap.size < w1.heap.size := by have := h.size; simp at this; omega
theorem Fr.size2 {w w1 : World} {X Y : Obj} (h : Fr ((w.alloc X).alloc Y) w1) : w.heap.size + 1 < w1.heap.size := by have := h.size; simp at this; omega
theorem Fr.size3 {w w1 : World} {X Y Z : Obj} (h : Fr (((w.alloc X).alloc Y).alloc Z) w1) : w.heap.size + 2 < w1.heap.size := by have := h.size; simp at this; omega
theorem lt_of_cell {w : World} {a : Addr} {v : Value} (h : w.cell? a = some v) : a.block < w.heap.size := by
  unfold World.cell? at h
  rcases Nat.lt_or_ge a.block w.heap.size with g | g
  · exact g
  · rw [Array.getElem?_eq_none g] at h; simp at h
theorem Fr.keep {a w : World} (h : Fr a w) {p : Addr} {v : Value} (hc : a.cell? p = some v) : w.cell? p = some v := (Below.cell h (lt_of_cell hc)).trans hc

def kModel (f : Int) : Int := if f ≤ 3 then 0 else if f ≤ 5 then 1 else if f ≤ 9 then 2 else 3
def kNeeds (f : Int) : Int := if f = 2 ∨ f = 4 then 2 else if f = 3 then 6 else if f = 6 ∨ f = 8 then 1 else if f = 7 then 3 else if f = 9 then 7 else 0
def kName (f : Int) : List UInt8 := if f = 1 then [114, 101, 97, 100] else if f = 2 then [119, 114, 105, 116, 101] else if f = 3 then [99, 97, 115] else if f = 4 then [101, 110, 113] else if f = 5 then [100, 101, 113] else if f = 6 then [103, 101, 116] else if f = 7 then [112, 117, 116] else if f = 8 then [100, 101, 108] else if f = 9 then [115, 119, 97, 112] else if f = 10 then [97, 99, 113, 117, 105, 114, 101] else [114, 101, 108, 101, 97, 115, 101]

/-- The table of kinds, as cells. -/
structure KindsAt (w : World) : Prop where
  model : ∀ f : Nat, 1 ≤ f → f ≤ 11 → w.cell? ⟨0, f * 3, none⟩ = some (.int .u8 (kModel f))
  name : ∀ f : Nat, 1 ≤ f → f ≤ 11 → w.cell? ⟨0, f * 3 + 1, none⟩ = some (.string ⟨(kName f).toArray⟩)
  needs : ∀ f : Nat, 1 ≤ f → f ≤ 11 → w.cell? ⟨0, f * 3 + 2, none⟩ = some (.int .u8 (kNeeds f))
theorem KindsAt.keep {a w : World} (h : KindsAt a) (f : Fr a w) : KindsAt w :=
  ⟨fun i h1 h2 => f.keep (h.model i h1 h2), fun i h1 h2 => f.keep (h.name i h1 h2), fun i h1 h2 => f.keep (h.needs i h1 h2)⟩

/-- The tables that are listed, as they stand in a world. -/
structure Env (w : World) : Prop where
  triv : True
  kinds : KindsAt w
  pow10 : Lib.TabIs Tryd.prog w "internal/strconv.uint64pow10" .u64 Lib.pow10Tab
  many : 1 < w.heap.size
theorem Env.keep {a w : World} (h : Env a) (f : Fr a w) : Env w where
  triv := trivial
  kinds := h.kinds.keep f
  pow10 := var?_below f (by kernel_rfl) h.many h.pow10
  many := Nat.lt_of_lt_of_le h.many f.size
theorem Env.alloc {w : World} (h : Env w) (o : Obj) : Env (w.alloc o) := h.keep ((Fr.refl w).alloc o)
theorem Env.drew {w : World} (h : Env w) : Env w.drew := h.keep ((Fr.refl w).drew)
theorem Env.drewN {w : World} (h : Env w) (n : Nat) : Env (w.drewN n) := h.keep ((Fr.refl w).drewN n)
end Go.Proofs.YtgdocjdojgkjjaaDoor
