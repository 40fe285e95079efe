/- Base words of every walk: 'Fr w w'': what stood in w stands in w'; the tables that are listed; small laws. No condition beyond what each says. -/
import Derived.Test.YthlngegfodomgaaDoorRows
import Derived.WalkKit
import Derived.WalkSpells
import Derived.WalkLawsBesides
import Derived.Lib.Hide
import Derived.Lib.LaidTab
import Derived.Lib.ItoaNum
import Derived.Laws.BytesArg
import Derived.Lib.ItoaMem
import Derived.Lib.ItoaLen
import Derived.Deep.MidRow
import Derived.Deep.WholeRow
import Derived.Deep.QuietTactic
import Derived.BigQuiet
import Derived.StillTail
import Derived.Orders
set_option linter.all false
set_option linter.unusedVariables false
set_option linter.unusedSimpArgs false
set_option linter.unnecessarySimpa false
/- Base words of every walk: 'Fr w w'': what stood in w stands in w'; the tables that are listed; small laws. No condition beyond what each says. -/
namespace Go.Proofs.YthlngegfodomgaaDoor
open Go.RowKit

/-- All that stood in 'w' stands in 'w'' unchanged. -/
def Fr (w w' : World) : Prop := Below w.heap.size w w'
theorem Fr.refl (w : World) : Fr w w := Below.refl _ _
theorem Fr.size {w w' : World} (h : Fr w w') : w.heap.size ≤ w'.heap.size := Below.size h
theorem Fr.trans {a b c : World} (h : Fr a b) (k : Fr b c) : Fr a c := Below.trans h (Below.mono k h.size)
theorem Fr.trans' {a b c : World} (h : Fr a b) (k : Below a.heap.size b c) : Fr a c := Below.trans h k
theorem Fr.alloc {a w : World} (h : Fr a w) (o : Obj) : Fr a (w.alloc o) := Below.alloc h h.size o
theorem Fr.drew {a w : World} (h : Fr a w) : Fr a w.drew := Below.drew h
theorem Fr.drewN {a w : World} (h : Fr a w) (n : Nat) : Fr a (w.drewN n) := Below.trans h ⟨rfl, rfl, rfl, Nat.le_refl _, fun _ _ => rfl⟩
theorem Fr.setCell {a w : World} (h : Fr a w) {p : Addr} (hp : a.heap.size ≤ p.block) (u : Value) : Fr a (w.setCell p u) := Below.setCell h hp u
theorem Fr.cell {a w : World} (h : Fr a w) : ∀ b o, b < a.heap.size → w.cell? ⟨b, o, none⟩ = a.cell? ⟨b, o, none⟩ := fun b o hb => Below.cell (p := ⟨b, o, none⟩) h hb
theorem Fr.frozen {a w : World} (h : Fr a w) : ∀ b o, b < a.heap.size → w.frozen? ⟨b, o, none⟩ = a.frozen? ⟨b, o, none⟩ := fun b o hb => Below.frozen (p := ⟨b, o, none⟩) h hb
theorem Fr.block {a w : World} (h : Fr a w) {k : Nat} (hk : k < a.heap.size) : w.heap[k]? = a.heap[k]? := Below.block h k hk

theorem Fr.size1 {w w1 : World} {X : Obj} (h : Fr (w.alloc X) w1) : w.heap.size < w1.heap.size := by have := h.size; simp at this; omega
theorem Fr.size2 {w w1 : World} {X Y : Obj} (h : Fr ((w.alloc X).alloc Y) w1) : w.heap.size + 1 < w1.heap.size := by have := h.size; simp at this; omega
theorem Fr.size3 {w w1 : World} {X Y Z : Obj} (h : Fr (((w.alloc X).alloc Y).alloc Z) w1) : w.heap.size + 2 < w1.heap.size := by have := h.size; simp at this; omega
theorem lt_of_cell {w : World} {a : Addr} {v : Value} (h : w.cell? a = some v) : a.block < w.heap.size := by
  unfold World.cell? at h
  rcases Nat.lt_or_ge a.block w.heap.size with g | g
  · exact g
  · rw [Array.getElem?_eq_none g] at h; simp at h
theorem Fr.keep {a w : World} (h : Fr a w) {p : Addr} {v : Value} (hc : a.cell? p = some v) : w.cell? p = some v := (Below.cell h (lt_of_cell hc)).trans hc

def kModel (f : Int) : Int := if f ≤ 3 then 0 else if f ≤ 5 then 1 else if f ≤ 9 then 2 else 3
def kNeeds (f : Int) : Int := if f = 2 ∨ f = 4 then 2 else if f = 3 then 6 else if f = 6 ∨ f = 8 then 1 else if f = 7 then 3 else if f = 9 then 7 else 0
def kName (f : Int) : List UInt8 := if f = 1 then [114, 101, 97, 100] else if f = 2 then [119, 114, 105, 116, 101] else if f = 3 then [99, 97, 115] else if f = 4 then [101, 110, 113] else if f = 5 then [100, 101, 113] else if f = 6 then [103, 101, 116] else if f = 7 then [112, 117, 116] else if f = 8 then [100, 101, 108] else if f = 9 then [115, 119, 97, 112] else if f = 10 then [97, 99, 113, 117, 105, 114, 101] else [114, 101, 108, 101, 97, 115, 101]

/-- The table of kinds, as cells. -/
structure KindsAt (w : World) : Prop where
  model : ∀ f : Nat, 1 ≤ f → f ≤ 11 → w.cell? ⟨0, f * 3, none⟩ = some (.int .u8 (kModel f))
  name : ∀ f : Nat, 1 ≤ f → f ≤ 11 → w.cell? ⟨0, f * 3 + 1, none⟩ = some (.string ⟨(kName f).toArray⟩)
  needs : ∀ f : Nat, 1 ≤ f → f ≤ 11 → w.cell? ⟨0, f * 3 + 2, none⟩ = some (.int .u8 (kNeeds f))
theorem KindsAt.keep {a w : World} (h : KindsAt a) (f : Fr a w) : KindsAt w :=
  ⟨fun i h1 h2 => f.keep (h.model i h1 h2), fun i h1 h2 => f.keep (h.name i h1 h2), fun i h1 h2 => f.keep (h.needs i h1 h2)⟩


/-- What every program's walks may need of the variables that are listed. -/
structure Env0 (w : World) : Prop where
  triv0 : True
  pow10 : Lib.TabIs Tryd.prog w "internal/strconv.uint64pow10" .u64 Lib.pow10Tab
  many : 1 < w.heap.size
theorem Env0.keep {a w : World} (h : Env0 a) (f : Fr a w) : Env0 w where
  triv0 := trivial
  pow10 := var?_below f (by kernel_rfl) h.many h.pow10
  many := Nat.lt_of_lt_of_le h.many f.size
/-- The tables that are listed, as they stand in a world. -/
structure Env (w : World) : Prop extends Env0 w where
  triv : True
  kinds : KindsAt w
theorem Env.keep {a w : World} (h : Env a) (f : Fr a w) : Env w where
  toEnv0 := h.toEnv0.keep f
  triv := trivial
  kinds := h.kinds.keep f
instance (w : World) : Coe (Env w) (Env0 w) := ⟨fun h => h.toEnv0⟩
theorem Env.alloc {w : World} (h : Env w) (o : Obj) : Env (w.alloc o) := h.keep ((Fr.refl w).alloc o)
theorem Env.drew {w : World} (h : Env w) : Env w.drew := h.keep ((Fr.refl w).drew)
theorem Env.drewN {w : World} (h : Env w) (n : Nat) : Env (w.drewN n) := h.keep ((Fr.refl w).drewN n)

/-- A slice of 'n' elements whose cells read 'xs', in a block of 'Z'. -/
structure SlAt (w : World) (Z : Nat → Prop) (v : Value) (n : Nat) (xs : List Value) : Prop where
  form : ∃ a cap, v = .slice a n cap ∧ n ≤ cap ∧ cap ≤ maxLen ∧ (xs = [] ∨ ∃ b off, a = some ⟨b, off, none⟩ ∧ Z b ∧ b < w.heap.size ∧ ∀ j u, xs[j]? = some u → w.cell? ⟨b, off + j, none⟩ = some u)
theorem SlAt.keep {w w' : World} {Z : Nat → Prop} {v : Value} {n : Nat} {xs : List Value} (h : SlAt w Z v n xs) (hs : w.heap.size ≤ w'.heap.size) (hb : ∀ k, Z k → k < w.heap.size → w'.heap[k]? = w.heap[k]?) : SlAt w' Z v n xs := by
  obtain ⟨a, cap, rfl, h1, h2, h3⟩ := h
  refine ⟨a, cap, rfl, h1, h2, ?_⟩
  rcases h3 with h3 | ⟨b, off, rfl, hz, hlt, hc⟩
  · exact .inl h3
  · exact .inr ⟨b, off, rfl, hz, by omega, fun j u hj => (World.cell?_of_block (a := ⟨b, off + j, none⟩) (hb b hz hlt)).trans (hc j u hj)⟩
theorem SlAt.fr {w w' : World} {Z : Nat → Prop} {v : Value} {n : Nat} {xs : List Value} (h : SlAt w Z v n xs) (f : Fr w w') : SlAt w' Z v n xs := h.keep f.size fun k _ hk => f.block hk
theorem SlAt.mono {w : World} {Z Z' : Nat → Prop} {v : Value} {n : Nat} {xs : List Value} (h : SlAt w Z v n xs) (hZ : ∀ k, Z k → Z' k) : SlAt w Z' v n xs := by
  obtain ⟨a, cap, rfl, h1, h2, h3⟩ := h
  refine ⟨a, cap, rfl, h1, h2, ?_⟩
  rcases h3 with h3 | ⟨b, off, rfl, hz, hlt, hc⟩
  · exact .inl h3
  · exact .inr ⟨b, off, rfl, hZ b hz, hlt, hc⟩
/-- What a call owns can be read. -/
theorem SlAt.own {w : World} {base : Nat} {e : TypeId} {size : Nat} {v : Value} {n : Nat} {xs : List Value} (h : w.ownsRow base e size v n xs) : SlAt w (base ≤ ·) v n xs := by
  obtain ⟨h1, h2⟩ := h
  rcases h2 with ⟨rfl, rfl⟩ | ⟨g, cap, cur, rfl, hg, hh, hc, hm, hs, ht⟩
  · have : xs = [] := List.eq_nil_of_length_eq_zero (by simpa using h1)
    exact ⟨none, 0, rfl, Nat.le_refl _, by decide, .inl this⟩
  · refine ⟨_, cap, rfl, hc, hm, .inr ⟨g, 0, rfl, hg, ?_, fun j u hj => ?_⟩⟩
    · rcases Nat.lt_or_ge g w.heap.size with h | h
      · exact h
      · rw [Array.getElem?_eq_none h] at hh; simp at hh
    · subst ht
      have hj2 : cur[j]? = some u := by
        have : j < n * size := by have := (List.getElem?_eq_some_iff.1 hj).1; simp at this; omega
        rw [List.getElem?_take_of_lt this] at hj
        simpa using hj
      simp [World.cell?, hh, hj2]
end Go.Proofs.YthlngegfodomgaaDoor

/- The walks of umpire/op: which kind an operation is, whether it may be, whose it is. No condition but the tables' content ('Env') and the numbers' bounds. -/
namespace Go.Proofs.YthlngegfodomgaaDoor
open Go.RowKit

theorem find_no (f : Int) (w : World) (h0 : 0 ≤ f) (h1 : f ≤ 255) (h : f = 0 ∨ 12 ≤ f) :
    Calls Tryd.prog 33 #[.int .u8 f] w fun e w' => e = .returned (.tuple #[.agg #[.int .u8 0, .string ⟨#[]⟩, .int .u8 0], .bool false]) ∧ Fr w w' := by
  rcases h with h | h
  · subst h
    go_enter Tryd.func33, Tryd.ntmps33
    go_wp2
    exact bodyPost_ret (v := .tuple #[.agg #[.int .u8 0, .string ⟨#[]⟩, .int .u8 0], .bool false]) (by simp [results, Tryd.results33, go_sem]) rfl ⟨rfl, (Fr.refl _).alloc _⟩
  · go_enter Tryd.func33, Tryd.ntmps33
    go_wp2
    exact bodyPost_ret (v := .tuple #[.agg #[.int .u8 0, .string ⟨#[]⟩, .int .u8 0], .bool false]) (by simp [results, Tryd.results33, go_sem]) rfl ⟨rfl, (Fr.refl _).alloc _⟩

theorem find_yes (f : Nat) (w : World) (h0 : 1 ≤ f) (h1 : f ≤ 11) (hE : Env w) :
    Calls Tryd.prog 33 #[.int .u8 f] w fun e w' => e = .returned (.tuple #[.agg #[.int .u8 (kModel f), .string ⟨(kName f).toArray⟩, .int .u8 (kNeeds f)], .bool true]) ∧ Fr w w' := by
  have c0 := hE.kinds.model f h0 h1
  have c1 := hE.kinds.name f h0 h1
  have c2 := hE.kinds.needs f h0 h1
  have hz : 0 < w.heap.size := lt_of_cell c0
  have hf0 : ((f : Int) == 0) = false := by simp; omega
  clear hE
  go_enter Tryd.func33, Tryd.ntmps33
  go_wp2
  exact bodyPost_ret (v := .tuple #[.agg #[.int .u8 (kModel f), .string ⟨(kName f).toArray⟩, .int .u8 (kNeeds f)], .bool true]) (by simp [results, Tryd.results33, go_sem, hz]) rfl ⟨rfl, (Fr.refl _).alloc _⟩

def hasK (f : Int) : Bool := bits BinOp.and IntKind.u8 (kNeeds f) 1 != 0
def hasA (f : Int) : Bool := bits BinOp.and IntKind.u8 (kNeeds f) 2 != 0
def hasB (f : Int) : Bool := bits BinOp.and IntKind.u8 (kNeeds f) 4 != 0
def mayB (F O K A B : Int) : Bool := decide (1 ≤ F) && decide (F ≤ 11) && decide (O < 8) && decide (K < 8) && (hasK F || K == 0) && (hasA F || A == 0) && (hasB F || B == 0)

theorem may_c (F : Nat) (O K A B : Int) (w : World) (hE : Env w) (hF : F ≤ 255) :
    Calls Tryd.prog 23 #[.agg #[.int .u8 F, .int .u8 O, .int .u8 K, .int .u16 A, .int .u16 B]] w fun e w' => e = .returned (.bool (mayB F O K A B)) ∧ Fr w w' := by
  by_cases hf : 1 ≤ F ∧ F ≤ 11
  · obtain ⟨h1, h2⟩ := hf
    have HM : Hid (mayB F O K A B = (decide (O < 8) && decide (K < 8) && (hasK F || K == 0) && (hasA F || A == 0) && (hasB F || B == 0))) := by
      unfold Hid mayB; rw [show decide (1 ≤ (F : Int)) = true by simp; omega, show decide ((F : Int) ≤ 11) = true by simp; omega]; simp
    go_enter Tryd.func23, Tryd.ntmps23
    go_wp2_with (go_at_call 33; refine (find_yes F _ h1 h2 (by repeat (first | assumption | apply Env.alloc))).mono ?_; rintro e w1 ⟨rfl, hb⟩; have hc := hb.cell; have hz := hb.size1)
    all_goals
      go_ret
      refine ⟨?_, ?_⟩
      · rw [HM.out]; first | (simp_all [hasK, hasA, hasB]; done) | (simp_all [hasK, hasA, hasB]; intros; omega)
      · repeat (first | exact Fr.refl _ | assumption | apply Fr.alloc | refine Fr.trans ?_ (by assumption))
  · have HM : Hid (mayB F O K A B = false) := by
      unfold Hid mayB
      rcases Nat.lt_or_ge F 1 with h | h
      · rw [show decide (1 ≤ (F : Int)) = false by simp; omega]; simp
      · rw [show decide ((F : Int) ≤ 11) = false by simp; omega]; simp
    go_enter Tryd.func23, Tryd.ntmps23
    go_wp2_with (go_at_call 33; refine (find_no F _ (by omega) (by omega) (by omega)).mono ?_; rintro e w1 ⟨rfl, hb⟩; have hc := hb.cell; have hz := hb.size1)
    all_goals
      go_ret
      refine ⟨?_, ?_⟩
      · rw [HM.out]; rfl
      · repeat (first | exact Fr.refl _ | assumption | apply Fr.alloc | refine Fr.trans ?_ (by assumption))

theorem Model_no (f : Int) (w : World) (h0 : 0 ≤ f) (h1 : f ≤ 255) (h : f = 0 ∨ 12 ≤ f) :
    Calls Tryd.prog 22 #[.int .u8 f] w fun e w' => e = .returned (.tuple #[.int .u8 0, .bool false]) ∧ Fr w w' := by
  go_enter Tryd.func22, Tryd.ntmps22
  go_wp2_with (go_at_call 33; refine (find_no f _ h0 h1 h).mono ?_; rintro e w1 ⟨rfl, hb⟩; have hc := hb.cell; have hz := hb.size)
  go_ret2
  exact ⟨rfl, by repeat (first | exact Fr.refl _ | assumption | apply Fr.alloc | refine Fr.trans ?_ (by assumption))⟩
theorem Model_yes (f : Nat) (w : World) (h0 : 1 ≤ f) (h1 : f ≤ 11) (hE : Env w) :
    Calls Tryd.prog 22 #[.int .u8 f] w fun e w' => e = .returned (.tuple #[.int .u8 (kModel f), .bool true]) ∧ Fr w w' := by
  go_enter Tryd.func22, Tryd.ntmps22
  go_wp2_with (go_at_call 33; refine (find_yes f _ h0 h1 hE).mono ?_; rintro e w1 ⟨rfl, hb⟩; have hc := hb.cell; have hz := hb.size)
  go_ret2
  exact ⟨rfl, by repeat (first | exact Fr.refl _ | assumption | apply Fr.alloc | refine Fr.trans ?_ (by assumption))⟩

/-- Whose an operation is, as op.Check tells. -/
def checkN (m F O K A B : Int) : Int := if mayB F O K A B && kModel F == m then 0 else 10

theorem Check_c (m : Int) (F : Nat) (O K A B : Int) (w : World) (hE : Env w) (hF : F ≤ 255) :
    Calls Tryd.prog 15 #[.int .u8 m, .agg #[.int .u8 F, .int .u8 O, .int .u8 K, .int .u16 A, .int .u16 B]] w fun e w' => e = .returned (.int .i64 (checkN m F O K A B)) ∧ Fr w w' := by
  by_cases hf : 1 ≤ F ∧ F ≤ 11
  · obtain ⟨h1, h2⟩ := hf
    go_enter Tryd.func15, Tryd.ntmps15
    go_wp2_with (first | (go_at_call 22; refine (Model_yes F _ h1 h2 (by repeat (first | assumption | apply Env.alloc))).mono ?_; rintro e w1 ⟨rfl, hb⟩; have hc := hb.cell; have hz := hb.size1; have hE1 := Env.keep (by repeat (first | assumption | apply Env.alloc)) hb) | (go_at_call 23; refine (may_c F O K A B _ hE1 hF).mono ?_; rintro e w2 ⟨rfl, hb2⟩; cases hm : mayB F O K A B))
    all_goals
      go_ret
      refine ⟨?_, ?_⟩
      · first | (simp_all [checkN]; done) | (unfold checkN; rw [hm]; simp_all; done)
      · repeat (first | exact Fr.refl _ | assumption | apply Fr.alloc | refine Fr.trans ?_ (by assumption))
  · have hm : mayB F O K A B = false := by
      unfold mayB
      rcases Nat.lt_or_ge F 1 with h | h
      · rw [show decide (1 ≤ (F : Int)) = false by simp; omega]; simp
      · rw [show decide ((F : Int) ≤ 11) = false by simp; omega]; simp
    have HM := Lib.hid hm
    clear hm
    go_enter Tryd.func15, Tryd.ntmps15
    go_wp2_with (first | (go_at_call 22; refine (Model_no F _ (by omega) (by omega) (by omega)).mono ?_; rintro e w1 ⟨rfl, hb⟩; have hc := hb.cell; have hz := hb.size1; have hE1 := Env.keep (by repeat (first | assumption | apply Env.alloc)) hb) | (go_at_call 23; refine (may_c F O K A B _ hE1 hF).mono ?_; rw [HM.out]; rintro e w2 ⟨rfl, hb2⟩))
    all_goals
      go_ret
      refine ⟨?_, ?_⟩
      · rw [checkN, HM.out]; rfl
      · repeat (first | exact Fr.refl _ | assumption | apply Fr.alloc | refine Fr.trans ?_ (by assumption))
end Go.Proofs.YthlngegfodomgaaDoor

/- The walks of umpireref04: Of, May, Check: as op's own (mayB, checkN). No condition but the numbers' bounds. -/
namespace Go.Proofs.YthlngegfodomgaaDoor
open Go.RowKit

theorem eleven {f : Int} (h0 : 1 ≤ f) (h1 : f ≤ 11) : f = 1 ∨ f = 2 ∨ f = 3 ∨ f = 4 ∨ f = 5 ∨ f = 6 ∨ f = 7 ∨ f = 8 ∨ f = 9 ∨ f = 10 ∨ f = 11 := by omega

theorem rOf_1 (w : World) :
    Calls Tryd.prog 31 #[.int .u8 1] w fun e w' => e = .returned (.tuple #[.agg #[.int .i64 0, .string ⟨#[114, 101, 97, 100]⟩, .bool false, .bool false, .bool false], .bool true]) ∧ Fr w w' := by
  go_enter Tryd.func31, Tryd.ntmps31
  go_wp2
  exact bodyPost_ret (v := .tuple #[.agg #[.int .i64 0, .string ⟨#[114, 101, 97, 100]⟩, .bool false, .bool false, .bool false], .bool true]) (by simp [results, Tryd.results31, go_sem]) rfl ⟨rfl, (Fr.refl _).alloc _⟩
theorem rOf_2 (w : World) :
    Calls Tryd.prog 31 #[.int .u8 2] w fun e w' => e = .returned (.tuple #[.agg #[.int .i64 0, .string ⟨#[119, 114, 105, 116, 101]⟩, .bool false, .bool true, .bool false], .bool true]) ∧ Fr w w' := by
  go_enter Tryd.func31, Tryd.ntmps31
  go_wp2
  exact bodyPost_ret (v := .tuple #[.agg #[.int .i64 0, .string ⟨#[119, 114, 105, 116, 101]⟩, .bool false, .bool true, .bool false], .bool true]) (by simp [results, Tryd.results31, go_sem]) rfl ⟨rfl, (Fr.refl _).alloc _⟩
theorem rOf_3 (w : World) :
    Calls Tryd.prog 31 #[.int .u8 3] w fun e w' => e = .returned (.tuple #[.agg #[.int .i64 0, .string ⟨#[99, 97, 115]⟩, .bool false, .bool true, .bool true], .bool true]) ∧ Fr w w' := by
  go_enter Tryd.func31, Tryd.ntmps31
  go_wp2
  exact bodyPost_ret (v := .tuple #[.agg #[.int .i64 0, .string ⟨#[99, 97, 115]⟩, .bool false, .bool true, .bool true], .bool true]) (by simp [results, Tryd.results31, go_sem]) rfl ⟨rfl, (Fr.refl _).alloc _⟩
theorem rOf_4 (w : World) :
    Calls Tryd.prog 31 #[.int .u8 4] w fun e w' => e = .returned (.tuple #[.agg #[.int .i64 1, .string ⟨#[101, 110, 113]⟩, .bool false, .bool true, .bool false], .bool true]) ∧ Fr w w' := by
  go_enter Tryd.func31, Tryd.ntmps31
  go_wp2
  exact bodyPost_ret (v := .tuple #[.agg #[.int .i64 1, .string ⟨#[101, 110, 113]⟩, .bool false, .bool true, .bool false], .bool true]) (by simp [results, Tryd.results31, go_sem]) rfl ⟨rfl, (Fr.refl _).alloc _⟩
theorem rOf_5 (w : World) :
    Calls Tryd.prog 31 #[.int .u8 5] w fun e w' => e = .returned (.tuple #[.agg #[.int .i64 1, .string ⟨#[100, 101, 113]⟩, .bool false, .bool false, .bool false], .bool true]) ∧ Fr w w' := by
  go_enter Tryd.func31, Tryd.ntmps31
  go_wp2
  exact bodyPost_ret (v := .tuple #[.agg #[.int .i64 1, .string ⟨#[100, 101, 113]⟩, .bool false, .bool false, .bool false], .bool true]) (by simp [results, Tryd.results31, go_sem]) rfl ⟨rfl, (Fr.refl _).alloc _⟩
theorem rOf_6 (w : World) :
    Calls Tryd.prog 31 #[.int .u8 6] w fun e w' => e = .returned (.tuple #[.agg #[.int .i64 2, .string ⟨#[103, 101, 116]⟩, .bool true, .bool false, .bool false], .bool true]) ∧ Fr w w' := by
  go_enter Tryd.func31, Tryd.ntmps31
  go_wp2
  exact bodyPost_ret (v := .tuple #[.agg #[.int .i64 2, .string ⟨#[103, 101, 116]⟩, .bool true, .bool false, .bool false], .bool true]) (by simp [results, Tryd.results31, go_sem]) rfl ⟨rfl, (Fr.refl _).alloc _⟩
theorem rOf_7 (w : World) :
    Calls Tryd.prog 31 #[.int .u8 7] w fun e w' => e = .returned (.tuple #[.agg #[.int .i64 2, .string ⟨#[112, 117, 116]⟩, .bool true, .bool true, .bool false], .bool true]) ∧ Fr w w' := by
  go_enter Tryd.func31, Tryd.ntmps31
  go_wp2
  exact bodyPost_ret (v := .tuple #[.agg #[.int .i64 2, .string ⟨#[112, 117, 116]⟩, .bool true, .bool true, .bool false], .bool true]) (by simp [results, Tryd.results31, go_sem]) rfl ⟨rfl, (Fr.refl _).alloc _⟩
theorem rOf_8 (w : World) :
    Calls Tryd.prog 31 #[.int .u8 8] w fun e w' => e = .returned (.tuple #[.agg #[.int .i64 2, .string ⟨#[100, 101, 108]⟩, .bool true, .bool false, .bool false], .bool true]) ∧ Fr w w' := by
  go_enter Tryd.func31, Tryd.ntmps31
  go_wp2
  exact bodyPost_ret (v := .tuple #[.agg #[.int .i64 2, .string ⟨#[100, 101, 108]⟩, .bool true, .bool false, .bool false], .bool true]) (by simp [results, Tryd.results31, go_sem]) rfl ⟨rfl, (Fr.refl _).alloc _⟩
theorem rOf_9 (w : World) :
    Calls Tryd.prog 31 #[.int .u8 9] w fun e w' => e = .returned (.tuple #[.agg #[.int .i64 2, .string ⟨#[115, 119, 97, 112]⟩, .bool true, .bool true, .bool true], .bool true]) ∧ Fr w w' := by
  go_enter Tryd.func31, Tryd.ntmps31
  go_wp2
  exact bodyPost_ret (v := .tuple #[.agg #[.int .i64 2, .string ⟨#[115, 119, 97, 112]⟩, .bool true, .bool true, .bool true], .bool true]) (by simp [results, Tryd.results31, go_sem]) rfl ⟨rfl, (Fr.refl _).alloc _⟩
theorem rOf_10 (w : World) :
    Calls Tryd.prog 31 #[.int .u8 10] w fun e w' => e = .returned (.tuple #[.agg #[.int .i64 3, .string ⟨#[97, 99, 113, 117, 105, 114, 101]⟩, .bool false, .bool false, .bool false], .bool true]) ∧ Fr w w' := by
  go_enter Tryd.func31, Tryd.ntmps31
  go_wp2
  exact bodyPost_ret (v := .tuple #[.agg #[.int .i64 3, .string ⟨#[97, 99, 113, 117, 105, 114, 101]⟩, .bool false, .bool false, .bool false], .bool true]) (by simp [results, Tryd.results31, go_sem]) rfl ⟨rfl, (Fr.refl _).alloc _⟩
theorem rOf_11 (w : World) :
    Calls Tryd.prog 31 #[.int .u8 11] w fun e w' => e = .returned (.tuple #[.agg #[.int .i64 3, .string ⟨#[114, 101, 108, 101, 97, 115, 101]⟩, .bool false, .bool false, .bool false], .bool true]) ∧ Fr w w' := by
  go_enter Tryd.func31, Tryd.ntmps31
  go_wp2
  exact bodyPost_ret (v := .tuple #[.agg #[.int .i64 3, .string ⟨#[114, 101, 108, 101, 97, 115, 101]⟩, .bool false, .bool false, .bool false], .bool true]) (by simp [results, Tryd.results31, go_sem]) rfl ⟨rfl, (Fr.refl _).alloc _⟩
theorem rOf_yes (f : Int) (w : World) (h0 : 1 ≤ f) (h1 : f ≤ 11) :
    Calls Tryd.prog 31 #[.int .u8 f] w fun e w' => e = .returned (.tuple #[.agg #[.int .i64 (kModel f), .string ⟨(kName f).toArray⟩, .bool (hasK f), .bool (hasA f), .bool (hasB f)], .bool true]) ∧ Fr w w' := by
  rcases eleven h0 h1 with h | h | h | h | h | h | h | h | h | h | h
  · subst h; exact rOf_1 w
  · subst h; exact rOf_2 w
  · subst h; exact rOf_3 w
  · subst h; exact rOf_4 w
  · subst h; exact rOf_5 w
  · subst h; exact rOf_6 w
  · subst h; exact rOf_7 w
  · subst h; exact rOf_8 w
  · subst h; exact rOf_9 w
  · subst h; exact rOf_10 w
  · subst h; exact rOf_11 w
theorem rOf_no (f : Int) (w : World) (h0 : 0 ≤ f) (h1 : f ≤ 255) (h : f = 0 ∨ 12 ≤ f) :
    Calls Tryd.prog 31 #[.int .u8 f] w fun e w' => e = .returned (.tuple #[.agg #[.int .i64 0, .string ⟨#[]⟩, .bool false, .bool false, .bool false], .bool false]) ∧ Fr w w' := by
  go_enter Tryd.func31, Tryd.ntmps31
  go_wp2
  exact bodyPost_ret (v := .tuple #[.agg #[.int .i64 0, .string ⟨#[]⟩, .bool false, .bool false, .bool false], .bool false]) (by simp [results, Tryd.results31, go_sem]) rfl ⟨rfl, (Fr.refl _).alloc _⟩

theorem rMay_c (F : Nat) (O K A B : Int) (w : World) (hF : F ≤ 255) :
    Calls Tryd.prog 32 #[.agg #[.int .u8 F, .int .u8 O, .int .u8 K, .int .u16 A, .int .u16 B]] w fun e w' => e = .returned (.bool (mayB F O K A B)) ∧ Fr w w' := by
  by_cases hf : 1 ≤ F ∧ F ≤ 11
  · obtain ⟨h1, h2⟩ := hf
    have HM : Hid (mayB F O K A B = (decide (O < 8) && decide (K < 8) && (hasK F || K == 0) && (hasA F || A == 0) && (hasB F || B == 0))) := by
      unfold Hid mayB; rw [show decide (1 ≤ (F : Int)) = true by simp; omega, show decide ((F : Int) ≤ 11) = true by simp; omega]; simp
    go_enter Tryd.func32, Tryd.ntmps32
    go_wp2_with (go_at_call 31; refine (rOf_yes F _ (by omega) (by omega)).mono ?_; rintro e w1 ⟨rfl, hb⟩; have hc := hb.cell; have hz := hb.size1)
    all_goals
      go_ret
      refine ⟨?_, ?_⟩
      · rw [HM.out]; first | (simp_all; done) | (simp_all; intros; omega)
      · repeat (first | exact Fr.refl _ | assumption | apply Fr.alloc | refine Fr.trans ?_ (by assumption))
  · have HM : Hid (mayB F O K A B = false) := by
      unfold Hid mayB
      rcases Nat.lt_or_ge F 1 with h | h
      · rw [show decide (1 ≤ (F : Int)) = false by simp; omega]; simp
      · rw [show decide ((F : Int) ≤ 11) = false by simp; omega]; simp
    go_enter Tryd.func32, Tryd.ntmps32
    go_wp2_with (go_at_call 31; refine (rOf_no F _ (by omega) (by omega) (by omega)).mono ?_; rintro e w1 ⟨rfl, hb⟩; have hc := hb.cell; have hz := hb.size1)
    all_goals
      go_ret
      refine ⟨?_, ?_⟩
      · rw [HM.out]; rfl
      · repeat (first | exact Fr.refl _ | assumption | apply Fr.alloc | refine Fr.trans ?_ (by assumption))

theorem rCheck_c (m : Int) (F : Nat) (O K A B : Int) (w : World) (hm0 : 0 ≤ m) (hm1 : m ≤ 255) (hF : F ≤ 255) :
    Calls Tryd.prog 21 #[.int .u8 m, .agg #[.int .u8 F, .int .u8 O, .int .u8 K, .int .u16 A, .int .u16 B]] w fun e w' => e = .returned (.int .i64 (checkN m F O K A B)) ∧ Fr w w' := by
  by_cases hf : 1 ≤ F ∧ F ≤ 11
  · obtain ⟨h1, h2⟩ := hf
    go_enter Tryd.func21, Tryd.ntmps21
    go_wp2_with (first | (go_at_call 31; refine (rOf_yes F _ (by omega) (by omega)).mono ?_; rintro e w1 ⟨rfl, hb⟩; have hc := hb.cell; have hz := hb.size1) | (go_at_call 32; refine (rMay_c F O K A B _ hF).mono ?_; rintro e w2 ⟨rfl, hb2⟩; have hc2 := hb2.cell; have hz2 := hb2.size1; cases hm : mayB F O K A B))
    all_goals
      go_ret
      refine ⟨?_, ?_⟩
      · first | (simp_all [checkN]; done) | (unfold checkN; rw [hm]; simp_all; done)
      · repeat (first | exact Fr.refl _ | assumption | apply Fr.alloc | refine Fr.trans ?_ (by assumption))
  · have hm : mayB F O K A B = false := by
      unfold mayB
      rcases Nat.lt_or_ge F 1 with h | h
      · rw [show decide (1 ≤ (F : Int)) = false by simp; omega]; simp
      · rw [show decide ((F : Int) ≤ 11) = false by simp; omega]; simp
    have HM := Lib.hid hm
    clear hm
    go_enter Tryd.func21, Tryd.ntmps21
    go_wp2_with (first | (go_at_call 31; refine (rOf_no F _ (by omega) (by omega) (by omega)).mono ?_; rintro e w1 ⟨rfl, hb⟩; have hc := hb.cell; have hz := hb.size1) | (go_at_call 32; refine (rMay_c F O K A B _ hF).mono ?_; rw [HM.out]; rintro e w2 ⟨rfl, hb2⟩; have hc2 := hb2.cell; have hz2 := hb2.size1))
    all_goals
      go_ret
      refine ⟨?_, ?_⟩
      · rw [checkN, HM.out]; rfl
      · repeat (first | exact Fr.refl _ | assumption | apply Fr.alloc | refine Fr.trans ?_ (by assumption))
end Go.Proofs.YthlngegfodomgaaDoor

/- The walks of part.Of, part.Count and of umpireref21's: whose part an operation is, how many there are. No condition but the tables' content and the numbers' bounds. -/
namespace Go.Proofs.YthlngegfodomgaaDoor
open Go.RowKit

theorem checkN_01 (m F O K A B : Int) : checkN m F O K A B = 0 ∨ checkN m F O K A B = 10 := by unfold checkN; split <;> simp
theorem checkN_model {m F O K A B : Int} (h : checkN m F O K A B = 0) : m = kModel F := by
  unfold checkN at h; split at h
  · rename_i h'; simp at h'; exact h'.2.symm
  · omega
theorem kModel_le (F : Int) : 0 ≤ kModel F ∧ kModel F ≤ 3 := by unfold kModel; repeat' split <;> omega
/-- The part of an operation. -/
def partN (m O K : Int) (p : Bool) : Int := if p then (if m = 2 then 8 * O + K else O) else 0
def countN (m : Int) (p : Bool) : Int := if 4 ≤ m then 0 else if p then (if m = 2 then 64 else 8) else 1

theorem Of_no (m : Int) (F : Nat) (O K A B : Int) (p : Bool) (w : World) (hE : Env w) (hF : F ≤ 255) (h : checkN m F O K A B = 10) :
    Calls Tryd.prog 8 #[.int .u8 m, .agg #[.int .u8 F, .int .u8 O, .int .u8 K, .int .u16 A, .int .u16 B], .bool p] w fun e w' => e = .returned (.tuple #[.int .i64 0, .int .i64 10]) ∧ Fr w w' := by
  have H := Lib.hid h; clear h
  go_enter Tryd.func8, Tryd.ntmps8
  go_wp2_with (go_at_call 15; refine (Check_c m F O K A B _ (by repeat (first | assumption | apply Env.alloc)) hF).mono ?_; rw [H.out]; rintro e w1 ⟨rfl, hb⟩; have hc := hb.cell; have hz := hb.size1)
  go_ret2
  exact ⟨rfl, by repeat (first | exact Fr.refl _ | assumption | apply Fr.alloc | refine Fr.trans ?_ (by assumption))⟩

theorem Of_yes (m : Int) (F : Nat) (O K A B : Int) (p : Bool) (w : World) (hE : Env w) (hF : F ≤ 255) (hO : 0 ≤ O) (hO1 : O ≤ 255) (hK : 0 ≤ K) (hK1 : K ≤ 255) (h : checkN m F O K A B = 0) :
    Calls Tryd.prog 8 #[.int .u8 m, .agg #[.int .u8 F, .int .u8 O, .int .u8 K, .int .u16 A, .int .u16 B], .bool p] w fun e w' => e = .returned (.tuple #[.int .i64 (partN m O K p), .int .i64 0]) ∧ Fr w w' := by
  have hm := checkN_model h
  have hl := kModel_le F
  have hm3 : m ≤ 3 := by omega
  clear hm hl
  have H := Lib.hid h; clear h
  cases p
  · go_enter Tryd.func8, Tryd.ntmps8
    go_wp2_with (first | (go_at_call 15; refine (Check_c m F O K A B _ (by repeat (first | assumption | apply Env.alloc)) hF).mono ?_; rw [H.out]; rintro e w1 ⟨rfl, hb⟩; have hc := hb.cell; have hz := hb.size1) | go_in)
    go_ret2
    exact ⟨rfl, by repeat (first | exact Fr.refl _ | assumption | apply Fr.alloc | refine Fr.trans ?_ (by assumption))⟩
  · by_cases h2 : m = 2
    · subst h2
      go_enter Tryd.func8, Tryd.ntmps8
      go_wp2_with (first | (go_at_call 15; refine (Check_c _ F O K A B _ (by repeat (first | assumption | apply Env.alloc)) hF).mono ?_; rw [H.out]; rintro e w1 ⟨rfl, hb⟩; have hc := hb.cell; have hz := hb.size1) | go_in)
      go_ret2
      exact ⟨rfl, by repeat (first | exact Fr.refl _ | assumption | apply Fr.alloc | refine Fr.trans ?_ (by assumption))⟩
    · have h2' : (m == 2) = false := by simp; omega
      have hp : partN m O K true = O := by unfold partN; simp [h2]
      have HP := Lib.hid hp
      clear hp h2
      go_enter Tryd.func8, Tryd.ntmps8
      go_wp2_with (first | (go_at_call 15; refine (Check_c m F O K A B _ (by repeat (first | assumption | apply Env.alloc)) hF).mono ?_; rw [H.out]; rintro e w1 ⟨rfl, hb⟩; have hc := hb.cell; have hz := hb.size1) | go_in)
      go_ret2
      exact ⟨by rw [HP.out]; rfl, by repeat (first | exact Fr.refl _ | assumption | apply Fr.alloc | refine Fr.trans ?_ (by assumption))⟩

/-- What umpireref21.Of tells. -/
def rOfN (m F O K A B : Int) (p : Bool) : Value := .tuple #[.int .i64 (if checkN m F O K A B = 0 then partN m O K p else 0), .int .i64 (checkN m F O K A B)]

theorem rOf_c (m : Int) (F : Nat) (O K A B : Int) (p : Bool) (w : World) (hF : F ≤ 255) (hm0 : 0 ≤ m) (hm1 : m ≤ 255) (hO : 0 ≤ O) (hO1 : O ≤ 255) (hK : 0 ≤ K) (hK1 : K ≤ 255) :
    Calls Tryd.prog 14 #[.int .u8 m, .agg #[.int .u8 F, .int .u8 O, .int .u8 K, .int .u16 A, .int .u16 B], .bool p] w fun e w' => e = .returned (rOfN m F O K A B p) ∧ Fr w w' := by
  rcases checkN_01 m F O K A B with h | h
  · have H := Lib.hid h; clear h
    cases p
    · have HR : Hid (rOfN m F O K A B false = .tuple #[.int .i64 0, .int .i64 0]) := by unfold Hid rOfN; rw [H.out]; rfl
      go_enter Tryd.func14, Tryd.ntmps14
      go_wp2_with (go_at_call 21; refine (rCheck_c m F O K A B _ hm0 hm1 hF).mono ?_; rw [H.out]; rintro e w1 ⟨rfl, hb⟩; have hc := hb.cell; have hz := hb.size1)
      go_ret2
      refine ⟨by rw [HR.out]; rfl, by repeat (first | exact Fr.refl _ | assumption | apply Fr.alloc | refine Fr.trans ?_ (by assumption))⟩
    · by_cases h2 : m = 2
      · subst h2
        have HR : Hid (rOfN 2 F O K A B true = .tuple #[.int .i64 (8 * O + K), .int .i64 0]) := by unfold Hid rOfN; rw [H.out]; rfl
        go_enter Tryd.func14, Tryd.ntmps14
        go_wp2_with (go_at_call 21; refine (rCheck_c _ F O K A B _ hm0 hm1 hF).mono ?_; rw [H.out]; rintro e w1 ⟨rfl, hb⟩; have hc := hb.cell; have hz := hb.size1)
        go_ret2
        refine ⟨by rw [HR.out]; rfl, by repeat (first | exact Fr.refl _ | assumption | apply Fr.alloc | refine Fr.trans ?_ (by assumption))⟩
      · have h2' : (m == 2) = false := by simp; omega
        have HR : Hid (rOfN m F O K A B true = .tuple #[.int .i64 O, .int .i64 0]) := by unfold Hid rOfN partN; rw [H.out]; simp [h2]
        clear h2
        go_enter Tryd.func14, Tryd.ntmps14
        go_wp2_with (go_at_call 21; refine (rCheck_c m F O K A B _ hm0 hm1 hF).mono ?_; rw [H.out]; rintro e w1 ⟨rfl, hb⟩; have hc := hb.cell; have hz := hb.size1)
        go_ret2
        refine ⟨by rw [HR.out]; rfl, by repeat (first | exact Fr.refl _ | assumption | apply Fr.alloc | refine Fr.trans ?_ (by assumption))⟩
  · have H := Lib.hid h; clear h
    have HR : Hid (rOfN m F O K A B p = .tuple #[.int .i64 0, .int .i64 10]) := by unfold Hid rOfN; rw [H.out]; rfl
    go_enter Tryd.func14, Tryd.ntmps14
    go_wp2_with (go_at_call 21; refine (rCheck_c m F O K A B _ hm0 hm1 hF).mono ?_; rw [H.out]; rintro e w1 ⟨rfl, hb⟩; have hc := hb.cell; have hz := hb.size1)
    go_ret2
    refine ⟨by rw [HR.out]; rfl, by repeat (first | exact Fr.refl _ | assumption | apply Fr.alloc | refine Fr.trans ?_ (by assumption))⟩

theorem Count_c (m : Int) (p : Bool) (w : World) :
    Calls Tryd.prog 10 #[.int .u8 m, .bool p] w fun e w' => e = .returned (.int .i64 (countN m p)) ∧ Fr w w' := by
  by_cases h4 : 4 ≤ m
  · have H : Hid (countN m p = 0) := by unfold Hid countN; rw [if_pos h4]
    go_enter Tryd.func10, Tryd.ntmps10
    go_wp2
    go_ret
    exact ⟨by rw [H.out]; rfl, by repeat (first | exact Fr.refl _ | assumption | apply Fr.alloc | refine Fr.trans ?_ (by assumption))⟩
  · cases p
    · have H : Hid (countN m false = 1) := by unfold Hid countN; rw [if_neg h4]; rfl
      go_enter Tryd.func10, Tryd.ntmps10
      go_wp2
      go_ret
      exact ⟨by rw [H.out]; rfl, by repeat (first | exact Fr.refl _ | assumption | apply Fr.alloc | refine Fr.trans ?_ (by assumption))⟩
    · by_cases h2 : m = 2
      · subst h2
        go_enter Tryd.func10, Tryd.ntmps10
        go_wp2
        go_ret
        exact ⟨rfl, by repeat (first | exact Fr.refl _ | assumption | apply Fr.alloc | refine Fr.trans ?_ (by assumption))⟩
      · have H : Hid (countN m true = 8) := by unfold Hid countN; rw [if_neg h4]; simp [h2]
        have h2' : (m == 2) = false := by simp; omega
        clear h2
        go_enter Tryd.func10, Tryd.ntmps10
        go_wp2
        go_ret
        exact ⟨by rw [H.out]; rfl, by repeat (first | exact Fr.refl _ | assumption | apply Fr.alloc | refine Fr.trans ?_ (by assumption))⟩

end Go.Proofs.YthlngegfodomgaaDoor

/- Small laws on strings of this program's types: string([]byte{a}), string([]byte{a, b}). -/
namespace Go.Proofs.YthlngegfodomgaaDoor
open Go.RowKit

/-- 'string(b)' at a literal that the call has just made. -/
theorem conv1 (W : World) (x : Int) (c : Nat) : (convert 100 9 (.slice (some ⟨W.heap.size, 0, none⟩) 1 c)).run Tryd.prog (W.alloc (.cells #[.int .u8 x] 5)) = .ok (.string ⟨#[UInt8.ofNat x.toNat]⟩) (W.alloc (.cells #[.int .u8 x] 5)) :=
  run_convert_bytes_arg _ 100 5 Tryd.underlying100 Tryd.underlying5 _ 0 1 c [x] rfl (fun i hi => by
    rcases (show i = 0 by omega) with rfl; simp) _ Tryd.underlying9
theorem conv2 (W : World) (x y : Int) (c : Nat) : (convert 100 9 (.slice (some ⟨W.heap.size, 0, none⟩) 2 c)).run Tryd.prog (W.alloc (.cells #[.int .u8 x, .int .u8 y] 5)) = .ok (.string ⟨#[UInt8.ofNat x.toNat, UInt8.ofNat y.toNat]⟩) (W.alloc (.cells #[.int .u8 x, .int .u8 y] 5)) :=
  run_convert_bytes_arg _ 100 5 Tryd.underlying100 Tryd.underlying5 _ 0 2 c [x, y] rfl (fun i hi => by
    rcases (show i = 0 ∨ i = 1 by omega) with rfl | rfl <;> simp) _ Tryd.underlying9
theorem conv1' (W : World) (x : Int) (n c : Nat) (hn : n = W.heap.size) : (convert 100 9 (.slice (some ⟨n, 0, none⟩) 1 c)).run Tryd.prog (W.alloc (.cells #[.int .u8 x] 5)) = .ok (.string ⟨#[UInt8.ofNat x.toNat]⟩) (W.alloc (.cells #[.int .u8 x] 5)) := by subst hn; exact conv1 W x c
theorem conv2' (W : World) (x y : Int) (n c : Nat) (hn : n = W.heap.size) : (convert 100 9 (.slice (some ⟨n, 0, none⟩) 2 c)).run Tryd.prog (W.alloc (.cells #[.int .u8 x, .int .u8 y] 5)) = .ok (.string ⟨#[UInt8.ofNat x.toNat, UInt8.ofNat y.toNat]⟩) (W.alloc (.cells #[.int .u8 x, .int .u8 y] 5)) := by subst hn; exact conv2 W x y c
attribute [go_sem] conv1' conv2'
theorem mk_append (x y : List UInt8) : (⟨x.toArray⟩ : ByteArray) ++ ⟨y.toArray⟩ = ⟨(x ++ y).toArray⟩ := ByteArray.mk_append_mk x y
theorem size_mk (l : List UInt8) : (⟨l.toArray⟩ : ByteArray).size = l.length := by simp [ByteArray.size]
theorem ret_str {a : ByteArray} {l : List UInt8} (h : a.data.toList = l) : Ending.returned (.string a) = Ending.returned (.string ⟨l.toArray⟩) := by subst h; simp
end Go.Proofs.YthlngegfodomgaaDoor

/- umpireref13.Digits: a number's decimal numeral, of any number from 0 on. -/
namespace Go.Proofs.YthlngegfodomgaaDoor
open Go.RowKit

theorem decDigits_len (n : Nat) (hn : n ≤ 9223372036854775807) : (Lib.decDigits n).length ≤ 21 := by
  rw [← Lib.itoa_nonneg]; exact Lib.itoa_length_le _ (by omega) (by omega)
theorem decDigits_last {n : Nat} (h : n / 10 = 0) : [48 + UInt8.ofNat (n % 10)] = Lib.decDigits n := by
  have hn : n < 10 := by omega
  rw [Lib.decDigits_one hn, Nat.mod_eq_of_lt hn, UInt8.ofNat_add]; rfl
theorem decDigits_more {n : Nat} (h : n / 10 ≠ 0) : Lib.decDigits (n / 10) ++ [48 + UInt8.ofNat (n % 10)] = Lib.decDigits n := by
  have hn : ¬ n < 10 := by omega
  rw [Lib.decDigits.eq_1 n, dif_neg hn, UInt8.ofNat_add]; rfl

end Go.Proofs.YthlngegfodomgaaDoor

/- Whole structs read out of a box and laid into a new one: arms of a walk that do not open the cells. No condition but what each says. -/
namespace Go.Proofs.YthlngegfodomgaaDoor
open Go.RowKit

/-- A block that is these cells, and may be written. -/
def BoxAt (w : World) (b : Nat) (c : Array Value) (t : TypeId) : Prop := w.heap[b]? = some (.cells c t (0, 0))
theorem BoxAt.lt {w : World} {b : Nat} {c : Array Value} {t : TypeId} (h : BoxAt w b c t) : b < w.heap.size := by
  unfold BoxAt at h
  rcases Nat.lt_or_ge b w.heap.size with g | g
  · exact g
  · rw [Array.getElem?_eq_none g] at h; cases h
theorem BoxAt.fr {a w : World} {b : Nat} {c : Array Value} {t : TypeId} (h : BoxAt a b c t) (f : Fr a w) : BoxAt w b c t := (f.block h.lt).trans h
theorem BoxAt.alloc {w : World} {b : Nat} {c : Array Value} {t : TypeId} (h : BoxAt w b c t) (X : Obj) : BoxAt (w.alloc X) b c t := h.fr ((Fr.refl w).alloc X)
theorem BoxAt.drew {w : World} {b : Nat} {c : Array Value} {t : TypeId} (h : BoxAt w b c t) : BoxAt w.drew b c t := h
theorem BoxAt.drewN {w : World} {b : Nat} {c : Array Value} {t : TypeId} (h : BoxAt w b c t) (n : Nat) : BoxAt (w.drewN n) b c t := h
theorem BoxAt.set {w : World} {b : Nat} {c : Array Value} {t : TypeId} (h : BoxAt w b c t) {p : Addr} (hp : p.block ≠ b) (u : Value) : BoxAt (w.setCell p u) b c t := (Below.heap_setCell w p u b (fun e => hp e.symm)).trans h
theorem BoxAt.new (w : World) (c : Array Value) (t : TypeId) : BoxAt (w.alloc (.cells c t)) w.heap.size c t := heap_alloc_last w _
theorem BoxAt.new' (w : World) (c : Array Value) (t : TypeId) (n : Nat) (hn : n = w.heap.size) : BoxAt (w.alloc (.cells c t)) n c t := hn ▸ heap_alloc_last w _
theorem BoxAt.of_fr {w w1 : World} {c : Array Value} {t : TypeId} (h : Fr (w.alloc (.cells c t)) w1) : BoxAt w1 w.heap.size c t := (BoxAt.new w c t).fr h
theorem BoxAt.cell {w : World} {b : Nat} {c : Array Value} {t : TypeId} (h : BoxAt w b c t) (j : Nat) : w.cell? ⟨b, j, none⟩ = c[j]? := cell_of_row w b j c t (0, 0) h
theorem BoxAt.at {w : World} {b : Nat} {c : Array Value} {t : TypeId} (h : BoxAt w b c t) (j : Nat) {v : Value} (hv : c[j]? = some v) : w.cell? ⟨b, j, none⟩ = some v := (h.cell j).trans hv
theorem BoxAt.free {w : World} {b : Nat} {c : Array Value} {t : TypeId} (h : BoxAt w b c t) (j : Nat) : w.frozen? ⟨b, j, none⟩ = false := by
  unfold BoxAt at h
  simp [World.frozen?, h]

/-- A block laid anew, all else as it was. -/
structure Relaid (b : Nat) (c : Array Value) (t : TypeId) (w w' : World) : Prop where
  os : w'.os = w.os
  tape : w'.tape = w.tape
  output : w'.output = w.output
  size : w'.heap.size = w.heap.size
  box : BoxAt w' b c t
  other : ∀ k, k ≠ b → w'.heap[k]? = w.heap[k]?
theorem Relaid.boxOther {b : Nat} {c : Array Value} {t : TypeId} {w w' : World} (h : Relaid b c t w w') {d : Nat} {e : Array Value} {u : TypeId} (hB : BoxAt w d e u) (hd : d ≠ b) : BoxAt w' d e u := (h.other d hd).trans hB
theorem Relaid.fr {b : Nat} {c : Array Value} {t : TypeId} {a w w' : World} (h : Relaid b c t w w') (f : Fr a w) (hb : a.heap.size ≤ b) : Fr a w' :=
  ⟨h.os.trans f.os, h.tape.trans f.tape, h.output.trans f.output, by rw [h.size]; exact f.size, fun k hk => (h.other k (by omega)).trans (f.block hk)⟩
section
variable {P : Program} {ops : Array Oper} {rest : List Oper} {o : Oper} {a : Act} {Q : Exit → Act → World → Prop}
/-- The next operation is this one (cheap to ask ahead of a law that is dear to try). -/
theorem wpList_here {w : World} (i : Op) (ho : o.op = i) (h : wpList P ops Q (o :: rest) a w) : wpList P ops Q (o :: rest) a w := h
/-- A whole struct is read out of its block. -/
theorem wpList_load_box {w : World} (ty : TypeId) (x : Operand) (ho : o.op = .load ty x)
    (g : Nat) (hx : a.eval x = .pointer (some ⟨g, 0, none⟩)) (cs : Array Value) (hg : BoxAt w g cs ty) (d : TypeDesc)
    (hu : P.underlying ty = some d) (hd : (match d with | .struct _ | .array _ _ => true | _ => false) = true) (hi : (P.info? ty).map (·.size) = some cs.size)
    (hw : Region.wanted o (yielded ops a.tmps) = true) (h : wpList P ops Q rest (a.put o.dst (.agg cs)) w) : wpList P ops Q (o :: rest) a w :=
  wpList_step fun K hK => by
    simp only [hw, if_true]
    exact wp_load_row ty x ho g hx ty cs (0, 0) d hg hu hd hi (hK _ _ h)
/-- A whole struct is laid into the newest block. -/
theorem wpList_store_new {w : World} (ty : TypeId) (x y : Operand) (ho : o.op = .store ty x y) (c c' : Array Value) (n : Nat) (hn : n = w.heap.size)
    (hx : a.eval x = .pointer (some ⟨n, 0, none⟩)) (hy : a.eval y = .agg c') (hi : (P.info? ty).map (·.size) = some c'.size) (hs : c.size = c'.size) (h1 : c'.all (·.oneCell') = true)
    (hw : Region.wanted o (yielded ops a.tmps) = true) (hdst : o.dst = none) (h : wpList P ops Q rest a (w.alloc (.cells c' ty))) : wpList P ops Q (o :: rest) a (w.alloc (.cells c ty)) :=
  wpList_step fun K hK => by
    subst hn
    simp only [hw, if_true]
    have hp : a.put o.dst undef = a := by rw [hdst]; rfl
    unfold Oper.wp execOp
    simp only [ho, hx, hy, Sem.run_bind, run_storeAt_new w ty c c' hi hs h1, Result.andThen_ok, Sem.run_pure]
    show K (a.put o.dst undef) _
    rw [hp]
    exact hK _ _ h
/-- A whole struct is laid into a block that is there. -/
theorem wpList_store_old {w : World} (ty : TypeId) (x y : Operand) (ho : o.op = .store ty x y) (b : Nat) (c c' : Array Value)
    (hx : a.eval x = .pointer (some ⟨b, 0, none⟩)) (hy : a.eval y = .agg c') (hB : BoxAt w b c ty) (hi : (P.info? ty).map (·.size) = some c'.size) (hs : c.size = c'.size) (h1 : c'.all (·.oneCell') = true)
    (hw : Region.wanted o (yielded ops a.tmps) = true) (hdst : o.dst = none) (h : ∀ w', Relaid b c' ty w w' → wpList P ops Q rest a w') : wpList P ops Q (o :: rest) a w :=
  wpList_step fun K hK => by
    simp only [hw, if_true]
    have hst : (Instr.storeAt ty (.pointer (some ⟨b, 0, none⟩)) (.agg c')).run P w = .ok () (w.setRow b c') := by
      simp only [Instr.storeAt, Instr.sureAddr, Sem.run_bind, Sem.run_pure, Result.andThen]
      exact run_storeVar_row w b ty ty c c' hB hi hs h1
    have hp : a.put o.dst undef = a := by rw [hdst]; rfl
    unfold Oper.wp execOp
    simp only [ho, hx, hy, Sem.run_bind, hst, Result.andThen_ok, Sem.run_pure]
    show K (a.put o.dst undef) _
    rw [hp]
    exact hK _ _ (h _ ⟨rfl, rfl, rfl, by simp, setRow_heap w b c c' ty _ hB, fun k hk => setRow_other w b k c' hk⟩)
end
end Go.Proofs.YthlngegfodomgaaDoor

/- A region that draws its order, whose operations read and whose callees only make memory: walked once. No condition but what each says. -/
namespace Go.Proofs.YthlngegfodomgaaDoor
open Go.RowKit

/-- The worlds in which all that stood in 'w0' stands. -/
structure FrW (w0 : World) where
  val : World
  fr : Fr w0 val
instance (w0 : World) : Nonempty (FrW w0) := ⟨⟨w0, Fr.refl w0⟩⟩
theorem wp_region_fr {P : Program} {id : Nat} {Q : Exit → Act → World → Prop} {a : Act} {w : World} {l : List Oper} (hm : P.follows .mixedOrders = true) (hB : Region.lexB .any l.toArray = true)
    (h : wpQuiet P l.toArray (fun w' => ∃ z : FrW w, w' = z.val) (fun a' => ∀ w', (∃ z : FrW w, w' = z.val) → Q .normal a' w') l a) : (Code.region id l.toArray true).wp P Q a w :=
  wp_region_quiet (C := fun w' => ∃ z : FrW w, w' = z.val) hm hB ⟨⟨w.drew, (Fr.refl w).drew⟩, rfl⟩ (by simpa using h)
/-- A callee that only makes memory. -/
theorem frq {P : Program} {f : FuncId} {args : Array Value} {w0 : World} {z : FrW w0} {v : Value} (h : Calls P f args z.val fun e w' => e = .returned v ∧ Fr z.val w') :
    Calls P f args z.val fun e w'' => e = .returned v ∧ ∃ z' : FrW w0, w'' = z'.val :=
  h.mono fun _ w' ⟨he, hf⟩ => ⟨he, ⟨w', z.fr.trans hf⟩, rfl⟩
theorem frq' {P : Program} {f : FuncId} {args : Array Value} {w0 : World} {z : FrW w0} {v : Value} (h : Calls P f args z.val fun e w' => e = .returned v ∧ z.val = w') :
    Calls P f args z.val fun e w'' => e = .returned v ∧ ∃ z' : FrW w0, w'' = z'.val :=
  h.mono fun _ w' ⟨he, hf⟩ => ⟨he, z, hf.symm⟩
theorem FrW.cell {w0 : World} {p : Addr} {v : Value} (h : w0.cell? p = some v) (z : FrW w0) : z.val.cell? p = some v := z.fr.keep h
end Go.Proofs.YthlngegfodomgaaDoor

/- A region that draws its order: a quiet head, whose callees may make memory, then its last operations in their one order. No condition but what each says. -/
namespace Go.Proofs.YthlngegfodomgaaDoor
open Go.RowKit

section
variable {P : Program} {md : Region.Mode} {ops : Array Oper} {C : World → Prop}
/-- The head, in whatever order. -/
def wpAnyM (P : Program) (md : Region.Mode) (ops : Array Oper) (C : World → Prop) (n : Nat) (L : Array Bool → Act → Prop) : Nat → Array Bool → Act → Prop
  | 0, listed, a => L listed a
  | f + 1, listed, a => Region.ready md ops listed ≠ [] ∧ ∀ i ∈ Region.ready md ops listed, i < n ∧ qOp P ops C i (wpAnyM P md ops C n L f (listed.setIfInBounds i true)) a
theorem wpAny_of_headQ {n g : Nat} {L : Array Bool → Act → Prop} {Q' : Exit → Act → World → Prop} (hL : ∀ listed a w, C w → L listed a → wpAny P md ops Q' g listed a w) :
    ∀ (f : Nat) (listed : Array Bool) (a : Act) (w : World), C w → wpAnyM P md ops C n L f listed a → wpAny P md ops Q' (f + g) listed a w
  | 0, listed, a, w, hw, h => by rw [Nat.zero_add]; exact hL _ _ _ hw h
  | f + 1, listed, a, w, hw, h => by
    rw [show f + 1 + g = (f + g) + 1 by omega]
    exact ⟨fun h0 => absurd h0 h.1, fun i hi => wpOp_of_qOp hw (fun a' w' hw' h' => wpAny_of_headQ hL f _ a' w' hw' h') (h.2 i hi).2⟩
theorem wpAnyM_first {n i : Nat} {oi : Oper} {v : Value} {L : Array Bool → Act → Prop} (hi : ops[i]? = some oi) (hsel : ∀ (j : Nat) (o : Oper) cs b, ops[j]? = some o → o.op ≠ .select cs b)
    (hs : Region.sinkB md ops n = true) (hc : Region.chainB md ops n = true) (hn : n < ops.size) (hin : i < n)
    (hdone : ∀ listed a, L listed a → ∀ j ∈ Region.ready md ops listed, n ≤ j) :
    ∀ (f : Nat) (listed : Array Bool) (a : Act), HeadInv md ops n listed →
      (∀ j oj, ops[j]? = some oj → j ≠ i → listed.getD j true = false → (∀ e ∈ oj.after, Region.binds md e = true → e.on ≠ i) → oi.apart ops oj = true) →
      i ∈ Region.ready md ops listed → YieldsIn P ops C oi v a →
      wpAnyM P md ops C n L f (listed.setIfInBounds i true) (a.put oi.dst v) → wpAnyM P md ops C n L (f + 1) listed a := by
  intro f
  induction f with
  | zero =>
    intro listed a inv _ hr hy H
    have hun := (mem_ready.1 hr).1
    refine ⟨fun h => (by rw [h] at hr; cases hr), fun j hj => ?_⟩
    have hjn : j < n := by
      rcases Nat.lt_or_ge j n with h | h
      · exact h
      · exact absurd hj (tail_waits hs hc hn inv _ i rfl hin hun j h)
    refine ⟨hjn, ?_⟩
    by_cases hji : j = i
    · subst hji; exact hy.qOp hi H
    · have := hdone _ _ H j (ready_mono hj hji)
      omega
  | succ f ih =>
    intro listed a inv hfree hr hy H
    have hun := (mem_ready.1 hr).1
    refine ⟨fun h => (by rw [h] at hr; cases hr), fun j hj => ?_⟩
    have hjn : j < n := by
      rcases Nat.lt_or_ge j n with h | h
      · exact h
      · exact absurd hj (tail_waits hs hc hn inv _ i rfl hin hun j h)
    refine ⟨hjn, ?_⟩
    by_cases hji : j = i
    · subst hji; exact hy.qOp hi H
    · have h1 := (H.2 j (ready_mono hj hji)).2
      obtain ⟨hjun, oj, hoj, hall⟩ := mem_ready.1 hj
      have hnot : ∀ e ∈ oj.after, Region.binds md e = true → e.on ≠ i := fun e he hb heq => by
        have h1 := hall e he hb
        rw [heq, getD_both hun] at h1
        cases h1
      have h2 := qOp_put hoj (hfree j oj hoj hji hjun hnot) (fun cs b => hsel i oi cs b hi) (fun cs b => hsel j oj cs b hoj) hy h1
      have hfree' : ∀ k ok, ops[k]? = some ok → k ≠ i → (listed.setIfInBounds j true).getD k true = false →
          (∀ e ∈ ok.after, Region.binds md e = true → e.on ≠ i) → oi.apart ops ok = true := fun k ok hk hki hun hno => by
        refine hfree k ok hk hki ?_ hno
        by_cases hjk : j = k
        · subst hjk; exact hjun
        · rw [getD_set_ne true hjk] at hun; exact hun
      refine qOp_mono (fun a' h3 => ih (listed.setIfInBounds j true) a' (inv.set hj hjn) hfree' (ready_mono hr (Ne.symm hji)) h3.1 ?_) h2
      rw [Array.setIfInBounds_comm _ _ hji]
      exact h3.2
theorem wpAnyM_lex {n g : Nat} {Lq : Act → Prop} (hsel : Region.noSelect ops = true) (hs : Region.sinkB md ops n = true) (hc : Region.chainB md ops n = true) (hn : n < ops.size) :
    ∀ (l : List Oper) (k : Nat) (listed : Array Bool) (a : Act), (∀ j, j < l.length → l[j]? = ops[k + j]?) → k + l.length = n → HeadInv md ops n listed →
    Region.lexHead md ops g l.length k listed = true → wpQuiet P ops C Lq l a →
    wpAnyM P md ops C n (fun listed' a' => Region.seqB md ops g n listed' = true ∧ Lq a') l.length listed a
  | [], k, listed, a, _, hk, _, hB, h => by
    have : k = n := by simpa using hk
    subst this
    exact ⟨by simpa [Region.lexHead] using hB, h⟩
  | o :: l, k, listed, a, hl, hk, inv, hB, h => by
    have h0 : ops[k]? = some o := by simpa using (hl 0 (by simp)).symm
    simp only [List.length_cons, Region.lexHead, Bool.and_eq_true] at hB
    obtain ⟨⟨hr, hf⟩, hB'⟩ := hB
    have hkn : k < n := by simp only [List.length_cons] at hk; omega
    have hr' : k ∈ Region.ready md ops listed := by simpa using hr
    have hst : qOp P ops C k (wpQuiet P ops C Lq l) a := by unfold qOp; simp only [h0]; exact h
    obtain ⟨v, hy, hK⟩ := yieldsIn_of_qOp h0 hst
    exact wpAnyM_first h0 (Region.noSelect_spec hsel) hs hc hn hkn (fun listed' a' hL => seqB_ready hL.1) l.length listed a inv (Region.free_spec h0 hf) hr' hy
      (wpAnyM_lex hsel hs hc hn l (k + 1) _ _ (fun j hj => by have := hl (j + 1) (by simp; omega); simpa [Nat.add_assoc, Nat.add_comm 1 j] using this) (by simp only [List.length_cons] at hk; omega) (inv.set hr' hkn) hB' hK)
/-- The head by one quiet walk, then the tail, in every world of the class. -/
theorem wp_region_quiet_tail {id : Nat} {Q : Exit → Act → World → Prop} {a : Act} {w : World} {l : List Oper} (n : Nat) (hm : P.follows .mixedOrders = true) (hB : Region.lexTailB .any l.toArray n = true) (hC : C { w with drawn := w.drawn + 1 })
    (h : wpQuiet P l.toArray C (fun a' => ∀ w', C w' → wpList P l.toArray Q (l.drop n) a' w') (l.take n) a) : (Code.region id l.toArray true).wp P Q a w := by
  simp only [Region.lexTailB, Bool.and_eq_true, decide_eq_true_eq] at hB
  obtain ⟨⟨⟨⟨hsel, hn⟩, hs⟩, hc⟩, hlex⟩ := hB
  have hn' : n < l.length := by simpa using hn
  have htl : (l.take n).length = n := by simp; omega
  have hdl : (l.drop n).length = l.toArray.size - n := by simp
  have inv0 : HeadInv .any l.toArray n (Array.replicate l.toArray.size false) :=
    ⟨by simp, fun j oj _ hl => (by rw [getD_replicate_false] at hl; cases hl), fun t _ ht => getD_in (by simpa using ht) (getD_replicate_false _ _)⟩
  have H := wpAnyM_lex (C := C) (md := .any) (g := l.toArray.size - n) hsel hs hc hn (l.take n) 0 _ a (fun j hj => by
    have hj' : j < n := by rw [htl] at hj; exact hj
    simp [hj']) (by simpa using htl) inv0 (by rw [htl]; exact hlex) h
  refine wp_region_any hm ?_
  have := wpAny_of_headQ (Q' := Q) (g := l.toArray.size - n) (fun listed a' w' hw' hL => by
    have := wpAny_of_seq (md := .any) (Q' := Q) (l.drop n) n listed a' w' (fun j => by simp [List.getElem?_drop]) (by rw [hdl]; exact hL.1) (hL.2 w' hw')
    rwa [hdl] at this) _ _ _ _ hC H
  rw [htl, show n + (l.toArray.size - n) = l.toArray.size by omega] at this
  exact this
end
/-- At the class of worlds in which all stands that stood. -/
theorem wp_region_frt {P : Program} {id : Nat} {Q : Exit → Act → World → Prop} {a : Act} {w : World} {l : List Oper} (n : Nat) (hm : P.follows .mixedOrders = true) (hB : Region.lexTailB .any l.toArray n = true)
    (h : wpQuiet P l.toArray (fun w' => ∃ z : FrW w, w' = z.val) (fun a' => ∀ w', (∃ z : FrW w, w' = z.val) → wpList P l.toArray Q (l.drop n) a' w') (l.take n) a) : (Code.region id l.toArray true).wp P Q a w :=
  wp_region_quiet_tail (C := fun w' => ∃ z : FrW w, w' = z.val) n hm hB ⟨⟨w.drew, (Fr.refl w).drew⟩, rfl⟩ h
end Go.Proofs.YthlngegfodomgaaDoor

/- A region that draws its order, walked by an invariant of what has come up: plain. No condition but what each says. -/
namespace Go.Proofs.YthlngegfodomgaaDoor
open Go.RowKit

section
variable {P : Program} {ops : Array Oper} {Q : Exit → Act → World → Prop} {md : Region.Mode}
/-- How many have not come up. -/
def still (l : Array Bool) : Nat := (l.toList.filter (!·)).length
theorem filter_set (l : List Bool) : ∀ i, l.getD i true = false → ((l.set i true).filter (!·)).length + 1 = (l.filter (!·)).length := by
  induction l with
  | nil => intro i h; simp at h
  | cons b l ih =>
    intro i h
    cases i with
    | zero => simp at h; subst h; simp
    | succ i =>
      have := ih i (by simpa using h)
      cases b <;> simp <;> omega
theorem still_set {l : Array Bool} {i : Nat} (h : l.getD i true = false) : still (l.setIfInBounds i true) + 1 = still l := by
  unfold still
  rw [Array.toList_setIfInBounds]
  exact filter_set l.toList i (by simpa [Array.getD_eq_getD_getElem?, List.getD_eq_getElem?_getD] using h)
theorem ready_iff {l : Array Bool} {i : Nat} : i ∈ Region.ready md ops l ↔ i < ops.size ∧ l.getD i true = false ∧ ((ops[i]?).map (·.after.all fun e => !Region.binds md e || l.getD e.on false)).getD false = true := by
  unfold Region.ready
  rw [List.mem_filter, List.mem_range, Bool.and_eq_true, Bool.not_eq_true']
theorem still_zero {l : Array Bool} (h : still l = 0) (i : Nat) : l.getD i true = true := by
  cases hg : l.getD i true with
  | true => rfl
  | false => have := still_set hg; omega
theorem wpAny_inv (Inv : Array Bool → Act → World → Prop) (hd : ∀ l a w, Inv l a w → Region.ready md ops l = [] → Q .normal a w)
    (hs : ∀ l a w i, Inv l a w → i ∈ Region.ready md ops l → wpOp P ops Q i (fun a' w' => Inv (l.setIfInBounds i true) a' w') a w) :
    ∀ fuel l a w, still l ≤ fuel → Inv l a w → wpAny P md ops Q fuel l a w := by
  intro fuel
  induction fuel with
  | zero =>
    intro l a w hl hi
    have hr : Region.ready md ops l = [] := List.eq_nil_iff_forall_not_mem.2 fun i hm => by
      have h1 := (ready_iff.1 hm).2.1
      rw [still_zero (by omega) i] at h1
      cases h1
    exact ⟨hr, hd _ _ _ hi hr⟩
  | succ fuel ih =>
    intro l a w hl hi
    refine ⟨hd _ _ _ hi, fun i hir => wpOp_mono (fun a w h => ih _ _ _ ?_ h) (hs _ _ _ _ hi hir)⟩
    have := still_set (ready_iff.1 hir).2.1
    omega
theorem wp_region_inv {id : Nat} {a : Act} {w : World} (hm : P.follows .mixedOrders = true) (Inv : Array Bool → Act → World → Prop) (h0 : Inv (Array.replicate ops.size false) a w.drew)
    (hd : ∀ l a w, Inv l a w → Region.ready .any ops l = [] → Q .normal a w)
    (hs : ∀ l a w i, Inv l a w → i ∈ Region.ready .any ops l → wpOp P ops Q i (fun a' w' => Inv (l.setIfInBounds i true) a' w') a w) : (Code.region id ops true).wp P Q a w :=
  wp_region_any hm (wpAny_inv Inv hd hs _ _ _ _ (by unfold still; simp) h0)
/-- One operation, by the walk of a list of one. -/
theorem wpOp_list {i : Nat} {o : Oper} {K : Act → World → Prop} {a : Act} {w : World} (ho : ops[i]? = some o) (h : wpList P ops (Exit.then K Q) [o] a w) (hQ : ∀ K : Act → World → Prop, LetsOut (Exit.then K Q) → LetsOut Q) : wpOp P ops Q i K a w := by
  unfold wpOp
  simp only [ho]
  unfold wpList at h
  split
  · rename_i hw
    rw [if_pos hw] at h
    rcases h with h | h
    · left
      unfold Oper.wp at *
      generalize (execOp a.eval o).run P w = r at *
      cases r with
      | ok n w' =>
        cases n <;> simp only [Oper.upon] at h ⊢ <;> first | exact h | exact Calls.mono h (fun e w'' he => by cases e <;> first | exact he | exact hQ _ he) | exact Rows.mono h (fun _ _ he => he)
      | halt x w' => cases x <;> simp only [Oper.upon] at h ⊢ <;> first | exact h | exact hQ _ h
    · exact .inr ⟨h.1, hQ _ h.2⟩
  · rename_i hw
    rw [if_neg hw] at h
    exact h
theorem letsOut_then (K : Act → World → Prop) (h : LetsOut (Exit.then K Q)) : LetsOut Q := h
end
end Go.Proofs.YthlngegfodomgaaDoor
