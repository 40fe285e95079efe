/- Base words of every walk: 'Fr w w'': what stood in w stands in w'; the tables that are listed; small laws. No condition beyond what each says. -/
import Derived.Test.YtadognaafgndnaaRows
import Derived.WalkKit
import Derived.WalkSpells
import Derived.WalkLawsBesides
import Derived.Lib.Hide
import Derived.Deep.MidRow
import Derived.Deep.WholeRow
import Derived.Deep.QuietTactic
import Derived.BigQuiet
import Derived.StillTail
import Derived.Orders
import Derived.OrdersHeld
import Derived.RangeFuncNested
import Derived.RangeFuncBound
import Derived.RangeFuncCalls
import Derived.RangeFuncLeaves
import Derived.RangeFuncFrom
set_option linter.all false
set_option linter.unusedVariables false
set_option linter.unusedSimpArgs false
set_option linter.unnecessarySimpa false
/- Base words of every walk: 'Fr w w'': what stood in w stands in w'; the tables that are listed; small laws. No condition beyond what each says. -/
namespace Go.Proofs.Ytadognaafgndnaa
open Go.RowKit

/-- All that stood in 'w' stands in 'w'' unchanged. -/
def Fr (w w' : World) : Prop := Below w.heap.size w w'
theorem Fr.refl (w : World) : Fr w w := Below.refl _ _
theorem Fr.size {w w' : World} (h : Fr w w') : w.heap.size ≤ w'.heap.size := Below.size h
theorem Fr.trans {a b c : World} (h : Fr a b) (k : Fr b c) : Fr a c := Below.trans h (Below.mono k h.size)
theorem Fr.trans' {a b c : World} (h : Fr a b) (k : Below a.heap.size b c) : Fr a c := Below.trans h k
theorem Fr.alloc {a w : World} (h : Fr a w) (o : Obj) : Fr a (w.alloc o) := Below.alloc h h.size o
theorem Fr.drew {a w : World} (h : Fr a w) : Fr a w.drew := Below.drew h
theorem Fr.drewN {a w : World} (h : Fr a w) (n : Nat) : Fr a (w.drewN n) := Below.trans h ⟨rfl, rfl, rfl, Nat.le_refl _, fun _ _ => rfl⟩
theorem Fr.setCell {a w : World} (h : Fr a w) {p : Addr} (hp : a.heap.size ≤ p.block) (u : Value) : Fr a (w.setCell p u) := Below.setCell h hp u
theorem Fr.cell {a w : World} (h : Fr a w) : ∀ b o, b < a.heap.size → w.cell? ⟨b, o, none⟩ = a.cell? ⟨b, o, none⟩ := fun b o hb => Below.cell (p := ⟨b, o, none⟩) h hb
theorem Fr.frozen {a w : World} (h : Fr a w) : ∀ b o, b < a.heap.size → w.frozen? ⟨b, o, none⟩ = a.frozen? ⟨b, o, none⟩ := fun b o hb => Below.frozen (p := ⟨b, o, none⟩) h hb
theorem Fr.block {a w : World} (h : Fr a w) {k : Nat} (hk : k < a.heap.size) : w.heap[k]? = a.heap[k]? := Below.block h k hk

theorem Fr.size1 {w w1 : World} {X : Obj} (h : Fr (w.alloc X) w1) : w.heap.size < w1.heap.size := by have := h.size; simp at this; omega
theorem Fr.size2 {w w1 : World} {X Y : Obj} (h : Fr ((w.alloc X).alloc Y) w1) : w.heap.size + 1 < w1.heap.size := by have := h.size; simp at this; omega
theorem Fr.size3 {w w1 : World} {X Y Z : Obj} (h : Fr (((w.alloc X).alloc Y).alloc Z) w1) : w.heap.size + 2 < w1.heap.size := by have := h.size; simp at this; omega
theorem lt_of_cell {w : World} {a : Addr} {v : Value} (h : w.cell? a = some v) : a.block < w.heap.size := by
  unfold World.cell? at h
  rcases Nat.lt_or_ge a.block w.heap.size with g | g
  · exact g
  · rw [Array.getElem?_eq_none g] at h; simp at h
theorem Fr.keep {a w : World} (h : Fr a w) {p : Addr} {v : Value} (hc : a.cell? p = some v) : w.cell? p = some v := (Below.cell h (lt_of_cell hc)).trans hc



/-- What every program's walks may need of the variables that are listed. -/
structure Env0 (w : World) : Prop where
  triv0 : True
theorem Env0.keep {a w : World} (h : Env0 a) (f : Fr a w) : Env0 w where
  triv0 := trivial
/-- The tables that are listed, as they stand in a world. -/
structure Env (w : World) : Prop extends Env0 w where
  triv : True
theorem Env.keep {a w : World} (h : Env a) (f : Fr a w) : Env w where
  toEnv0 := h.toEnv0.keep f
  triv := trivial
instance (w : World) : Coe (Env w) (Env0 w) := ⟨fun h => h.toEnv0⟩
theorem Env.alloc {w : World} (h : Env w) (o : Obj) : Env (w.alloc o) := h.keep ((Fr.refl w).alloc o)
theorem Env.drew {w : World} (h : Env w) : Env w.drew := h.keep ((Fr.refl w).drew)
theorem Env.drewN {w : World} (h : Env w) (n : Nat) : Env (w.drewN n) := h.keep ((Fr.refl w).drewN n)

/-- A slice of 'n' elements whose cells read 'xs', in a block of 'Z'. -/
structure SlAt (w : World) (Z : Nat → Prop) (v : Value) (n : Nat) (xs : List Value) : Prop where
  form : ∃ a cap, v = .slice a n cap ∧ n ≤ cap ∧ cap ≤ maxLen ∧ (xs = [] ∨ ∃ b off, a = some ⟨b, off, none⟩ ∧ Z b ∧ b < w.heap.size ∧ ∀ j u, xs[j]? = some u → w.cell? ⟨b, off + j, none⟩ = some u)
theorem SlAt.keep {w w' : World} {Z : Nat → Prop} {v : Value} {n : Nat} {xs : List Value} (h : SlAt w Z v n xs) (hs : w.heap.size ≤ w'.heap.size) (hb : ∀ k, Z k → k < w.heap.size → w'.heap[k]? = w.heap[k]?) : SlAt w' Z v n xs := by
  obtain ⟨a, cap, rfl, h1, h2, h3⟩ := h
  refine ⟨a, cap, rfl, h1, h2, ?_⟩
  rcases h3 with h3 | ⟨b, off, rfl, hz, hlt, hc⟩
  · exact .inl h3
  · exact .inr ⟨b, off, rfl, hz, by omega, fun j u hj => (World.cell?_of_block (a := ⟨b, off + j, none⟩) (hb b hz hlt)).trans (hc j u hj)⟩
theorem SlAt.fr {w w' : World} {Z : Nat → Prop} {v : Value} {n : Nat} {xs : List Value} (h : SlAt w Z v n xs) (f : Fr w w') : SlAt w' Z v n xs := h.keep f.size fun k _ hk => f.block hk
theorem SlAt.mono {w : World} {Z Z' : Nat → Prop} {v : Value} {n : Nat} {xs : List Value} (h : SlAt w Z v n xs) (hZ : ∀ k, Z k → Z' k) : SlAt w Z' v n xs := by
  obtain ⟨a, cap, rfl, h1, h2, h3⟩ := h
  refine ⟨a, cap, rfl, h1, h2, ?_⟩
  rcases h3 with h3 | ⟨b, off, rfl, hz, hlt, hc⟩
  · exact .inl h3
  · exact .inr ⟨b, off, rfl, hZ b hz, hlt, hc⟩
/-- What a call owns can be read. -/
theorem SlAt.own {w : World} {base : Nat} {e : TypeId} {size : Nat} {v : Value} {n : Nat} {xs : List Value} (h : w.ownsRow base e size v n xs) : SlAt w (base ≤ ·) v n xs := by
  obtain ⟨h1, h2⟩ := h
  rcases h2 with ⟨rfl, rfl⟩ | ⟨g, cap, cur, rfl, hg, hh, hc, hm, hs, ht⟩
  · have : xs = [] := List.eq_nil_of_length_eq_zero (by simpa using h1)
    exact ⟨none, 0, rfl, Nat.le_refl _, by decide, .inl this⟩
  · refine ⟨_, cap, rfl, hc, hm, .inr ⟨g, 0, rfl, hg, ?_, fun j u hj => ?_⟩⟩
    · rcases Nat.lt_or_ge g w.heap.size with h | h
      · exact h
      · rw [Array.getElem?_eq_none h] at hh; simp at hh
    · subst ht
      have hj2 : cur[j]? = some u := by
        have : j < n * size := by have := (List.getElem?_eq_some_iff.1 hj).1; simp at this; omega
        rw [List.getElem?_take_of_lt this] at hj
        simpa using hj
      simp [World.cell?, hh, hj2]
end Go.Proofs.Ytadognaafgndnaa

/- Whole structs read out of a box and laid into a new one: arms of a walk that do not open the cells. No condition but what each says. -/
namespace Go.Proofs.Ytadognaafgndnaa
open Go.RowKit

/-- A block that is these cells, and may be written. -/
def BoxAt (w : World) (b : Nat) (c : Array Value) (t : TypeId) : Prop := w.heap[b]? = some (.cells c t (0, 0))
theorem BoxAt.lt {w : World} {b : Nat} {c : Array Value} {t : TypeId} (h : BoxAt w b c t) : b < w.heap.size := by
  unfold BoxAt at h
  rcases Nat.lt_or_ge b w.heap.size with g | g
  · exact g
  · rw [Array.getElem?_eq_none g] at h; cases h
theorem BoxAt.fr {a w : World} {b : Nat} {c : Array Value} {t : TypeId} (h : BoxAt a b c t) (f : Fr a w) : BoxAt w b c t := (f.block h.lt).trans h
theorem BoxAt.alloc {w : World} {b : Nat} {c : Array Value} {t : TypeId} (h : BoxAt w b c t) (X : Obj) : BoxAt (w.alloc X) b c t := h.fr ((Fr.refl w).alloc X)
theorem BoxAt.drew {w : World} {b : Nat} {c : Array Value} {t : TypeId} (h : BoxAt w b c t) : BoxAt w.drew b c t := h
theorem BoxAt.drewN {w : World} {b : Nat} {c : Array Value} {t : TypeId} (h : BoxAt w b c t) (n : Nat) : BoxAt (w.drewN n) b c t := h
theorem BoxAt.set {w : World} {b : Nat} {c : Array Value} {t : TypeId} (h : BoxAt w b c t) {p : Addr} (hp : p.block ≠ b) (u : Value) : BoxAt (w.setCell p u) b c t := (Below.heap_setCell w p u b (fun e => hp e.symm)).trans h
theorem BoxAt.new (w : World) (c : Array Value) (t : TypeId) : BoxAt (w.alloc (.cells c t)) w.heap.size c t := heap_alloc_last w _
theorem BoxAt.new' (w : World) (c : Array Value) (t : TypeId) (n : Nat) (hn : n = w.heap.size) : BoxAt (w.alloc (.cells c t)) n c t := hn ▸ heap_alloc_last w _
theorem BoxAt.of_fr {w w1 : World} {c : Array Value} {t : TypeId} (h : Fr (w.alloc (.cells c t)) w1) : BoxAt w1 w.heap.size c t := (BoxAt.new w c t).fr h
theorem BoxAt.cell {w : World} {b : Nat} {c : Array Value} {t : TypeId} (h : BoxAt w b c t) (j : Nat) : w.cell? ⟨b, j, none⟩ = c[j]? := cell_of_row w b j c t (0, 0) h
theorem BoxAt.at {w : World} {b : Nat} {c : Array Value} {t : TypeId} (h : BoxAt w b c t) (j : Nat) {v : Value} (hv : c[j]? = some v) : w.cell? ⟨b, j, none⟩ = some v := (h.cell j).trans hv
theorem BoxAt.free {w : World} {b : Nat} {c : Array Value} {t : TypeId} (h : BoxAt w b c t) (j : Nat) : w.frozen? ⟨b, j, none⟩ = false := by
  unfold BoxAt at h
  simp [World.frozen?, h]

/-- A block laid anew, all else as it was. -/
structure Relaid (b : Nat) (c : Array Value) (t : TypeId) (w w' : World) : Prop where
  os : w'.os = w.os
  tape : w'.tape = w.tape
  output : w'.output = w.output
  size : w'.heap.size = w.heap.size
  box : BoxAt w' b c t
  other : ∀ k, k ≠ b → w'.heap[k]? = w.heap[k]?
theorem Relaid.boxOther {b : Nat} {c : Array Value} {t : TypeId} {w w' : World} (h : Relaid b c t w w') {d : Nat} {e : Array Value} {u : TypeId} (hB : BoxAt w d e u) (hd : d ≠ b) : BoxAt w' d e u := (h.other d hd).trans hB
theorem Relaid.fr {b : Nat} {c : Array Value} {t : TypeId} {a w w' : World} (h : Relaid b c t w w') (f : Fr a w) (hb : a.heap.size ≤ b) : Fr a w' :=
  ⟨h.os.trans f.os, h.tape.trans f.tape, h.output.trans f.output, by rw [h.size]; exact f.size, fun k hk => (h.other k (by omega)).trans (f.block hk)⟩
section
variable {P : Program} {ops : Array Oper} {rest : List Oper} {o : Oper} {a : Act} {Q : Exit → Act → World → Prop}
/-- The next operation is this one (cheap to ask ahead of a law that is dear to try). -/
theorem wpList_here {w : World} (i : Op) (ho : o.op = i) (h : wpList P ops Q (o :: rest) a w) : wpList P ops Q (o :: rest) a w := h
/-- A whole struct is read out of its block. -/
theorem wpList_load_box {w : World} (ty : TypeId) (x : Operand) (ho : o.op = .load ty x)
    (g : Nat) (hx : a.eval x = .pointer (some ⟨g, 0, none⟩)) (cs : Array Value) (hg : BoxAt w g cs ty) (d : TypeDesc)
    (hu : P.underlying ty = some d) (hd : (match d with | .struct _ | .array _ _ => true | _ => false) = true) (hi : (P.info? ty).map (·.size) = some cs.size)
    (hw : Region.wanted o (yielded ops a.tmps) = true) (h : wpList P ops Q rest (a.put o.dst (.agg cs)) w) : wpList P ops Q (o :: rest) a w :=
  wpList_step fun K hK => by
    simp only [hw, if_true]
    exact wp_load_row ty x ho g hx ty cs (0, 0) d hg hu hd hi (hK _ _ h)
/-- A whole struct is laid into the newest block. -/
theorem wpList_store_new {w : World} (ty : TypeId) (x y : Operand) (ho : o.op = .store ty x y) (c c' : Array Value) (n : Nat) (hn : n = w.heap.size)
    (hx : a.eval x = .pointer (some ⟨n, 0, none⟩)) (hy : a.eval y = .agg c') (hi : (P.info? ty).map (·.size) = some c'.size) (hs : c.size = c'.size) (h1 : c'.all (·.oneCell') = true)
    (hw : Region.wanted o (yielded ops a.tmps) = true) (hdst : o.dst = none) (h : wpList P ops Q rest a (w.alloc (.cells c' ty))) : wpList P ops Q (o :: rest) a (w.alloc (.cells c ty)) :=
  wpList_step fun K hK => by
    subst hn
    simp only [hw, if_true]
    have hp : a.put o.dst undef = a := by rw [hdst]; rfl
    unfold Oper.wp execOp
    simp only [ho, hx, hy, Sem.run_bind, run_storeAt_new w ty c c' hi hs h1, Result.andThen_ok, Sem.run_pure]
    show K (a.put o.dst undef) _
    rw [hp]
    exact hK _ _ h
/-- A whole struct is laid into a block that is there. -/
theorem wpList_store_old {w : World} (ty : TypeId) (x y : Operand) (ho : o.op = .store ty x y) (b : Nat) (c c' : Array Value)
    (hx : a.eval x = .pointer (some ⟨b, 0, none⟩)) (hy : a.eval y = .agg c') (hB : BoxAt w b c ty) (hi : (P.info? ty).map (·.size) = some c'.size) (hs : c.size = c'.size) (h1 : c'.all (·.oneCell') = true)
    (hw : Region.wanted o (yielded ops a.tmps) = true) (hdst : o.dst = none) (h : ∀ w', Relaid b c' ty w w' → wpList P ops Q rest a w') : wpList P ops Q (o :: rest) a w :=
  wpList_step fun K hK => by
    simp only [hw, if_true]
    have hst : (Instr.storeAt ty (.pointer (some ⟨b, 0, none⟩)) (.agg c')).run P w = .ok () (w.setRow b c') := by
      simp only [Instr.storeAt, Instr.sureAddr, Sem.run_bind, Sem.run_pure, Result.andThen]
      exact run_storeVar_row w b ty ty c c' hB hi hs h1
    have hp : a.put o.dst undef = a := by rw [hdst]; rfl
    unfold Oper.wp execOp
    simp only [ho, hx, hy, Sem.run_bind, hst, Result.andThen_ok, Sem.run_pure]
    show K (a.put o.dst undef) _
    rw [hp]
    exact hK _ _ (h _ ⟨rfl, rfl, rfl, by simp, setRow_heap w b c c' ty _ hB, fun k hk => setRow_other w b k c' hk⟩)
end
end Go.Proofs.Ytadognaafgndnaa

/- A region that draws its order, whose operations read and whose callees only make memory: walked once. No condition but what each says. -/
namespace Go.Proofs.Ytadognaafgndnaa
open Go.RowKit

/-- The worlds in which all that stood in 'w0' stands. -/
structure FrW (w0 : World) where
  val : World
  fr : Fr w0 val
instance (w0 : World) : Nonempty (FrW w0) := ⟨⟨w0, Fr.refl w0⟩⟩
theorem wp_region_fr {P : Program} {id : Nat} {Q : Exit → Act → World → Prop} {a : Act} {w : World} {l : List Oper} (hm : P.follows .mixedOrders = true) (hB : Region.lexB .any l.toArray = true)
    (h : wpQuiet P l.toArray (fun w' => ∃ z : FrW w, w' = z.val) (fun a' => ∀ w', (∃ z : FrW w, w' = z.val) → Q .normal a' w') l a) : (Code.region id l.toArray true).wp P Q a w :=
  wp_region_quiet (C := fun w' => ∃ z : FrW w, w' = z.val) hm hB ⟨⟨w.drew, (Fr.refl w).drew⟩, rfl⟩ (by simpa using h)
/-- A callee that only makes memory. -/
theorem frq {P : Program} {f : FuncId} {args : Array Value} {w0 : World} {z : FrW w0} {v : Value} (h : Calls P f args z.val fun e w' => e = .returned v ∧ Fr z.val w') :
    Calls P f args z.val fun e w'' => e = .returned v ∧ ∃ z' : FrW w0, w'' = z'.val :=
  h.mono fun _ w' ⟨he, hf⟩ => ⟨he, ⟨w', z.fr.trans hf⟩, rfl⟩
theorem frq' {P : Program} {f : FuncId} {args : Array Value} {w0 : World} {z : FrW w0} {v : Value} (h : Calls P f args z.val fun e w' => e = .returned v ∧ z.val = w') :
    Calls P f args z.val fun e w'' => e = .returned v ∧ ∃ z' : FrW w0, w'' = z'.val :=
  h.mono fun _ w' ⟨he, hf⟩ => ⟨he, z, hf.symm⟩
theorem FrW.cell {w0 : World} {p : Addr} {v : Value} (h : w0.cell? p = some v) (z : FrW w0) : z.val.cell? p = some v := z.fr.keep h
end Go.Proofs.Ytadognaafgndnaa

/- A region that draws its order: a quiet head, whose callees may make memory, then its last operations in their one order. No condition but what each says. -/
namespace Go.Proofs.Ytadognaafgndnaa
open Go.RowKit

section
variable {P : Program} {md : Region.Mode} {ops : Array Oper} {C : World → Prop}
/-- The head, in whatever order. -/
def wpAnyM (P : Program) (md : Region.Mode) (ops : Array Oper) (C : World → Prop) (n : Nat) (L : Array Bool → Act → Prop) : Nat → Array Bool → Act → Prop
  | 0, listed, a => L listed a
  | f + 1, listed, a => Region.ready md ops listed ≠ [] ∧ ∀ i ∈ Region.ready md ops listed, i < n ∧ qOp P ops C i (wpAnyM P md ops C n L f (listed.setIfInBounds i true)) a
theorem wpAny_of_headQ {n g : Nat} {L : Array Bool → Act → Prop} {Q' : Exit → Act → World → Prop} (hL : ∀ listed a w, C w → L listed a → wpAny P md ops Q' g listed a w) :
    ∀ (f : Nat) (listed : Array Bool) (a : Act) (w : World), C w → wpAnyM P md ops C n L f listed a → wpAny P md ops Q' (f + g) listed a w
  | 0, listed, a, w, hw, h => by rw [Nat.zero_add]; exact hL _ _ _ hw h
  | f + 1, listed, a, w, hw, h => by
    rw [show f + 1 + g = (f + g) + 1 by omega]
    exact ⟨fun h0 => absurd h0 h.1, fun i hi => wpOp_of_qOp hw (fun a' w' hw' h' => wpAny_of_headQ hL f _ a' w' hw' h') (h.2 i hi).2⟩
theorem wpAnyM_first {n i : Nat} {oi : Oper} {v : Value} {L : Array Bool → Act → Prop} (hi : ops[i]? = some oi) (hsel : ∀ (j : Nat) (o : Oper) cs b, ops[j]? = some o → o.op ≠ .select cs b)
    (hs : Region.sinkB md ops n = true) (hc : Region.chainB md ops n = true) (hn : n < ops.size) (hin : i < n)
    (hdone : ∀ listed a, L listed a → ∀ j ∈ Region.ready md ops listed, n ≤ j) :
    ∀ (f : Nat) (listed : Array Bool) (a : Act), HeadInv md ops n listed →
      (∀ j oj, ops[j]? = some oj → j ≠ i → listed.getD j true = false → (∀ e ∈ oj.after, Region.binds md e = true → e.on ≠ i) → oi.apart ops oj = true) →
      i ∈ Region.ready md ops listed → YieldsIn P ops C oi v a →
      wpAnyM P md ops C n L f (listed.setIfInBounds i true) (a.put oi.dst v) → wpAnyM P md ops C n L (f + 1) listed a := by
  intro f
  induction f with
  | zero =>
    intro listed a inv _ hr hy H
    have hun := (mem_ready.1 hr).1
    refine ⟨fun h => (by rw [h] at hr; cases hr), fun j hj => ?_⟩
    have hjn : j < n := by
      rcases Nat.lt_or_ge j n with h | h
      · exact h
      · exact absurd hj (tail_waits hs hc hn inv _ i rfl hin hun j h)
    refine ⟨hjn, ?_⟩
    by_cases hji : j = i
    · subst hji; exact hy.qOp hi H
    · have := hdone _ _ H j (ready_mono hj hji)
      omega
  | succ f ih =>
    intro listed a inv hfree hr hy H
    have hun := (mem_ready.1 hr).1
    refine ⟨fun h => (by rw [h] at hr; cases hr), fun j hj => ?_⟩
    have hjn : j < n := by
      rcases Nat.lt_or_ge j n with h | h
      · exact h
      · exact absurd hj (tail_waits hs hc hn inv _ i rfl hin hun j h)
    refine ⟨hjn, ?_⟩
    by_cases hji : j = i
    · subst hji; exact hy.qOp hi H
    · have h1 := (H.2 j (ready_mono hj hji)).2
      obtain ⟨hjun, oj, hoj, hall⟩ := mem_ready.1 hj
      have hnot : ∀ e ∈ oj.after, Region.binds md e = true → e.on ≠ i := fun e he hb heq => by
        have h1 := hall e he hb
        rw [heq, getD_both hun] at h1
        cases h1
      have h2 := qOp_put hoj (hfree j oj hoj hji hjun hnot) (fun cs b => hsel i oi cs b hi) (fun cs b => hsel j oj cs b hoj) hy h1
      have hfree' : ∀ k ok, ops[k]? = some ok → k ≠ i → (listed.setIfInBounds j true).getD k true = false →
          (∀ e ∈ ok.after, Region.binds md e = true → e.on ≠ i) → oi.apart ops ok = true := fun k ok hk hki hun hno => by
        refine hfree k ok hk hki ?_ hno
        by_cases hjk : j = k
        · subst hjk; exact hjun
        · rw [getD_set_ne true hjk] at hun; exact hun
      refine qOp_mono (fun a' h3 => ih (listed.setIfInBounds j true) a' (inv.set hj hjn) hfree' (ready_mono hr (Ne.symm hji)) h3.1 ?_) h2
      rw [Array.setIfInBounds_comm _ _ hji]
      exact h3.2
theorem wpAnyM_lex {n g : Nat} {Lq : Act → Prop} (hsel : Region.noSelect ops = true) (hs : Region.sinkB md ops n = true) (hc : Region.chainB md ops n = true) (hn : n < ops.size) :
    ∀ (l : List Oper) (k : Nat) (listed : Array Bool) (a : Act), (∀ j, j < l.length → l[j]? = ops[k + j]?) → k + l.length = n → HeadInv md ops n listed →
    Region.lexHead md ops g l.length k listed = true → wpQuiet P ops C Lq l a →
    wpAnyM P md ops C n (fun listed' a' => Region.seqB md ops g n listed' = true ∧ Lq a') l.length listed a
  | [], k, listed, a, _, hk, _, hB, h => by
    have : k = n := by simpa using hk
    subst this
    exact ⟨by simpa [Region.lexHead] using hB, h⟩
  | o :: l, k, listed, a, hl, hk, inv, hB, h => by
    have h0 : ops[k]? = some o := by simpa using (hl 0 (by simp)).symm
    simp only [List.length_cons, Region.lexHead, Bool.and_eq_true] at hB
    obtain ⟨⟨hr, hf⟩, hB'⟩ := hB
    have hkn : k < n := by simp only [List.length_cons] at hk; omega
    have hr' : k ∈ Region.ready md ops listed := by simpa using hr
    have hst : qOp P ops C k (wpQuiet P ops C Lq l) a := by unfold qOp; simp only [h0]; exact h
    obtain ⟨v, hy, hK⟩ := yieldsIn_of_qOp h0 hst
    exact wpAnyM_first h0 (Region.noSelect_spec hsel) hs hc hn hkn (fun listed' a' hL => seqB_ready hL.1) l.length listed a inv (Region.free_spec h0 hf) hr' hy
      (wpAnyM_lex hsel hs hc hn l (k + 1) _ _ (fun j hj => by have := hl (j + 1) (by simp; omega); simpa [Nat.add_assoc, Nat.add_comm 1 j] using this) (by simp only [List.length_cons] at hk; omega) (inv.set hr' hkn) hB' hK)
/-- The head by one quiet walk, then the tail, in every world of the class. -/
theorem wp_region_quiet_tail {id : Nat} {Q : Exit → Act → World → Prop} {a : Act} {w : World} {l : List Oper} (n : Nat) (hm : P.follows .mixedOrders = true) (hB : Region.lexTailB .any l.toArray n = true) (hC : C { w with drawn := w.drawn + 1 })
    (h : wpQuiet P l.toArray C (fun a' => ∀ w', C w' → wpList P l.toArray Q (l.drop n) a' w') (l.take n) a) : (Code.region id l.toArray true).wp P Q a w := by
  simp only [Region.lexTailB, Bool.and_eq_true, decide_eq_true_eq] at hB
  obtain ⟨⟨⟨⟨hsel, hn⟩, hs⟩, hc⟩, hlex⟩ := hB
  have hn' : n < l.length := by simpa using hn
  have htl : (l.take n).length = n := by simp; omega
  have hdl : (l.drop n).length = l.toArray.size - n := by simp
  have inv0 : HeadInv .any l.toArray n (Array.replicate l.toArray.size false) :=
    ⟨by simp, fun j oj _ hl => (by rw [getD_replicate_false] at hl; cases hl), fun t _ ht => getD_in (by simpa using ht) (getD_replicate_false _ _)⟩
  have H := wpAnyM_lex (C := C) (md := .any) (g := l.toArray.size - n) hsel hs hc hn (l.take n) 0 _ a (fun j hj => by
    have hj' : j < n := by rw [htl] at hj; exact hj
    simp [hj']) (by simpa using htl) inv0 (by rw [htl]; exact hlex) h
  refine wp_region_any hm ?_
  have := wpAny_of_headQ (Q' := Q) (g := l.toArray.size - n) (fun listed a' w' hw' hL => by
    have := wpAny_of_seq (md := .any) (Q' := Q) (l.drop n) n listed a' w' (fun j => by simp [List.getElem?_drop]) (by rw [hdl]; exact hL.1) (hL.2 w' hw')
    rwa [hdl] at this) _ _ _ _ hC H
  rw [htl, show n + (l.toArray.size - n) = l.toArray.size by omega] at this
  exact this
end
/-- At the class of worlds in which all stands that stood. -/
theorem wp_region_frt {P : Program} {id : Nat} {Q : Exit → Act → World → Prop} {a : Act} {w : World} {l : List Oper} (n : Nat) (hm : P.follows .mixedOrders = true) (hB : Region.lexTailB .any l.toArray n = true)
    (h : wpQuiet P l.toArray (fun w' => ∃ z : FrW w, w' = z.val) (fun a' => ∀ w', (∃ z : FrW w, w' = z.val) → wpList P l.toArray Q (l.drop n) a' w') (l.take n) a) : (Code.region id l.toArray true).wp P Q a w :=
  wp_region_quiet_tail (C := fun w' => ∃ z : FrW w, w' = z.val) n hm hB ⟨⟨w.drew, (Fr.refl w).drew⟩, rfl⟩ h
end Go.Proofs.Ytadognaafgndnaa

/- A region that draws its order, walked by an invariant of what has come up: plain. No condition but what each says. -/
namespace Go.Proofs.Ytadognaafgndnaa
open Go.RowKit

section
variable {P : Program} {ops : Array Oper} {Q : Exit → Act → World → Prop} {md : Region.Mode}
/-- How many have not come up. -/
def still (l : Array Bool) : Nat := (l.toList.filter (!·)).length
theorem filter_set (l : List Bool) : ∀ i, l.getD i true = false → ((l.set i true).filter (!·)).length + 1 = (l.filter (!·)).length := by
  induction l with
  | nil => intro i h; simp at h
  | cons b l ih =>
    intro i h
    cases i with
    | zero => simp at h; subst h; simp
    | succ i =>
      have := ih i (by simpa using h)
      cases b <;> simp <;> omega
theorem still_set {l : Array Bool} {i : Nat} (h : l.getD i true = false) : still (l.setIfInBounds i true) + 1 = still l := by
  unfold still
  rw [Array.toList_setIfInBounds]
  exact filter_set l.toList i (by simpa [Array.getD_eq_getD_getElem?, List.getD_eq_getElem?_getD] using h)
theorem ready_iff {l : Array Bool} {i : Nat} : i ∈ Region.ready md ops l ↔ i < ops.size ∧ l.getD i true = false ∧ ((ops[i]?).map (·.after.all fun e => !Region.binds md e || l.getD e.on false)).getD false = true := by
  unfold Region.ready
  rw [List.mem_filter, List.mem_range, Bool.and_eq_true, Bool.not_eq_true']
theorem still_zero {l : Array Bool} (h : still l = 0) (i : Nat) : l.getD i true = true := by
  cases hg : l.getD i true with
  | true => rfl
  | false => have := still_set hg; omega
theorem wpAny_inv (Inv : Array Bool → Act → World → Prop) (hd : ∀ l a w, Inv l a w → Region.ready md ops l = [] → Q .normal a w)
    (hs : ∀ l a w i, Inv l a w → i ∈ Region.ready md ops l → wpOp P ops Q i (fun a' w' => Inv (l.setIfInBounds i true) a' w') a w) :
    ∀ fuel l a w, still l ≤ fuel → Inv l a w → wpAny P md ops Q fuel l a w := by
  intro fuel
  induction fuel with
  | zero =>
    intro l a w hl hi
    have hr : Region.ready md ops l = [] := List.eq_nil_iff_forall_not_mem.2 fun i hm => by
      have h1 := (ready_iff.1 hm).2.1
      rw [still_zero (by omega) i] at h1
      cases h1
    exact ⟨hr, hd _ _ _ hi hr⟩
  | succ fuel ih =>
    intro l a w hl hi
    refine ⟨hd _ _ _ hi, fun i hir => wpOp_mono (fun a w h => ih _ _ _ ?_ h) (hs _ _ _ _ hi hir)⟩
    have := still_set (ready_iff.1 hir).2.1
    omega
theorem wp_region_inv {id : Nat} {a : Act} {w : World} (hm : P.follows .mixedOrders = true) (Inv : Array Bool → Act → World → Prop) (h0 : Inv (Array.replicate ops.size false) a w.drew)
    (hd : ∀ l a w, Inv l a w → Region.ready .any ops l = [] → Q .normal a w)
    (hs : ∀ l a w i, Inv l a w → i ∈ Region.ready .any ops l → wpOp P ops Q i (fun a' w' => Inv (l.setIfInBounds i true) a' w') a w) : (Code.region id ops true).wp P Q a w :=
  wp_region_any hm (wpAny_inv Inv hd hs _ _ _ _ (by unfold still; simp) h0)
/-- One operation, by the walk of a list of one. -/
theorem wpOp_list {i : Nat} {o : Oper} {K : Act → World → Prop} {a : Act} {w : World} (ho : ops[i]? = some o) (h : wpList P ops (Exit.then K Q) [o] a w) (hQ : ∀ K : Act → World → Prop, LetsOut (Exit.then K Q) → LetsOut Q) : wpOp P ops Q i K a w := by
  unfold wpOp
  simp only [ho]
  unfold wpList at h
  split
  · rename_i hw
    rw [if_pos hw] at h
    rcases h with h | h
    · left
      unfold Oper.wp at *
      generalize (execOp a.eval o).run P w = r at *
      cases r with
      | ok n w' =>
        cases n <;> simp only [Oper.upon] at h ⊢ <;> first | exact h | exact Calls.mono h (fun e w'' he => by cases e <;> first | exact he | exact hQ _ he) | exact Rows.mono h (fun _ _ he => he)
      | halt x w' => cases x <;> simp only [Oper.upon] at h ⊢ <;> first | exact h | exact hQ _ h
    · exact .inr ⟨h.1, hQ _ h.2⟩
  · rename_i hw
    rw [if_neg hw] at h
    exact h
theorem letsOut_then (K : Act → World → Prop) (h : LetsOut (Exit.then K Q)) : LetsOut Q := h
end
end Go.Proofs.Ytadognaafgndnaa

/- Several structs made at once, in whatever order: 'a, b, c = f(), g(), h' where a, b, c are boxes. No condition but what each says. -/
namespace Go.Proofs.Ytadognaafgndnaa
open Go.RowKit

theorem getD_set {l : Array Bool} {i j : Nat} : (l.setIfInBounds i true).getD j false = (l.getD j false || (decide (i = j) && decide (j < l.size))) := by
  simp only [Array.getD_eq_getD_getElem?, Array.getElem?_setIfInBounds]
  by_cases h : i = j
  · subst h
    by_cases h2 : i < l.size
    · simp [h2]
    · simp [h2]
  · simp [h]
theorem put_size (a : Act) (d : Option Tmp) (v : Value) : (a.put d v).tmps.size = a.tmps.size := by
  cases d <;> simp [Act.put]
/-- The frame with these slots laid. -/
def laidT (t0 : Array Value) (e p : Nat → Tmp) (v : Nat → Array Value) (b : Nat → Nat) : Nat → Array Value
  | 0 => t0
  | k + 1 => ((laidT t0 e p v b k).setIfInBounds (e k) (.agg (v k))).setIfInBounds (p k) (.pointer (some ⟨b k, 0, none⟩))
section
variable {t0 : Array Value} {e p : Nat → Tmp} {v : Nat → Array Value} {b : Nat → Nat}
theorem laidT_size (n : Nat) : (laidT t0 e p v b n).size = t0.size := by
  induction n with
  | zero => rfl
  | succ k ih => simp [laidT, ih]
theorem laidT_other {n j : Nat} (h : ∀ k, k < n → j ≠ e k ∧ j ≠ p k) : (laidT t0 e p v b n)[j]? = t0[j]? := by
  induction n with
  | zero => rfl
  | succ k ih =>
    have h1 := h k (by omega)
    unfold laidT
    rw [Array.getElem?_setIfInBounds_ne (Ne.symm h1.2), Array.getElem?_setIfInBounds_ne (Ne.symm h1.1)]
    exact ih fun q hq => h q (by omega)
theorem laidT_at {n k : Nat} (hk : k < n) (hE : ∀ i j, i < n → j < n → i ≠ j → e i ≠ e j) (hP : ∀ i j, i < n → j < n → i ≠ j → p i ≠ p j) (hEP : ∀ i j, i < n → j < n → e i ≠ p j) (he : ∀ i, i < n → e i < t0.size ∧ p i < t0.size) :
    (laidT t0 e p v b n)[e k]? = some (.agg (v k)) ∧ (laidT t0 e p v b n)[p k]? = some (.pointer (some ⟨b k, 0, none⟩)) := by
  induction n with
  | zero => omega
  | succ m ih =>
    unfold laidT
    by_cases hkm : k = m
    · subst hkm
      refine ⟨?_, ?_⟩
      · rw [Array.getElem?_setIfInBounds_ne (Ne.symm (hEP k k hk hk)), Array.getElem?_setIfInBounds_self_of_lt (by rw [laidT_size]; exact (he k hk).1)]
      · rw [Array.getElem?_setIfInBounds_self_of_lt (by rw [Array.size_setIfInBounds, laidT_size]; exact (he k hk).2)]
    · obtain ⟨h1, h2⟩ := ih (by omega) (fun i j hi hj => hE i j (by omega) (by omega)) (fun i j hi hj => hP i j (by omega) (by omega)) (fun i j hi hj => hEP i j (by omega) (by omega)) (fun i hi => he i (by omega))
      refine ⟨?_, ?_⟩
      · rw [Array.getElem?_setIfInBounds_ne (Ne.symm (hEP k m hk (by omega))), Array.getElem?_setIfInBounds_ne (Ne.symm (hE k m hk (by omega) hkm))]
        exact h1
      · rw [Array.getElem?_setIfInBounds_ne (Ne.symm (hP k m hk (by omega) hkm)), Array.getElem?_setIfInBounds_ne (hEP m k (by omega) hk)]
        exact h2
end
/-- What stands when so much has come up: values, boxes, what they hold. -/
structure Boxes (n : Nat) (t0 : Array Value) (d0 : List Deferred) (e p : Nat → Tmp) (v : Nat → Array Value) (Z : Array Value) (T : TypeId) (W0 : World) (b : Nat → Nat) (l : Array Bool) (a : Act) (w : World) : Prop where
  lsize : l.size = 3 * n
  closed : ∀ k, k < n → l.getD (2 * n + k) false = true → l.getD k false = true ∧ l.getD (n + k) false = true
  size : a.tmps.size = t0.size
  defers : a.defers = d0
  other : ∀ j, (∀ k, k < n → j ≠ e k ∧ j ≠ p k) → a.tmps[j]? = t0[j]?
  val : ∀ k, k < n → l.getD k false = true → a.tmps[e k]? = some (.agg (v k))
  ptr : ∀ k, k < n → l.getD (n + k) false = true → a.tmps[p k]? = some (.pointer (some ⟨b k, 0, none⟩))
  fr : Fr W0 w
  box : ∀ k, k < n → l.getD (n + k) false = true → BoxAt w (b k) (if l.getD (2 * n + k) false then v k else Z) T ∧ W0.heap.size ≤ b k
  inj : ∀ i j, i < n → j < n → i ≠ j → l.getD (n + i) false = true → l.getD (n + j) false = true → b i ≠ b j
section
variable {P : Program} {ops : Array Oper} {Q : Exit → Act → World → Prop} {n : Nat} {t0 : Array Value} {d0 : List Deferred} {e p : Nat → Tmp} {v : Nat → Array Value} {Z : Array Value} {T : TypeId} {W0 : World}
theorem wp_region_boxes {id : Nat} (hm : P.follows .mixedOrders = true) (hsz : ops.size = 3 * n)
    (hE : ∀ i j, i < n → j < n → i ≠ j → e i ≠ e j) (hP : ∀ i j, i < n → j < n → i ≠ j → p i ≠ p j) (hEP : ∀ i j, i < n → j < n → e i ≠ p j) (hlt : ∀ i, i < n → e i < t0.size ∧ p i < t0.size)
    (hev : ∀ k, k < n → ∀ (K : Act → World → Prop) a w, Fr W0 w → (∀ w', Fr w w' → K (a.put (some (e k)) (.agg (v k))) w') → (∀ j, (∀ k, k < n → j ≠ e k ∧ j ≠ p k) → a.tmps[j]? = t0[j]?) → wpOp P ops Q k K a w)
    (hal : ∀ k, k < n → ∀ (K : Act → World → Prop) a w, K (a.put (some (p k)) (.pointer (some ⟨w.heap.size, 0, none⟩))) (w.alloc (.cells Z T)) → wpOp P ops Q (n + k) K a w)
    (hst : ∀ k, k < n → ∀ (K : Act → World → Prop) a w b, a.tmps[p k]? = some (.pointer (some ⟨b, 0, none⟩)) → a.tmps[e k]? = some (.agg (v k)) → BoxAt w b Z T → (∀ w', Relaid b (v k) T w w' → K a w') → wpOp P ops Q (2 * n + k) K a w)
    (hw : ∀ k, k < n → ∀ l, 2 * n + k ∈ Region.ready .any ops l → l.getD k false = true ∧ l.getD (n + k) false = true)
    (hfull : ∀ l, l.size = 3 * n → Region.ready .any ops l = [] → ∀ i, i < 3 * n → l.getD i false = true)
    (h : ∀ b w, Fr W0 w → (∀ k, k < n → BoxAt w (b k) (v k) T ∧ W0.heap.size ≤ b k) → (∀ i j, i < n → j < n → i ≠ j → b i ≠ b j) → Q .normal ⟨laidT t0 e p v b n, d0⟩ w) :
    (Code.region id ops true).wp P Q ⟨t0, d0⟩ W0 := by
  refine wp_region_inv hm (fun l a w => ∃ b, Boxes n t0 d0 e p v Z T W0 b l a w) ?_ ?_ ?_
  · refine ⟨fun _ => 0, { lsize := by simp [hsz], closed := fun k _ hl => ?_, size := rfl, defers := rfl, other := fun _ _ => rfl, val := fun k _ hl => ?_, ptr := fun k _ hl => ?_, fr := (Fr.refl W0).drew, box := fun k _ hl => ?_, inj := fun i j _ _ _ hl => ?_ }⟩
    all_goals (rw [getD_replicate_false] at hl; cases hl)
  · rintro l a w ⟨b, H⟩ hr
    have hf := hfull l H.lsize hr
    have ha : a = ⟨laidT t0 e p v b n, d0⟩ := by
      obtain ⟨tm, df⟩ := a
      have hd : df = d0 := H.defers
      subst hd
      congr 1
      apply Array.ext_getElem?
      intro j
      by_cases hj : ∃ k, k < n ∧ (j = e k ∨ j = p k)
      · obtain ⟨k, hk, hj⟩ := hj
        have hL := laidT_at (v := v) (b := b) hk hE hP hEP hlt
        rcases hj with rfl | rfl
        · rw [hL.1]; exact H.val k hk (hf k (by omega))
        · rw [hL.2]; exact H.ptr k hk (hf (n + k) (by omega))
      · have hj2 : ∀ k, k < n → j ≠ e k ∧ j ≠ p k := fun k hk => ⟨fun e => hj ⟨k, hk, .inl e⟩, fun e => hj ⟨k, hk, .inr e⟩⟩
        rw [laidT_other hj2]
        exact H.other j hj2
    rw [ha]
    refine h b w H.fr (fun k hk => ?_) (fun i j hi hj hne => H.inj i j hi hj hne (hf _ (by omega)) (hf _ (by omega)))
    have := H.box k hk (hf _ (by omega))
    rw [hf (2 * n + k) (by omega)] at this
    exact this
  · rintro l a w i ⟨b, H⟩ hr
    obtain ⟨hi, hun, _⟩ := ready_iff.1 hr
    rw [hsz] at hi
    have hil : i < l.size := by rw [H.lsize]; exact hi
    have hunf : l.getD i false = false := getD_both hun
    have hG : ∀ j, (l.setIfInBounds i true).getD j false = (l.getD j false || decide (i = j)) := fun j => by
      rw [getD_set]
      by_cases hj : i = j
      · subst hj; simp [hil]
      · simp [hj]
    by_cases h1 : i < n
    · -- a value
      refine hev i h1 _ a w H.fr (fun w' hf => ⟨b, ?_⟩) H.other
      refine { lsize := by simp [H.lsize], closed := fun k hk hl => ?_, size := by rw [put_size]; exact H.size, defers := H.defers, other := fun j hj => ?_, val := fun k hk hl => ?_, ptr := fun k hk hl => ?_, fr := H.fr.trans hf, box := fun k hk hl => ?_, inj := fun x y hx hy hne hl1 hl2 => ?_ }
      · rw [hG] at hl
        have hl' : l.getD (2 * n + k) false = true := by simpa [show i ≠ 2 * n + k by omega] using hl
        rw [hG, hG]
        have := H.closed k hk hl'
        rw [this.1, this.2]
        exact ⟨rfl, rfl⟩
      · have := (hj i h1).1
        show ((a.tmps.setIfInBounds (e i) _))[j]? = _
        rw [Array.getElem?_setIfInBounds_ne (Ne.symm this)]
        exact H.other j hj
      · show ((a.tmps.setIfInBounds (e i) _))[e k]? = _
        by_cases hk2 : k = i
        · subst hk2
          exact Array.getElem?_setIfInBounds_self_of_lt (by rw [H.size]; exact (hlt k hk).1)
        · rw [Array.getElem?_setIfInBounds_ne (hE i k h1 hk (Ne.symm hk2))]
          refine H.val k hk ?_
          rw [hG] at hl
          simpa [Ne.symm hk2] using hl
      · show ((a.tmps.setIfInBounds (e i) _))[p k]? = _
        rw [Array.getElem?_setIfInBounds_ne (hEP i k h1 hk)]
        refine H.ptr k hk ?_
        rw [hG] at hl
        simpa [show i ≠ n + k by omega] using hl
      · rw [hG] at hl
        have hl' : l.getD (n + k) false = true := by simpa [show i ≠ n + k by omega] using hl
        have := H.box k hk hl'
        rw [hG, show decide (i = 2 * n + k) = false by simp; omega, Bool.or_false]
        exact ⟨this.1.fr hf, this.2⟩
      · rw [hG] at hl1 hl2
        exact H.inj x y hx hy hne (by simpa [show i ≠ n + x by omega] using hl1) (by simpa [show i ≠ n + y by omega] using hl2)
    · by_cases h2 : i < 2 * n
      · -- a box
        obtain ⟨q, rfl⟩ : ∃ q, i = n + q := ⟨i - n, by omega⟩
        have hq : q < n := by omega
        refine hal q hq _ a w ⟨fun k => if k = q then w.heap.size else b k, ?_⟩
        have hns : l.getD (2 * n + q) false = false := by
          cases hs : l.getD (2 * n + q) false with
          | false => rfl
          | true => have := (H.closed q hq hs).2; rw [hunf] at this; cases this
        have hold : ∀ k, k ≠ q → (l.setIfInBounds (n + q) true).getD (n + k) false = true → l.getD (n + k) false = true := fun k hk hl => by
          rw [hG, show decide (n + q = n + k) = false by simp; omega, Bool.or_false] at hl
          exact hl
        refine { lsize := by simp [H.lsize], closed := fun k hk hl => ?_, size := by rw [put_size]; exact H.size, defers := H.defers, other := fun j hj => ?_, val := fun k hk hl => ?_, ptr := fun k hk hl => ?_, fr := H.fr.alloc _, box := fun k hk hl => ?_, inj := fun x y hx hy hne hl1 hl2 => ?_ }
        · rw [hG] at hl
          have hl' : l.getD (2 * n + k) false = true := by simpa [show n + q ≠ 2 * n + k by omega] using hl
          rw [hG, hG]
          have := H.closed k hk hl'
          rw [this.1, this.2]
          exact ⟨rfl, rfl⟩
        · have := (hj q hq).2
          show ((a.tmps.setIfInBounds (p q) _))[j]? = _
          rw [Array.getElem?_setIfInBounds_ne (Ne.symm this)]
          exact H.other j hj
        · show ((a.tmps.setIfInBounds (p q) _))[e k]? = _
          rw [Array.getElem?_setIfInBounds_ne (Ne.symm (hEP k q hk hq))]
          refine H.val k hk ?_
          rw [hG] at hl
          simpa [show n + q ≠ k by omega] using hl
        · show ((a.tmps.setIfInBounds (p q) _))[p k]? = _
          by_cases hk2 : k = q
          · subst hk2
            rw [if_pos rfl]
            exact Array.getElem?_setIfInBounds_self_of_lt (by rw [H.size]; exact (hlt k hk).2)
          · rw [Array.getElem?_setIfInBounds_ne (hP q k hq hk (Ne.symm hk2)), if_neg hk2]
            exact H.ptr k hk (hold k hk2 hl)
        · rw [hG, show decide (n + q = 2 * n + k) = false by simp; omega, Bool.or_false]
          by_cases hk2 : k = q
          · subst hk2
            rw [if_pos rfl, hns]
            exact ⟨BoxAt.new w Z T, H.fr.size⟩
          · rw [if_neg hk2]
            have := H.box k hk (hold k hk2 hl)
            exact ⟨this.1.alloc _, this.2⟩
        · by_cases hx2 : x = q
          · subst hx2
            have hy2 : y ≠ x := Ne.symm hne
            rw [if_pos rfl, if_neg hy2]
            have := (H.box y hy (hold y hy2 hl2)).1.lt
            omega
          · rw [if_neg hx2]
            have h4 := hold x hx2 hl1
            by_cases hy2 : y = q
            · subst hy2
              rw [if_pos rfl]
              have := (H.box x hx h4).1.lt
              omega
            · rw [if_neg hy2]
              exact H.inj x y hx hy hne h4 (hold y hy2 hl2)
      · -- a store
        obtain ⟨q, rfl⟩ : ∃ q, i = 2 * n + q := ⟨i - 2 * n, by omega⟩
        have hq : q < n := by omega
        obtain ⟨w1, w2⟩ := hw q hq l hr
        have hbq := H.box q hq w2
        rw [hunf] at hbq
        refine hst q hq _ a w (b q) (H.ptr q hq w2) (H.val q hq w1) hbq.1 (fun w' hR => ⟨b, ?_⟩)
        have hold : ∀ k, k < n → (l.setIfInBounds (2 * n + q) true).getD k false = l.getD k false := fun k hk => by rw [hG, show decide (2 * n + q = k) = false by simp; omega, Bool.or_false]
        have hold2 : ∀ k, k < n → (l.setIfInBounds (2 * n + q) true).getD (n + k) false = l.getD (n + k) false := fun k hk => by rw [hG, show decide (2 * n + q = n + k) = false by simp; omega, Bool.or_false]
        refine { lsize := by simp [H.lsize], closed := fun k hk hl => ?_, size := H.size, defers := H.defers, other := H.other, val := fun k hk hl => ?_, ptr := fun k hk hl => ?_, fr := hR.fr H.fr hbq.2, box := fun k hk hl => ?_, inj := fun x y hx hy hne hl1 hl2 => ?_ }
        · rw [hold k hk, hold2 k hk]
          by_cases hk2 : k = q
          · subst hk2; exact ⟨w1, w2⟩
          · refine H.closed k hk ?_
            rw [hG, show decide (2 * n + q = 2 * n + k) = false by simp; omega, Bool.or_false] at hl
            exact hl
        · rw [hold k hk] at hl; exact H.val k hk hl
        · rw [hold2 k hk] at hl; exact H.ptr k hk hl
        · rw [hold2 k hk] at hl
          have hb := H.box k hk hl
          by_cases hk2 : k = q
          · subst hk2
            rw [hG, decide_eq_true rfl, Bool.or_true]
            exact ⟨hR.box, hb.2⟩
          · rw [hG, show decide (2 * n + q = 2 * n + k) = false by simp; omega, Bool.or_false]
            exact ⟨hR.boxOther hb.1 (H.inj k q hk hq hk2 hl w2), hb.2⟩
        · rw [hold2 x hx] at hl1
          rw [hold2 y hy] at hl2
          exact H.inj x y hx hy hne hl1 hl2
end
end Go.Proofs.Ytadognaafgndnaa

/- One operation of a drawn region: a value, a call, a new box, a box laid; a region that has wholly come up. No condition but what each says. -/
namespace Go.Proofs.Ytadognaafgndnaa
open Go.RowKit

section
variable {P : Program} {ops : Array Oper} {Q : Exit → Act → World → Prop} {K : Act → World → Prop} {i : Nat} {o : Oper} {a : Act} {w : World}
theorem wanted_plain (hg : o.guard = none) (y : Array Value) : Region.wanted o (yielded ops y) = true := by simp [Region.wanted, hg]
theorem wpOp_run (ho : ops[i]? = some o) (hg : o.guard = none) (v : Value) (w' : World) (hrun : (execOp a.eval o).run P w = .ok (.value v) w') (h : K (a.put o.dst v) w') : wpOp P ops Q i K a w := by
  unfold wpOp
  simp only [ho]
  rw [if_pos (wanted_plain hg _)]
  left
  unfold Oper.wp
  rw [hrun]
  exact h
theorem wpOp_enter (ho : ops[i]? = some o) (hg : o.guard = none) (f : FuncId) (args : Array Value) (hrun : (execOp a.eval o).run P w = .ok (.enter f args) w) (v : Value)
    (h : Calls P f args w fun e w' => e = .returned v ∧ K (a.put o.dst v) w') : wpOp P ops Q i K a w := by
  unfold wpOp
  simp only [ho]
  rw [if_pos (wanted_plain hg _)]
  left
  unfold Oper.wp
  rw [hrun, Oper.upon_enter]
  exact h.mono fun e w' ⟨he, hk⟩ => by subst he; exact hk
theorem run_load_box (ty : TypeId) (x : Operand) (ho : o.op = .load ty x) (g : Nat) (hx : a.eval x = .pointer (some ⟨g, 0, none⟩)) (cs : Array Value) (hS : BoxAt w g cs ty) (d : TypeDesc)
    (hu : P.underlying ty = some d) (hd : (match d with | .struct _ | .array _ _ => true | _ => false) = true) (hi : (P.info? ty).map (·.size) = some cs.size) : (execOp a.eval o).run P w = .ok (.value (.agg cs)) w := by
  have hl := run_loadVar_row (P := P) w g ty ty cs (0, 0) d hS hu hd hi
  unfold execOp
  simp only [ho, hx, Instr.loadAt, Instr.sureAddr, Sem.run_bind, Sem.run_pure, Result.andThen_ok, hl]
theorem wpOp_lay (ho' : ops[i]? = some o) (hg : o.guard = none) (ty : TypeId) (x y : Operand) (ho : o.op = .store ty x y) (b : Nat) (c c' : Array Value)
    (hx : a.eval x = .pointer (some ⟨b, 0, none⟩)) (hy : a.eval y = .agg c') (hB : BoxAt w b c ty) (hi : (P.info? ty).map (·.size) = some c'.size) (hs : c.size = c'.size) (h1 : c'.all (·.oneCell') = true) (hdst : o.dst = none)
    (h : ∀ w', Relaid b c' ty w w' → K a w') : wpOp P ops Q i K a w := by
  have hst : (Instr.storeAt ty (.pointer (some ⟨b, 0, none⟩)) (.agg c')).run P w = .ok () (w.setRow b c') := by
    simp only [Instr.storeAt, Instr.sureAddr, Sem.run_bind, Sem.run_pure, Result.andThen]
    exact run_storeVar_row w b ty ty c c' hB hi hs h1
  have hp : a.put o.dst undef = a := by rw [hdst]; rfl
  unfold wpOp
  simp only [ho']
  rw [if_pos (wanted_plain hg _)]
  left
  unfold Oper.wp execOp
  simp only [ho, hx, hy, Sem.run_bind, hst, Result.andThen_ok, Sem.run_pure]
  show K (a.put o.dst undef) _
  rw [hp]
  exact h _ ⟨rfl, rfl, rfl, by simp, setRow_heap w b c c' ty _ hB, fun k hk => setRow_other w b k c' hk⟩
theorem ready_waits {md : Region.Mode} {l : Array Bool} {j k : Nat} (h : j ∈ Region.ready md ops l) (hw : Region.waitsFor md ops j k = true) : l.getD k false = true := by
  obtain ⟨oj, hoj, e, he, hb, hon⟩ := Region.waitsFor_spec hw
  obtain ⟨_, oj', hoj', hall⟩ := mem_ready.1 h
  obtain rfl := Option.some.inj (hoj.symm.trans hoj')
  have := hall e he hb
  rwa [hon] at this
/-- Each operation waits for earlier ones alone. -/
def lexAfter (md : Region.Mode) (ops : Array Oper) : Bool := (List.range ops.size).all fun j => (ops[j]?).all fun o => o.after.toList.all fun e => !Region.binds md e || decide (e.on < j)
theorem ready_done {md : Region.Mode} {l : Array Bool} (hL : lexAfter md ops = true) (hsz : l.size = ops.size) (hr : Region.ready md ops l = []) : ∀ j, j < ops.size → l.getD j false = true := by
  intro j
  induction j using Nat.strongRecOn with
  | _ j ih =>
    intro hj
    cases hl : l.getD j false with
    | true => rfl
    | false =>
      exfalso
      have h1 : j ∈ Region.ready md ops l := by
        refine mem_ready.2 ⟨getD_in (by rw [hsz]; exact hj) hl, ops[j], Array.getElem?_eq_getElem hj, fun e he hb => ?_⟩
        have h2 := List.all_eq_true.1 hL j (List.mem_range.2 hj)
        rw [Array.getElem?_eq_getElem hj] at h2
        have h3 := List.all_eq_true.1 (show (ops[j].after.toList.all fun e => !Region.binds md e || decide (e.on < j)) = true by simpa using h2) e (by simpa using he)
        rw [hb] at h3
        have h4 : e.on < j := by simpa using h3
        exact ih e.on h4 (by omega)
      rw [hr] at h1
      cases h1
end
end Go.Proofs.Ytadognaafgndnaa

/- Operations of a drawn region that may be taken first: plain. No condition but what each says. -/
namespace Go.Proofs.Ytadognaafgndnaa
open Go.RowKit

section
variable {P : Program} {ops : Array Oper} {S : World → Prop} {o : Oper} {a : Act} {w : World}
theorem yRun {v : Value} (hw : Region.wanted o (yielded ops a.tmps) = true) (h : ∀ W, S W → (execOp a.eval o).run P W = .ok (.value v) W) : YieldsIf P ops S o v a := .inl ⟨hw, h⟩
theorem ySkip {v : Value} (hw : Region.wanted o (yielded ops a.tmps) = false) (hv : v = undef) : YieldsIf P ops S o v a := .inr ⟨hw, hv⟩
theorem run_idx (t e : TypeId) (x y : Operand) (ho : o.op = .indexAddr t x y) (b off n c k s : Nat) (q : IntKind) (hx : a.eval x = .slice (some ⟨b, off, none⟩) n c) (hy : a.eval y = .int q k) (hu : P.underlying t = some (.slice e)) (hi : (P.info? e).map (·.size) = some s) (hk : k < n) :
    (execOp a.eval o).run P w = .ok (.value (.pointer (some ⟨b, off + k * s, none⟩))) w := by
  cases hq : P.info? e with
  | none => simp [hq] at hi
  | some ie =>
    have hs : ie.size = s := by simpa [hq] using hi
    have h1 : (0 : Int) ≤ (k : Int) ∧ (k : Int) < (n : Int) := by omega
    have h2 : (Instr.indexAt t (.slice (some ⟨b, off, none⟩) n c) (.int q k)).run P w = .ok (.pointer (some ⟨b, off + k * s, none⟩)) w := by
      simp [Instr.indexAt, run_underlying hu, asIntOf, h1, sizeOf, typeInfo, hq, hs, WideShapes.add_plain]
      intro hh; omega
    unfold execOp
    simp only [ho, hx, hy, Sem.run_bind, h2, Result.andThen_ok, Sem.run_pure]
theorem run_ld (ty : TypeId) (x : Operand) (ho : o.op = .load ty x) (g : Addr) (hx : a.eval x = .pointer (some g)) (v : Value) (hl : (Instr.loadAt ty (.pointer (some g))).run P w = .ok v w) : (execOp a.eval o).run P w = .ok (.value v) w := by
  unfold execOp
  simp only [ho, hx, Sem.run_bind, hl, Result.andThen_ok, Sem.run_pure]
theorem run_ld_mid (ty : TypeId) (x : Operand) (ho : o.op = .load ty x) (b off : Nat) (hx : a.eval x = .pointer (some ⟨b, off, none⟩)) (cs : List Value) (d : TypeDesc) (hc : w.rangeAt b off cs) (hu : P.underlying ty = some d) (hd : d.isRow = true) (hi : (P.info? ty).map (·.size) = some cs.length) :
    (execOp a.eval o).run P w = .ok (.value (.agg cs.toArray)) w := run_ld ty x ho _ hx _ (run_loadAt_mid w b off ty cs d hc hu hd hi)
/-- A call of a function with a Go body. -/
theorem run_call {f : FuncId} {fn : Func} {c : Code} (hf : P.funcs[f]? = some fn) (hname : (fn.name == "runtime.NumGoroutine") = false) (hb : fn.body = some c) (xs : Array Operand) (ts : Array TypeId) (ho : o.op = .call { callee := .value (.func f), args := xs, argTypes := ts }) (args : Array Value) (hx : xs.map a.eval = args) :
    (execOp a.eval o).run P w = .ok (.enter f args) w := by
  subst hx
  have h1 : fn.name ≠ "runtime.NumGoroutine" := by simpa using hname
  have h2 : ∀ args : Array Value, (callFunc f args).run P w = .ok (.enter f args) w := fun args => by simp [callFunc, hf, h1, hb]
  unfold execOp
  simp only [ho]
  simp [go_sem, resolve, invoke, Act.eval, h2]
end
/-- A struct in the midst of a row is read, guarded or not. -/
theorem wpList_load_midW {P : Program} {ops : Array Oper} {rest : List Oper} {o : Oper} {a : Act} {w : World} {Q : Exit → Act → World → Prop} (ty : TypeId) (x : Operand) (ho : o.op = .load ty x)
    (b off : Nat) (hx : a.eval x = .pointer (some ⟨b, off, none⟩)) (cs : List Value) (d : TypeDesc) (hc : w.rangeAt b off cs) (hu : P.underlying ty = some d) (hd : d.isRow = true) (hi : (P.info? ty).map (·.size) = some cs.length)
    (hw : Region.wanted o (yielded ops a.tmps) = true) (h : wpList P ops Q rest (a.put o.dst (.agg cs.toArray)) w) : wpList P ops Q (o :: rest) a w :=
  wpList_step fun K hK => by
    simp only [hw, if_true]
    exact wp_load_mid ty x ho b off hx cs d hc hu hd hi (hK _ _ h)
theorem wpOp_runD {P : Program} {ops : Array Oper} {Q : Exit → Act → World → Prop} {K : Act → World → Prop} {i : Nat} {o : Oper} {t : Array Value} {df : List Deferred} {w : World} (d : Tmp) (ho : ops[i]? = some o) (hg : o.guard = none) (hd : o.dst = some d) (v : Value) (w' : World) (hrun : (execOp (Act.eval ⟨t, df⟩) o).run P w = .ok (.value v) w') (h : K ⟨t.setIfInBounds d v, df⟩ w') : wpOp P ops Q i K ⟨t, df⟩ w :=
  wpOp_run ho hg v w' hrun (by rw [hd]; exact h)
theorem wpOp_enterD {P : Program} {ops : Array Oper} {Q : Exit → Act → World → Prop} {K : Act → World → Prop} {i : Nat} {o : Oper} {t : Array Value} {df : List Deferred} {w : World} (d : Tmp) (ho : ops[i]? = some o) (hg : o.guard = none) (hd : o.dst = some d) (f : FuncId) (args : Array Value) (hrun : (execOp (Act.eval ⟨t, df⟩) o).run P w = .ok (.enter f args) w) (v : Value)
    (h : Calls P f args w fun e w' => e = .returned v ∧ K ⟨t.setIfInBounds d v, df⟩ w') : wpOp P ops Q i K ⟨t, df⟩ w :=
  wpOp_enter ho hg f args hrun v (by rw [hd]; exact h)
theorem takeD {P : Program} {ops : Array Oper} {md : Region.Mode} {Q : Exit → Act → World → Prop} {S : World → Prop} (i : Nat) (dst : Tmp) {oi : Oper} {v : Value} {fuel : Nat} {listed : Array Bool} {t : Array Value} {df : List Deferred} {w : World} (hi : ops[i]? = some oi) (hd : oi.dst = some dst)
    (hs : Region.noSelect ops = true) (hf : Region.free md ops listed i = true) (hr : (Region.ready md ops listed).contains i = true)
    (hQ : ∀ c a w, Q (.panic c) (a.put oi.dst v) w → Q (.panic c) a w) (hy : YieldsIf P ops S oi v ⟨t, df⟩) (hS : S w)
    (h : wpAnyH P md ops Q S fuel (listed.setIfInBounds i true) ⟨t.setIfInBounds dst v, df⟩ w) : wpAnyH P md ops Q S (fuel + 1) listed ⟨t, df⟩ w :=
  wpAnyH_take hi hs hf hr hQ hy hS (by rw [hd]; exact h)
end Go.Proofs.Ytadognaafgndnaa

/- Whole structs that are read in drawn regions whose callees make memory. No condition but what each says. -/
namespace Go.Proofs.Ytadognaafgndnaa
open Go.RowKit

theorem wpQuiet_here {P : Program} {ops : Array Oper} {C : World → Prop} {Q : Act → Prop} {o : Oper} {rest : List Oper} {a : Act} (i : Op) (ho : o.op = i) (h : wpQuiet P ops C Q (o :: rest) a) : wpQuiet P ops C Q (o :: rest) a := h
theorem wpQuiet_run {P : Program} {ops : Array Oper} {C : World → Prop} {Q : Act → Prop} {o : Oper} {rest : List Oper} {a : Act} (v : Value) (hr : ∀ w, C w → (execOp a.eval o).run P w = .ok (.value v) w) (hw : Region.wanted o (yielded ops a.tmps) = true) (h : wpQuiet P ops C Q rest (a.put o.dst v)) : wpQuiet P ops C Q (o :: rest) a :=
  wpQuiet_step fun K hK => by
    simp only [hw, if_true]
    refine ⟨v, fun w hC => ?_, hK _ h⟩
    unfold Oper.quietAt
    rw [hr w hC]
    exact ⟨rfl, rfl⟩
theorem wpQuiet_load_mid {P : Program} {ops : Array Oper} {C : World → Prop} {Q : Act → Prop} {o : Oper} {rest : List Oper} {a : Act} (ty : TypeId) (x : Operand) (ho : o.op = .load ty x)
    (b off : Nat) (hx : a.eval x = .pointer (some ⟨b, off, none⟩)) (cs : List Value) (d : TypeDesc) (hc : ∀ w, C w → w.rangeAt b off cs) (hu : P.underlying ty = some d) (hd : d.isRow = true) (hi : (P.info? ty).map (·.size) = some cs.length)
    (hw : Region.wanted o (yielded ops a.tmps) = true) (h : wpQuiet P ops C Q rest (a.put o.dst (.agg cs.toArray))) : wpQuiet P ops C Q (o :: rest) a :=
  wpQuiet_run _ (fun w hC => run_ld_mid ty x ho b off hx cs d (hc w hC) hu hd hi) hw h
theorem wpQuiet_load_midD {P : Program} {ops : Array Oper} {C : World → Prop} {Q : Act → Prop} {o : Oper} {rest : List Oper} {t : Array Value} {df : List Deferred} (d0 : Tmp) (hd0 : o.dst = some d0) (ty : TypeId) (x : Operand) (ho : o.op = .load ty x)
    (b off : Nat) (hx : Act.eval ⟨t, df⟩ x = .pointer (some ⟨b, off, none⟩)) (cs : List Value) (d : TypeDesc) (hc : ∀ w, C w → w.rangeAt b off cs) (hu : P.underlying ty = some d) (hd : d.isRow = true) (hi : (P.info? ty).map (·.size) = some cs.length)
    (hw : Region.wanted o (yielded ops t) = true) (h : wpQuiet P ops C Q rest ⟨t.setIfInBounds d0 (.agg cs.toArray), df⟩) : wpQuiet P ops C Q (o :: rest) ⟨t, df⟩ :=
  wpQuiet_load_mid ty x ho b off hx cs d hc hu hd hi hw (by rw [hd0]; exact h)
theorem FrW.range {w0 : World} {b o : Nat} {cs : List Value} (h : w0.rangeAt b o cs) (hb : b < w0.heap.size) : ∀ w, (∃ z : FrW w0, w = z.val) → w.rangeAt b o cs := by
  rintro w ⟨z, rfl⟩
  exact fun j v hj => (World.cell?_of_block (a := ⟨b, o + j, none⟩) (z.fr.block hb)).trans (h j v hj)
end Go.Proofs.Ytadognaafgndnaa

/- A range over a function, at the level of plain walks. No condition but what each says. -/
namespace Go.Proofs.Ytadognaafgndnaa
open Go.RowKit

theorem calls_of_marks {P : Program} {f : FuncId} {fn : Func} {c : Code} {args : Array Value} {w : World} {R : Ending → World → Prop} (hf : P.funcs[f]? = some fn) (hb : fn.body = some c)
    (h : c.wp P (bodyPostM Fence.wide 9 P fn R) { tmps := args ++ Array.replicate (fn.ntmps - args.size) undef, defers := [] } w) : Calls P f args w R :=
  callsIn_wide.1 (callsIn_of_wp_marks hf hb trivial (wpIn_wide.2 h) rfl)
theorem wp_rangeFunc {P : Program} {α : Type} {g : Operand} {ps : Array Tmp} {assign body : Code} {Q : Exit → Act → World → Prop} {a : Act} {w : World}
    {gf : Nat} {lb : Array Value} (hg : a.eval g = .func (.func gf) #[] lb) (eg : ∀ args w, (callFunc gf args).run P w = .ok (.enter gf args) w)
    {encs : α → Array Value} {n₀ : Nat} {S Sp : List α → Prop} {N : Nat} (hseq : SeqStopsK Fence.wide 8 P gf lb encs (Below n₀) S Sp N w) (hn : n₀ ≤ w.heap.size) (hps : ∀ x, (encs x).size = ps.size)
    (I : List α → World → Prop) (Ix : Code → List α → World → Prop) (hI : OwnFrom w.heap.size I) (hIx : ∀ c, OwnFrom w.heap.size (Ix c)) (h0 : I [] w) (a₁ : α → Act)
    (hassign : ∀ (l : Nat) (x : α) (W : World) (K : Act → World → Prop), K (a₁ x) W →
      assign.wpIn (Fence.wide.inRound l) 7 P (Exit.then K (fun _ _ _ => False)) { tmps := (ps.zip (encs x)).foldl (fun t (p, v) => t.setIfInBounds p v) a.tmps, defers := [] } W)
    (hbody : ∀ (l : Nat) (pre : List α) (x : α) (W : World), I pre W → pre.length < N → body.wpIn (Fence.wide.inRound l) 7 P (ownPostK (Below n₀) I Ix (pre ++ [x]) W) (a₁ x) W)
    (hdone : ∀ (D : Nat) (xs : List α) (W : World), w.heap.size ≤ D → S xs → I xs W → W.heap[D]? = some (.deferred (some [])) → Q .normal { a with defers := { target := .collected D, args := #[] } :: a.defers } W)
    (hstop : ∀ (D : Nat) (c : Code) (pre : List α) (W : World), w.heap.size ≤ D → Sp pre → Ix c pre W → W.heap[D]? = some (.deferred (some [])) → c.wp P Q { a with defers := { target := .collected D, args := #[] } :: a.defers } W) :
    (Code.rangeFunc g ps assign body).wp P Q a w :=
  (wpIn_wide (n := 9)).1 (wpIn_rangeFunc_ownF (F := Fence.wide) (n := 9) rfl (by omega) hg trivial eg hseq belowK_t (belowK_b hn) (Below.refl _ _) hps I Ix hI hIx h0 a₁ hassign hbody hdone (fun D c pre W h1 h2 h3 h4 => wpIn_wide.2 (hstop D c pre W h1 h2 h3 h4)))
theorem run_equalIn_fnil {P : Program} (d : Nat) {t : TypeId} {p r : Array TypeId} {vr : Bool} (h : P.underlying t = some (.func p r vr)) (f : Fn) (a b : Array Value) (W : World) : (Op.equalIn (d + 1) t (.func f a b) Value.nilFunc).run P W = .ok false W := by
  simp [Op.equalIn, run_underlying h]
/-- A function that is there is not nil. -/
theorem run_eql_fnil {P : Program} {t : TypeId} {p r : Array TypeId} {vr : Bool} (h : P.underlying t = some (.func p r vr)) (f : Fn) (a b : Array Value) (W : World) : (binOp .eql t (.func f a b) Value.nilFunc).run P W = .ok (.bool false) W := by
  have e : (binOp .eql t (.func f a b) Value.nilFunc).run P W = ((Op.equalIn 10000 t (.func f a b) Value.nilFunc).run P W).andThen fun b w' => .ok (.bool b) w' := by
    simp only [binOp]
    simp [Op.equal, Op.maxDepth]
  rw [e, run_equalIn_fnil 9999 h]
  rfl
/-- A block that the loop does not turn. -/
theorem ownFrom_block {β : Type} {B D : Nat} {o : Obj} (hD : D < B) : OwnFrom B (fun (_ : β) W => W.heap[D]? = some o) :=
  fun _ W W' row hs hg hr => by
    have hs : W.heap[D]? = some o := hs
    have hlt : D < W.heap.size := by
      rcases Nat.lt_or_ge D W.heap.size with h | h
      · exact h
      · rw [Array.getElem?_eq_none h] at hs; cases hs
    exact (hg.block D hlt (fun e => by have := (hr D e.symm).1; omega)).trans hs
theorem ownFrom_pure {β : Type} {B : Nat} {p : β → Prop} : OwnFrom B (fun s (_ : World) => p s) := fun _ _ _ _ h _ _ => h
theorem cell_al {W : World} {a : Addr} {v : Value} (o : Obj) (h : W.cell? a = some v) : (W.alloc o).cell? a = some v := cell_kept h (World.grownBy_alloc W o none) (fun r e => by cases e)
theorem frozen_al {W : World} {a : Addr} {v : Value} (o : Obj) (h : W.cell? a = some v) (hf : W.frozen? a = false) : (W.alloc o).frozen? a = false := (frozen_kept h (World.grownBy_alloc W o none) (fun r e => by cases e)).trans hf
/-- One cell, as it stands. -/
def Cel (W : World) (b o : Nat) (v : Value) : Prop := W.cell? ⟨b, o, none⟩ = some v ∧ W.frozen? ⟨b, o, none⟩ = false
theorem Cel.own {W W' : World} {b o : Nat} {v : Value} {row : Option Nat} (h : Cel W b o v) (hg : W.grownBy W' row) (hr : ∀ r, row = some r → ∃ o : Obj, W.heap[r]? = some o ∧ o.isCells = false) : Cel W' b o v := ⟨cell_kept h.1 hg hr, (frozen_kept h.1 hg hr).trans h.2⟩
theorem Cel.al {W : World} {b o : Nat} {v : Value} (X : Obj) (h : Cel W b o v) : Cel (W.alloc X) b o v := ⟨cell_al X h.1, frozen_al X h.1 h.2⟩
theorem Cel.fr {W W' : World} {b o : Nat} {v : Value} (h : Cel W b o v) (f : Fr W W') : Cel W' b o v := ⟨f.keep h.1, (f.frozen b o (lt_of_cell h.1)).trans h.2⟩
theorem Cel.set {W : World} {b o : Nat} {v : Value} (h : Cel W b o v) (u : Value) : Cel (W.setCell ⟨b, o, none⟩ u) b o u := ⟨World.cell?_setCell_same' _ _ _ (by rw [h.1]; rfl), by rw [World.frozen?_setCell]; exact h.2⟩
theorem Cel.setOther {W : World} {b o c p : Nat} {v : Value} (h : Cel W b o v) (hne : b ≠ c) (u : Value) : Cel (W.setCell ⟨c, p, none⟩ u) b o v :=
  ⟨(World.cell?_of_block (a := ⟨b, o, none⟩) (Below.heap_setCell W _ u b (fun e => hne e))).trans h.1, by rw [World.frozen?_setCell]; exact h.2⟩
end Go.Proofs.Ytadognaafgndnaa
