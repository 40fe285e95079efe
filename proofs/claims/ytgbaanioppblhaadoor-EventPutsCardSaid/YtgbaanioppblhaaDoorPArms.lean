/- Whole structs read out of a box and laid into a new one: arms of a walk that do not open the cells. No condition but what each says. -/
import Derived.Test.YtgbaanioppblhaaDoorPBase
import Derived.Deep.MidRow
import Derived.Deep.WholeRow
import Derived.Deep.QuietTactic
import Derived.BigQuiet
set_option linter.unusedVariables false
set_option linter.unusedSimpArgs false
/- Whole structs read out of a box and laid into a new one: arms of a walk that do not open the cells. No condition but what each says. -/
namespace Go.Proofs.YtgbaanioppblhaaDoor
open Go.RowKit

/-- A block that is these cells, and may be written. -/
def BoxAt (w : World) (b : Nat) (c : Array Value) (t : TypeId) : Prop := w.heap[b]? = some (.cells c t (0, 0))
theorem BoxAt.lt {w : World} {b : Nat} {c : Array Value} {t : TypeId} (h : BoxAt w b c t) : b < w.heap.size := by
  unfold BoxAt at h
  rcases Nat.lt_or_ge b w.heap.size with g | g
  · exact g
  · rw [Array.getElem?_eq_none g] at h; cases h
theorem BoxAt.fr {a w : World} {b : Nat} {c : Array Value} {t : TypeId} (h : BoxAt a b c t) (f : Fr a w) : BoxAt w b c t := (f.block h.lt).trans h
theorem BoxAt.alloc {w : World} {b : Nat} {c : Array Value} {t : TypeId} (h : BoxAt w b c t) (X : Obj) : BoxAt (w.alloc X) b c t := h.fr ((Fr.refl w).alloc X)
theorem BoxAt.drew {w : World} {b : Nat} {c : Array Value} {t : TypeId} (h : BoxAt w b c t) : BoxAt w.drew b c t := h
theorem BoxAt.drewN {w : World} {b : Nat} {c : Array Value} {t : TypeId} (h : BoxAt w b c t) (n : Nat) : BoxAt (w.drewN n) b c t := h
theorem BoxAt.set {w : World} {b : Nat} {c : Array Value} {t : TypeId} (h : BoxAt w b c t) {p : Addr} (hp : p.block ≠ b) (u : Value) : BoxAt (w.setCell p u) b c t := (Below.heap_setCell w p u b (fun e => hp e.symm)).trans h
theorem BoxAt.new (w : World) (c : Array Value) (t : TypeId) : BoxAt (w.alloc (.cells c t)) w.heap.size c t := heap_alloc_last w _
theorem BoxAt.new' (w : World) (c : Array Value) (t : TypeId) (n : Nat) (hn : n = w.heap.size) : BoxAt (w.alloc (.cells c t)) n c t := hn ▸ heap_alloc_last w _
theorem BoxAt.of_fr {w w1 : World} {c : Array Value} {t : TypeId} (h : Fr (w.alloc (.cells c t)) w1) : BoxAt w1 w.heap.size c t := (BoxAt.new w c t).fr h
theorem BoxAt.cell {w : World} {b : Nat} {c : Array Value} {t : TypeId} (h : BoxAt w b c t) (j : Nat) : w.cell? ⟨b, j, none⟩ = c[j]? := cell_of_row w b j c t (0, 0) h
theorem BoxAt.at {w : World} {b : Nat} {c : Array Value} {t : TypeId} (h : BoxAt w b c t) (j : Nat) {v : Value} (hv : c[j]? = some v) : w.cell? ⟨b, j, none⟩ = some v := (h.cell j).trans hv
theorem BoxAt.free {w : World} {b : Nat} {c : Array Value} {t : TypeId} (h : BoxAt w b c t) (j : Nat) : w.frozen? ⟨b, j, none⟩ = false := by
  unfold BoxAt at h
  simp [World.frozen?, h]

/-- A block laid anew, all else as it was. -/
structure Relaid (b : Nat) (c : Array Value) (t : TypeId) (w w' : World) : Prop where
  os : w'.os = w.os
  tape : w'.tape = w.tape
  output : w'.output = w.output
  size : w'.heap.size = w.heap.size
  box : BoxAt w' b c t
  other : ∀ k, k ≠ b → w'.heap[k]? = w.heap[k]?
theorem Relaid.boxOther {b : Nat} {c : Array Value} {t : TypeId} {w w' : World} (h : Relaid b c t w w') {d : Nat} {e : Array Value} {u : TypeId} (hB : BoxAt w d e u) (hd : d ≠ b) : BoxAt w' d e u := (h.other d hd).trans hB
theorem Relaid.fr {b : Nat} {c : Array Value} {t : TypeId} {a w w' : World} (h : Relaid b c t w w') (f : Fr a w) (hb : a.heap.size ≤ b) : Fr a w' :=
  ⟨h.os.trans f.os, h.tape.trans f.tape, h.output.trans f.output, by rw [h.size]; exact f.size, fun k hk => (h.other k (by omega)).trans (f.block hk)⟩
section
variable {P : Program} {ops : Array Oper} {rest : List Oper} {o : Oper} {a : Act} {Q : Exit → Act → World → Prop}
/-- The next operation is this one (cheap to ask ahead of a law that is dear to try). -/
theorem wpList_here {w : World} (i : Op) (ho : o.op = i) (h : wpList P ops Q (o :: rest) a w) : wpList P ops Q (o :: rest) a w := h
/-- A whole struct is read out of its block. -/
theorem wpList_load_box {w : World} (ty : TypeId) (x : Operand) (ho : o.op = .load ty x)
    (g : Nat) (hx : a.eval x = .pointer (some ⟨g, 0, none⟩)) (cs : Array Value) (hg : BoxAt w g cs ty) (d : TypeDesc)
    (hu : P.underlying ty = some d) (hd : (match d with | .struct _ | .array _ _ => true | _ => false) = true) (hi : (P.info? ty).map (·.size) = some cs.size)
    (hw : Region.wanted o (yielded ops a.tmps) = true) (h : wpList P ops Q rest (a.put o.dst (.agg cs)) w) : wpList P ops Q (o :: rest) a w :=
  wpList_step fun K hK => by
    simp only [hw, if_true]
    exact wp_load_row ty x ho g hx ty cs (0, 0) d hg hu hd hi (hK _ _ h)
/-- A whole struct is laid into the newest block. -/
theorem wpList_store_new {w : World} (ty : TypeId) (x y : Operand) (ho : o.op = .store ty x y) (c c' : Array Value) (n : Nat) (hn : n = w.heap.size)
    (hx : a.eval x = .pointer (some ⟨n, 0, none⟩)) (hy : a.eval y = .agg c') (hi : (P.info? ty).map (·.size) = some c'.size) (hs : c.size = c'.size) (h1 : c'.all (·.oneCell') = true)
    (hw : Region.wanted o (yielded ops a.tmps) = true) (hdst : o.dst = none) (h : wpList P ops Q rest a (w.alloc (.cells c' ty))) : wpList P ops Q (o :: rest) a (w.alloc (.cells c ty)) :=
  wpList_step fun K hK => by
    subst hn
    simp only [hw, if_true]
    have hp : a.put o.dst undef = a := by rw [hdst]; rfl
    unfold Oper.wp execOp
    simp only [ho, hx, hy, Sem.run_bind, run_storeAt_new w ty c c' hi hs h1, Result.andThen_ok, Sem.run_pure]
    show K (a.put o.dst undef) _
    rw [hp]
    exact hK _ _ h
/-- A whole struct is laid into a block that is there. -/
theorem wpList_store_old {w : World} (ty : TypeId) (x y : Operand) (ho : o.op = .store ty x y) (b : Nat) (c c' : Array Value)
    (hx : a.eval x = .pointer (some ⟨b, 0, none⟩)) (hy : a.eval y = .agg c') (hB : BoxAt w b c ty) (hi : (P.info? ty).map (·.size) = some c'.size) (hs : c.size = c'.size) (h1 : c'.all (·.oneCell') = true)
    (hw : Region.wanted o (yielded ops a.tmps) = true) (hdst : o.dst = none) (h : ∀ w', Relaid b c' ty w w' → wpList P ops Q rest a w') : wpList P ops Q (o :: rest) a w :=
  wpList_step fun K hK => by
    simp only [hw, if_true]
    have hst : (Instr.storeAt ty (.pointer (some ⟨b, 0, none⟩)) (.agg c')).run P w = .ok () (w.setRow b c') := by
      simp only [Instr.storeAt, Instr.sureAddr, Sem.run_bind, Sem.run_pure, Result.andThen]
      exact run_storeVar_row w b ty ty c c' hB hi hs h1
    have hp : a.put o.dst undef = a := by rw [hdst]; rfl
    unfold Oper.wp execOp
    simp only [ho, hx, hy, Sem.run_bind, hst, Result.andThen_ok, Sem.run_pure]
    show K (a.put o.dst undef) _
    rw [hp]
    exact hK _ _ (h _ ⟨rfl, rfl, rfl, by simp, setRow_heap w b c c' ty _ hB, fun k hk => setRow_other w b k c' hk⟩)
end
end Go.Proofs.YtgbaanioppblhaaDoor

/- A region that draws its order, whose operations read and whose callees only make memory: walked once. No condition but what each says. -/
namespace Go.Proofs.YtgbaanioppblhaaDoor
open Go.RowKit

/-- The worlds in which all that stood in 'w0' stands. -/
structure FrW (w0 : World) where
  val : World
  fr : Fr w0 val
instance (w0 : World) : Nonempty (FrW w0) := ⟨⟨w0, Fr.refl w0⟩⟩
theorem wp_region_fr {P : Program} {id : Nat} {Q : Exit → Act → World → Prop} {a : Act} {w : World} {l : List Oper} (hm : P.follows .mixedOrders = true) (hB : Region.lexB .any l.toArray = true)
    (h : wpQuiet P l.toArray (fun w' => ∃ z : FrW w, w' = z.val) (fun a' => ∀ w', (∃ z : FrW w, w' = z.val) → Q .normal a' w') l a) : (Code.region id l.toArray true).wp P Q a w :=
  wp_region_quiet (C := fun w' => ∃ z : FrW w, w' = z.val) hm hB ⟨⟨w.drew, (Fr.refl w).drew⟩, rfl⟩ (by simpa using h)
/-- A callee that only makes memory. -/
theorem frq {P : Program} {f : FuncId} {args : Array Value} {w0 : World} {z : FrW w0} {v : Value} (h : Calls P f args z.val fun e w' => e = .returned v ∧ Fr z.val w') :
    Calls P f args z.val fun e w'' => e = .returned v ∧ ∃ z' : FrW w0, w'' = z'.val :=
  h.mono fun _ w' ⟨he, hf⟩ => ⟨he, ⟨w', z.fr.trans hf⟩, rfl⟩
theorem frq' {P : Program} {f : FuncId} {args : Array Value} {w0 : World} {z : FrW w0} {v : Value} (h : Calls P f args z.val fun e w' => e = .returned v ∧ z.val = w') :
    Calls P f args z.val fun e w'' => e = .returned v ∧ ∃ z' : FrW w0, w'' = z'.val :=
  h.mono fun _ w' ⟨he, hf⟩ => ⟨he, z, hf.symm⟩
theorem FrW.cell {w0 : World} {p : Addr} {v : Value} (h : w0.cell? p = some v) (z : FrW w0) : z.val.cell? p = some v := z.fr.keep h
end Go.Proofs.YtgbaanioppblhaaDoor

/- Whole structs read in a region that draws its order. No condition but what each says. -/
namespace Go.Proofs.YtgbaanioppblhaaDoor
open Go.RowKit
section
variable {P : Program} {ops : Array Oper} {rest : List Oper} {o : Oper} {a : Act} {C : World → Prop} {Q : Act → Prop}
theorem wpQuiet_here (i : Op) (ho : o.op = i) (h : wpQuiet P ops C Q (o :: rest) a) : wpQuiet P ops C Q (o :: rest) a := h
theorem wpQuiet_load_box (ty : TypeId) (x : Operand) (ho : o.op = .load ty x)
    (g : Nat) (hx : a.eval x = .pointer (some ⟨g, 0, none⟩)) (cs : Array Value) (hC : ∀ w, C w → BoxAt w g cs ty) (d : TypeDesc)
    (hu : P.underlying ty = some d) (hd : (match d with | .struct _ | .array _ _ => true | _ => false) = true) (hi : (P.info? ty).map (·.size) = some cs.size)
    (hw : Region.wanted o (yielded ops a.tmps) = true) (h : wpQuiet P ops C Q rest (a.put o.dst (.agg cs))) : wpQuiet P ops C Q (o :: rest) a := by
  unfold wpQuiet
  rw [if_pos hw]
  refine ⟨.agg cs, fun w hCw => ?_, h⟩
  unfold Oper.quietAt execOp
  simp only [ho, hx, Instr.loadAt, Instr.sureAddr, Sem.run_bind, Sem.run_pure, Result.andThen_ok, run_loadVar_row w g ty ty cs (0, 0) d (hC w hCw) hu hd hi]
  exact ⟨rfl, rfl⟩
theorem BoxAt.ofFrW {w0 : World} {b : Nat} {c : Array Value} {t : TypeId} (h : BoxAt w0 b c t) : ∀ w, (∃ z : FrW w0, w = z.val) → BoxAt w b c t := fun _ ⟨z, hz⟩ => hz ▸ h.fr z.fr
end
end Go.Proofs.YtgbaanioppblhaaDoor
