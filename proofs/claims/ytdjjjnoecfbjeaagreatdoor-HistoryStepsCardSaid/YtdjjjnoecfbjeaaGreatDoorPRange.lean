/- A range over a function, at the level of plain walks. No condition but what each says. -/
import Derived.Test.YtdjjjnoecfbjeaaGreatDoorPBase
import Derived.RangeFuncNested
import Derived.RangeFuncBound
import Derived.RangeFuncCalls
import Derived.RangeFuncLeaves
import Derived.RangeFuncFrom
set_option linter.all false
set_option linter.unusedVariables false
set_option linter.unusedSimpArgs false
set_option linter.unnecessarySimpa false
/- A range over a function, at the level of plain walks. No condition but what each says. -/
namespace Go.Proofs.YtdjjjnoecfbjeaaGreatDoor
open Go.RowKit

theorem calls_of_marks {P : Program} {f : FuncId} {fn : Func} {c : Code} {args : Array Value} {w : World} {R : Ending → World → Prop} (hf : P.funcs[f]? = some fn) (hb : fn.body = some c)
    (h : c.wp P (bodyPostM Fence.wide 9 P fn R) { tmps := args ++ Array.replicate (fn.ntmps - args.size) undef, defers := [] } w) : Calls P f args w R :=
  callsIn_wide.1 (callsIn_of_wp_marks hf hb trivial (wpIn_wide.2 h) rfl)
theorem wp_rangeFunc {P : Program} {α : Type} {g : Operand} {ps : Array Tmp} {assign body : Code} {Q : Exit → Act → World → Prop} {a : Act} {w : World}
    {gf : Nat} {lb : Array Value} (hg : a.eval g = .func (.func gf) #[] lb) (eg : ∀ args w, (callFunc gf args).run P w = .ok (.enter gf args) w)
    {encs : α → Array Value} {n₀ : Nat} {S Sp : List α → Prop} {N : Nat} (hseq : SeqStopsK Fence.wide 8 P gf lb encs (Below n₀) S Sp N w) (hn : n₀ ≤ w.heap.size) (hps : ∀ x, (encs x).size = ps.size)
    (I : List α → World → Prop) (Ix : Code → List α → World → Prop) (hI : OwnFrom w.heap.size I) (hIx : ∀ c, OwnFrom w.heap.size (Ix c)) (h0 : I [] w) (a₁ : α → Act)
    (hassign : ∀ (l : Nat) (x : α) (W : World) (K : Act → World → Prop), K (a₁ x) W →
      assign.wpIn (Fence.wide.inRound l) 7 P (Exit.then K (fun _ _ _ => False)) { tmps := (ps.zip (encs x)).foldl (fun t (p, v) => t.setIfInBounds p v) a.tmps, defers := [] } W)
    (hbody : ∀ (l : Nat) (pre : List α) (x : α) (W : World), I pre W → pre.length < N → body.wpIn (Fence.wide.inRound l) 7 P (ownPostK (Below n₀) I Ix (pre ++ [x]) W) (a₁ x) W)
    (hdone : ∀ (D : Nat) (xs : List α) (W : World), w.heap.size ≤ D → S xs → I xs W → W.heap[D]? = some (.deferred (some [])) → Q .normal { a with defers := { target := .collected D, args := #[] } :: a.defers } W)
    (hstop : ∀ (D : Nat) (c : Code) (pre : List α) (W : World), w.heap.size ≤ D → Sp pre → Ix c pre W → W.heap[D]? = some (.deferred (some [])) → c.wp P Q { a with defers := { target := .collected D, args := #[] } :: a.defers } W) :
    (Code.rangeFunc g ps assign body).wp P Q a w :=
  (wpIn_wide (n := 9)).1 (wpIn_rangeFunc_ownF (F := Fence.wide) (n := 9) rfl (by omega) hg trivial eg hseq belowK_t (belowK_b hn) (Below.refl _ _) hps I Ix hI hIx h0 a₁ hassign hbody hdone (fun D c pre W h1 h2 h3 h4 => wpIn_wide.2 (hstop D c pre W h1 h2 h3 h4)))
theorem run_equalIn_fnil {P : Program} (d : Nat) {t : TypeId} {p r : Array TypeId} {vr : Bool} (h : P.underlying t = some (.func p r vr)) (f : Fn) (a b : Array Value) (W : World) : (Op.equalIn (d + 1) t (.func f a b) Value.nilFunc).run P W = .ok false W := by
  simp [Op.equalIn, run_underlying h]
/-- A function that is there is not nil. -/
theorem run_eql_fnil {P : Program} {t : TypeId} {p r : Array TypeId} {vr : Bool} (h : P.underlying t = some (.func p r vr)) (f : Fn) (a b : Array Value) (W : World) : (binOp .eql t (.func f a b) Value.nilFunc).run P W = .ok (.bool false) W := by
  have e : (binOp .eql t (.func f a b) Value.nilFunc).run P W = ((Op.equalIn 10000 t (.func f a b) Value.nilFunc).run P W).andThen fun b w' => .ok (.bool b) w' := by
    simp only [binOp]
    simp [Op.equal, Op.maxDepth]
  rw [e, run_equalIn_fnil 9999 h]
  rfl
/-- A block that the loop does not turn. -/
theorem ownFrom_block {β : Type} {B D : Nat} {o : Obj} (hD : D < B) : OwnFrom B (fun (_ : β) W => W.heap[D]? = some o) :=
  fun _ W W' row hs hg hr => by
    have hs : W.heap[D]? = some o := hs
    have hlt : D < W.heap.size := by
      rcases Nat.lt_or_ge D W.heap.size with h | h
      · exact h
      · rw [Array.getElem?_eq_none h] at hs; cases hs
    exact (hg.block D hlt (fun e => by have := (hr D e.symm).1; omega)).trans hs
theorem ownFrom_pure {β : Type} {B : Nat} {p : β → Prop} : OwnFrom B (fun s (_ : World) => p s) := fun _ _ _ _ h _ _ => h
theorem cell_al {W : World} {a : Addr} {v : Value} (o : Obj) (h : W.cell? a = some v) : (W.alloc o).cell? a = some v := cell_kept h (World.grownBy_alloc W o none) (fun r e => by cases e)
theorem frozen_al {W : World} {a : Addr} {v : Value} (o : Obj) (h : W.cell? a = some v) (hf : W.frozen? a = false) : (W.alloc o).frozen? a = false := (frozen_kept h (World.grownBy_alloc W o none) (fun r e => by cases e)).trans hf
/-- One cell, as it stands. -/
def Cel (W : World) (b o : Nat) (v : Value) : Prop := W.cell? ⟨b, o, none⟩ = some v ∧ W.frozen? ⟨b, o, none⟩ = false
theorem Cel.own {W W' : World} {b o : Nat} {v : Value} {row : Option Nat} (h : Cel W b o v) (hg : W.grownBy W' row) (hr : ∀ r, row = some r → ∃ o : Obj, W.heap[r]? = some o ∧ o.isCells = false) : Cel W' b o v := ⟨cell_kept h.1 hg hr, (frozen_kept h.1 hg hr).trans h.2⟩
theorem Cel.al {W : World} {b o : Nat} {v : Value} (X : Obj) (h : Cel W b o v) : Cel (W.alloc X) b o v := ⟨cell_al X h.1, frozen_al X h.1 h.2⟩
theorem Cel.fr {W W' : World} {b o : Nat} {v : Value} (h : Cel W b o v) (f : Fr W W') : Cel W' b o v := ⟨f.keep h.1, (f.frozen b o (lt_of_cell h.1)).trans h.2⟩
theorem Cel.set {W : World} {b o : Nat} {v : Value} (h : Cel W b o v) (u : Value) : Cel (W.setCell ⟨b, o, none⟩ u) b o u := ⟨World.cell?_setCell_same' _ _ _ (by rw [h.1]; rfl), by rw [World.frozen?_setCell]; exact h.2⟩
theorem Cel.setOther {W : World} {b o c p : Nat} {v : Value} (h : Cel W b o v) (hne : b ≠ c) (u : Value) : Cel (W.setCell ⟨c, p, none⟩ u) b o v :=
  ⟨(World.cell?_of_block (a := ⟨b, o, none⟩) (Below.heap_setCell W _ u b (fun e => hne e))).trans h.1, by rw [World.frozen?_setCell]; exact h.2⟩
end Go.Proofs.YtdjjjnoecfbjeaaGreatDoor
