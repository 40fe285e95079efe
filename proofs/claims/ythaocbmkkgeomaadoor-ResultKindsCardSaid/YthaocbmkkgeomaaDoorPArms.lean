/- Whole structs read out of a box and laid into a new one: arms of a walk that do not open the cells. No condition but what each says. -/
import Derived.Test.YthaocbmkkgeomaaDoorPBase
import Derived.Deep.MidRow
import Derived.Deep.WholeRow
import Derived.Deep.QuietTactic
import Derived.BigQuiet
import Derived.StillTail
set_option linter.all false
set_option linter.unusedVariables false
set_option linter.unusedSimpArgs false
set_option linter.unnecessarySimpa false
/- Whole structs read out of a box and laid into a new one: arms of a walk that do not open the cells. No condition but what each says. -/
namespace Go.Proofs.YthaocbmkkgeomaaDoor
open Go.RowKit

/-- A block that is these cells, and may be written. -/
def BoxAt (w : World) (b : Nat) (c : Array Value) (t : TypeId) : Prop := w.heap[b]? = some (.cells c t (0, 0))
theorem BoxAt.lt {w : World} {b : Nat} {c : Array Value} {t : TypeId} (h : BoxAt w b c t) : b < w.heap.size := by
  unfold BoxAt at h
  rcases Nat.lt_or_ge b w.heap.size with g | g
  · exact g
  · rw [Array.getElem?_eq_none g] at h; cases h
theorem BoxAt.fr {a w : World} {b : Nat} {c : Array Value} {t : TypeId} (h : BoxAt a b c t) (f : Fr a w) : BoxAt w b c t := (f.block h.lt).trans h
theorem BoxAt.alloc {w : World} {b : Nat} {c : Array Value} {t : TypeId} (h : BoxAt w b c t) (X : Obj) : BoxAt (w.alloc X) b c t := h.fr ((Fr.refl w).alloc X)
theorem BoxAt.drew {w : World} {b : Nat} {c : Array Value} {t : TypeId} (h : BoxAt w b c t) : BoxAt w.drew b c t := h
theorem BoxAt.drewN {w : World} {b : Nat} {c : Array Value} {t : TypeId} (h : BoxAt w b c t) (n : Nat) : BoxAt (w.drewN n) b c t := h
theorem BoxAt.set {w : World} {b : Nat} {c : Array Value} {t : TypeId} (h : BoxAt w b c t) {p : Addr} (hp : p.block ≠ b) (u : Value) : BoxAt (w.setCell p u) b c t := (Below.heap_setCell w p u b (fun e => hp e.symm)).trans h
theorem BoxAt.new (w : World) (c : Array Value) (t : TypeId) : BoxAt (w.alloc (.cells c t)) w.heap.size c t := heap_alloc_last w _
theorem BoxAt.new' (w : World) (c : Array Value) (t : TypeId) (n : Nat) (hn : n = w.heap.size) : BoxAt (w.alloc (.cells c t)) n c t := hn ▸ heap_alloc_last w _
theorem BoxAt.of_fr {w w1 : World} {c : Array Value} {t : TypeId} (h : Fr (w.alloc (.cells c t)) w1) : BoxAt w1 w.heap.size c t := (BoxAt.new w c t).fr h
theorem BoxAt.cell {w : World} {b : Nat} {c : Array Value} {t : TypeId} (h : BoxAt w b c t) (j : Nat) : w.cell? ⟨b, j, none⟩ = c[j]? := cell_of_row w b j c t (0, 0) h
theorem BoxAt.at {w : World} {b : Nat} {c : Array Value} {t : TypeId} (h : BoxAt w b c t) (j : Nat) {v : Value} (hv : c[j]? = some v) : w.cell? ⟨b, j, none⟩ = some v := (h.cell j).trans hv
theorem BoxAt.free {w : World} {b : Nat} {c : Array Value} {t : TypeId} (h : BoxAt w b c t) (j : Nat) : w.frozen? ⟨b, j, none⟩ = false := by
  unfold BoxAt at h
  simp [World.frozen?, h]

/-- A block laid anew, all else as it was. -/
structure Relaid (b : Nat) (c : Array Value) (t : TypeId) (w w' : World) : Prop where
  os : w'.os = w.os
  tape : w'.tape = w.tape
  output : w'.output = w.output
  size : w'.heap.size = w.heap.size
  box : BoxAt w' b c t
  other : ∀ k, k ≠ b → w'.heap[k]? = w.heap[k]?
theorem Relaid.boxOther {b : Nat} {c : Array Value} {t : TypeId} {w w' : World} (h : Relaid b c t w w') {d : Nat} {e : Array Value} {u : TypeId} (hB : BoxAt w d e u) (hd : d ≠ b) : BoxAt w' d e u := (h.other d hd).trans hB
theorem Relaid.fr {b : Nat} {c : Array Value} {t : TypeId} {a w w' : World} (h : Relaid b c t w w') (f : Fr a w) (hb : a.heap.size ≤ b) : Fr a w' :=
  ⟨h.os.trans f.os, h.tape.trans f.tape, h.output.trans f.output, by rw [h.size]; exact f.size, fun k hk => (h.other k (by omega)).trans (f.block hk)⟩
section
variable {P : Program} {ops : Array Oper} {rest : List Oper} {o : Oper} {a : Act} {Q : Exit → Act → World → Prop}
/-- The next operation is this one (cheap to ask ahead of a law that is dear to try). -/
theorem wpList_here {w : World} (i : Op) (ho : o.op = i) (h : wpList P ops Q (o :: rest) a w) : wpList P ops Q (o :: rest) a w := h
/-- A whole struct is read out of its block. -/
theorem wpList_load_box {w : World} (ty : TypeId) (x : Operand) (ho : o.op = .load ty x)
    (g : Nat) (hx : a.eval x = .pointer (some ⟨g, 0, none⟩)) (cs : Array Value) (hg : BoxAt w g cs ty) (d : TypeDesc)
    (hu : P.underlying ty = some d) (hd : (match d with | .struct _ | .array _ _ => true | _ => false) = true) (hi : (P.info? ty).map (·.size) = some cs.size)
    (hw : Region.wanted o (yielded ops a.tmps) = true) (h : wpList P ops Q rest (a.put o.dst (.agg cs)) w) : wpList P ops Q (o :: rest) a w :=
  wpList_step fun K hK => by
    simp only [hw, if_true]
    exact wp_load_row ty x ho g hx ty cs (0, 0) d hg hu hd hi (hK _ _ h)
/-- A whole struct is laid into the newest block. -/
theorem wpList_store_new {w : World} (ty : TypeId) (x y : Operand) (ho : o.op = .store ty x y) (c c' : Array Value) (n : Nat) (hn : n = w.heap.size)
    (hx : a.eval x = .pointer (some ⟨n, 0, none⟩)) (hy : a.eval y = .agg c') (hi : (P.info? ty).map (·.size) = some c'.size) (hs : c.size = c'.size) (h1 : c'.all (·.oneCell') = true)
    (hw : Region.wanted o (yielded ops a.tmps) = true) (hdst : o.dst = none) (h : wpList P ops Q rest a (w.alloc (.cells c' ty))) : wpList P ops Q (o :: rest) a (w.alloc (.cells c ty)) :=
  wpList_step fun K hK => by
    subst hn
    simp only [hw, if_true]
    have hp : a.put o.dst undef = a := by rw [hdst]; rfl
    unfold Oper.wp execOp
    simp only [ho, hx, hy, Sem.run_bind, run_storeAt_new w ty c c' hi hs h1, Result.andThen_ok, Sem.run_pure]
    show K (a.put o.dst undef) _
    rw [hp]
    exact hK _ _ h
/-- A whole struct is laid into a block that is there. -/
theorem wpList_store_old {w : World} (ty : TypeId) (x y : Operand) (ho : o.op = .store ty x y) (b : Nat) (c c' : Array Value)
    (hx : a.eval x = .pointer (some ⟨b, 0, none⟩)) (hy : a.eval y = .agg c') (hB : BoxAt w b c ty) (hi : (P.info? ty).map (·.size) = some c'.size) (hs : c.size = c'.size) (h1 : c'.all (·.oneCell') = true)
    (hw : Region.wanted o (yielded ops a.tmps) = true) (hdst : o.dst = none) (h : ∀ w', Relaid b c' ty w w' → wpList P ops Q rest a w') : wpList P ops Q (o :: rest) a w :=
  wpList_step fun K hK => by
    simp only [hw, if_true]
    have hst : (Instr.storeAt ty (.pointer (some ⟨b, 0, none⟩)) (.agg c')).run P w = .ok () (w.setRow b c') := by
      simp only [Instr.storeAt, Instr.sureAddr, Sem.run_bind, Sem.run_pure, Result.andThen]
      exact run_storeVar_row w b ty ty c c' hB hi hs h1
    have hp : a.put o.dst undef = a := by rw [hdst]; rfl
    unfold Oper.wp execOp
    simp only [ho, hx, hy, Sem.run_bind, hst, Result.andThen_ok, Sem.run_pure]
    show K (a.put o.dst undef) _
    rw [hp]
    exact hK _ _ (h _ ⟨rfl, rfl, rfl, by simp, setRow_heap w b c c' ty _ hB, fun k hk => setRow_other w b k c' hk⟩)
end
end Go.Proofs.YthaocbmkkgeomaaDoor

/- A region that draws its order, whose operations read and whose callees only make memory: walked once. No condition but what each says. -/
namespace Go.Proofs.YthaocbmkkgeomaaDoor
open Go.RowKit

/-- The worlds in which all that stood in 'w0' stands. -/
structure FrW (w0 : World) where
  val : World
  fr : Fr w0 val
instance (w0 : World) : Nonempty (FrW w0) := ⟨⟨w0, Fr.refl w0⟩⟩
theorem wp_region_fr {P : Program} {id : Nat} {Q : Exit → Act → World → Prop} {a : Act} {w : World} {l : List Oper} (hm : P.follows .mixedOrders = true) (hB : Region.lexB .any l.toArray = true)
    (h : wpQuiet P l.toArray (fun w' => ∃ z : FrW w, w' = z.val) (fun a' => ∀ w', (∃ z : FrW w, w' = z.val) → Q .normal a' w') l a) : (Code.region id l.toArray true).wp P Q a w :=
  wp_region_quiet (C := fun w' => ∃ z : FrW w, w' = z.val) hm hB ⟨⟨w.drew, (Fr.refl w).drew⟩, rfl⟩ (by simpa using h)
/-- A callee that only makes memory. -/
theorem frq {P : Program} {f : FuncId} {args : Array Value} {w0 : World} {z : FrW w0} {v : Value} (h : Calls P f args z.val fun e w' => e = .returned v ∧ Fr z.val w') :
    Calls P f args z.val fun e w'' => e = .returned v ∧ ∃ z' : FrW w0, w'' = z'.val :=
  h.mono fun _ w' ⟨he, hf⟩ => ⟨he, ⟨w', z.fr.trans hf⟩, rfl⟩
theorem frq' {P : Program} {f : FuncId} {args : Array Value} {w0 : World} {z : FrW w0} {v : Value} (h : Calls P f args z.val fun e w' => e = .returned v ∧ z.val = w') :
    Calls P f args z.val fun e w'' => e = .returned v ∧ ∃ z' : FrW w0, w'' = z'.val :=
  h.mono fun _ w' ⟨he, hf⟩ => ⟨he, z, hf.symm⟩
theorem FrW.cell {w0 : World} {p : Addr} {v : Value} (h : w0.cell? p = some v) (z : FrW w0) : z.val.cell? p = some v := z.fr.keep h
end Go.Proofs.YthaocbmkkgeomaaDoor

/- A region that draws its order: a quiet head, whose callees may make memory, then its last operations in their one order. No condition but what each says. -/
namespace Go.Proofs.YthaocbmkkgeomaaDoor
open Go.RowKit

section
variable {P : Program} {md : Region.Mode} {ops : Array Oper} {C : World → Prop}
/-- The head, in whatever order. -/
def wpAnyM (P : Program) (md : Region.Mode) (ops : Array Oper) (C : World → Prop) (n : Nat) (L : Array Bool → Act → Prop) : Nat → Array Bool → Act → Prop
  | 0, listed, a => L listed a
  | f + 1, listed, a => Region.ready md ops listed ≠ [] ∧ ∀ i ∈ Region.ready md ops listed, i < n ∧ qOp P ops C i (wpAnyM P md ops C n L f (listed.setIfInBounds i true)) a
theorem wpAny_of_headQ {n g : Nat} {L : Array Bool → Act → Prop} {Q' : Exit → Act → World → Prop} (hL : ∀ listed a w, C w → L listed a → wpAny P md ops Q' g listed a w) :
    ∀ (f : Nat) (listed : Array Bool) (a : Act) (w : World), C w → wpAnyM P md ops C n L f listed a → wpAny P md ops Q' (f + g) listed a w
  | 0, listed, a, w, hw, h => by rw [Nat.zero_add]; exact hL _ _ _ hw h
  | f + 1, listed, a, w, hw, h => by
    rw [show f + 1 + g = (f + g) + 1 by omega]
    exact ⟨fun h0 => absurd h0 h.1, fun i hi => wpOp_of_qOp hw (fun a' w' hw' h' => wpAny_of_headQ hL f _ a' w' hw' h') (h.2 i hi).2⟩
theorem wpAnyM_first {n i : Nat} {oi : Oper} {v : Value} {L : Array Bool → Act → Prop} (hi : ops[i]? = some oi) (hsel : ∀ (j : Nat) (o : Oper) cs b, ops[j]? = some o → o.op ≠ .select cs b)
    (hs : Region.sinkB md ops n = true) (hc : Region.chainB md ops n = true) (hn : n < ops.size) (hin : i < n)
    (hdone : ∀ listed a, L listed a → ∀ j ∈ Region.ready md ops listed, n ≤ j) :
    ∀ (f : Nat) (listed : Array Bool) (a : Act), HeadInv md ops n listed →
      (∀ j oj, ops[j]? = some oj → j ≠ i → listed.getD j true = false → (∀ e ∈ oj.after, Region.binds md e = true → e.on ≠ i) → oi.apart ops oj = true) →
      i ∈ Region.ready md ops listed → YieldsIn P ops C oi v a →
      wpAnyM P md ops C n L f (listed.setIfInBounds i true) (a.put oi.dst v) → wpAnyM P md ops C n L (f + 1) listed a := by
  intro f
  induction f with
  | zero =>
    intro listed a inv _ hr hy H
    have hun := (mem_ready.1 hr).1
    refine ⟨fun h => (by rw [h] at hr; cases hr), fun j hj => ?_⟩
    have hjn : j < n := by
      rcases Nat.lt_or_ge j n with h | h
      · exact h
      · exact absurd hj (tail_waits hs hc hn inv _ i rfl hin hun j h)
    refine ⟨hjn, ?_⟩
    by_cases hji : j = i
    · subst hji; exact hy.qOp hi H
    · have := hdone _ _ H j (ready_mono hj hji)
      omega
  | succ f ih =>
    intro listed a inv hfree hr hy H
    have hun := (mem_ready.1 hr).1
    refine ⟨fun h => (by rw [h] at hr; cases hr), fun j hj => ?_⟩
    have hjn : j < n := by
      rcases Nat.lt_or_ge j n with h | h
      · exact h
      · exact absurd hj (tail_waits hs hc hn inv _ i rfl hin hun j h)
    refine ⟨hjn, ?_⟩
    by_cases hji : j = i
    · subst hji; exact hy.qOp hi H
    · have h1 := (H.2 j (ready_mono hj hji)).2
      obtain ⟨hjun, oj, hoj, hall⟩ := mem_ready.1 hj
      have hnot : ∀ e ∈ oj.after, Region.binds md e = true → e.on ≠ i := fun e he hb heq => by
        have h1 := hall e he hb
        rw [heq, getD_both hun] at h1
        cases h1
      have h2 := qOp_put hoj (hfree j oj hoj hji hjun hnot) (fun cs b => hsel i oi cs b hi) (fun cs b => hsel j oj cs b hoj) hy h1
      have hfree' : ∀ k ok, ops[k]? = some ok → k ≠ i → (listed.setIfInBounds j true).getD k true = false →
          (∀ e ∈ ok.after, Region.binds md e = true → e.on ≠ i) → oi.apart ops ok = true := fun k ok hk hki hun hno => by
        refine hfree k ok hk hki ?_ hno
        by_cases hjk : j = k
        · subst hjk; exact hjun
        · rw [getD_set_ne true hjk] at hun; exact hun
      refine qOp_mono (fun a' h3 => ih (listed.setIfInBounds j true) a' (inv.set hj hjn) hfree' (ready_mono hr (Ne.symm hji)) h3.1 ?_) h2
      rw [Array.setIfInBounds_comm _ _ hji]
      exact h3.2
theorem wpAnyM_lex {n g : Nat} {Lq : Act → Prop} (hsel : Region.noSelect ops = true) (hs : Region.sinkB md ops n = true) (hc : Region.chainB md ops n = true) (hn : n < ops.size) :
    ∀ (l : List Oper) (k : Nat) (listed : Array Bool) (a : Act), (∀ j, j < l.length → l[j]? = ops[k + j]?) → k + l.length = n → HeadInv md ops n listed →
    Region.lexHead md ops g l.length k listed = true → wpQuiet P ops C Lq l a →
    wpAnyM P md ops C n (fun listed' a' => Region.seqB md ops g n listed' = true ∧ Lq a') l.length listed a
  | [], k, listed, a, _, hk, _, hB, h => by
    have : k = n := by simpa using hk
    subst this
    exact ⟨by simpa [Region.lexHead] using hB, h⟩
  | o :: l, k, listed, a, hl, hk, inv, hB, h => by
    have h0 : ops[k]? = some o := by simpa using (hl 0 (by simp)).symm
    simp only [List.length_cons, Region.lexHead, Bool.and_eq_true] at hB
    obtain ⟨⟨hr, hf⟩, hB'⟩ := hB
    have hkn : k < n := by simp only [List.length_cons] at hk; omega
    have hr' : k ∈ Region.ready md ops listed := by simpa using hr
    have hst : qOp P ops C k (wpQuiet P ops C Lq l) a := by unfold qOp; simp only [h0]; exact h
    obtain ⟨v, hy, hK⟩ := yieldsIn_of_qOp h0 hst
    exact wpAnyM_first h0 (Region.noSelect_spec hsel) hs hc hn hkn (fun listed' a' hL => seqB_ready hL.1) l.length listed a inv (Region.free_spec h0 hf) hr' hy
      (wpAnyM_lex hsel hs hc hn l (k + 1) _ _ (fun j hj => by have := hl (j + 1) (by simp; omega); simpa [Nat.add_assoc, Nat.add_comm 1 j] using this) (by simp only [List.length_cons] at hk; omega) (inv.set hr' hkn) hB' hK)
/-- The head by one quiet walk, then the tail, in every world of the class. -/
theorem wp_region_quiet_tail {id : Nat} {Q : Exit → Act → World → Prop} {a : Act} {w : World} {l : List Oper} (n : Nat) (hm : P.follows .mixedOrders = true) (hB : Region.lexTailB .any l.toArray n = true) (hC : C { w with drawn := w.drawn + 1 })
    (h : wpQuiet P l.toArray C (fun a' => ∀ w', C w' → wpList P l.toArray Q (l.drop n) a' w') (l.take n) a) : (Code.region id l.toArray true).wp P Q a w := by
  simp only [Region.lexTailB, Bool.and_eq_true, decide_eq_true_eq] at hB
  obtain ⟨⟨⟨⟨hsel, hn⟩, hs⟩, hc⟩, hlex⟩ := hB
  have hn' : n < l.length := by simpa using hn
  have htl : (l.take n).length = n := by simp; omega
  have hdl : (l.drop n).length = l.toArray.size - n := by simp
  have inv0 : HeadInv .any l.toArray n (Array.replicate l.toArray.size false) :=
    ⟨by simp, fun j oj _ hl => (by rw [getD_replicate_false] at hl; cases hl), fun t _ ht => getD_in (by simpa using ht) (getD_replicate_false _ _)⟩
  have H := wpAnyM_lex (C := C) (md := .any) (g := l.toArray.size - n) hsel hs hc hn (l.take n) 0 _ a (fun j hj => by
    have hj' : j < n := by rw [htl] at hj; exact hj
    simp [hj']) (by simpa using htl) inv0 (by rw [htl]; exact hlex) h
  refine wp_region_any hm ?_
  have := wpAny_of_headQ (Q' := Q) (g := l.toArray.size - n) (fun listed a' w' hw' hL => by
    have := wpAny_of_seq (md := .any) (Q' := Q) (l.drop n) n listed a' w' (fun j => by simp [List.getElem?_drop]) (by rw [hdl]; exact hL.1) (hL.2 w' hw')
    rwa [hdl] at this) _ _ _ _ hC H
  rw [htl, show n + (l.toArray.size - n) = l.toArray.size by omega] at this
  exact this
end
/-- At the class of worlds in which all stands that stood. -/
theorem wp_region_frt {P : Program} {id : Nat} {Q : Exit → Act → World → Prop} {a : Act} {w : World} {l : List Oper} (n : Nat) (hm : P.follows .mixedOrders = true) (hB : Region.lexTailB .any l.toArray n = true)
    (h : wpQuiet P l.toArray (fun w' => ∃ z : FrW w, w' = z.val) (fun a' => ∀ w', (∃ z : FrW w, w' = z.val) → wpList P l.toArray Q (l.drop n) a' w') (l.take n) a) : (Code.region id l.toArray true).wp P Q a w :=
  wp_region_quiet_tail (C := fun w' => ∃ z : FrW w, w' = z.val) n hm hB ⟨⟨w.drew, (Fr.refl w).drew⟩, rfl⟩ h
end Go.Proofs.YthaocbmkkgeomaaDoor
