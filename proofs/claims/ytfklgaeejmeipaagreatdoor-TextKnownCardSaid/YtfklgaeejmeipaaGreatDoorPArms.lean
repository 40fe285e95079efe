/- Whole structs read out of a box and laid into a new one: arms of a walk that do not open the cells. No condition but what each says. -/
import Derived.Test.YtfklgaeejmeipaaGreatDoorPBase
import Derived.Deep.MidRow
import Derived.Deep.WholeRow
import Derived.Orders
import Derived.StillTail
import Derived.Great.BuildSlice
import Derived.Great.FillDense
import Derived.OrdersHeld
import Derived.Deep.QuietTactic
import Derived.BigQuiet
set_option linter.all false
set_option linter.unusedVariables false
set_option linter.unusedSimpArgs false
set_option linter.unnecessarySimpa false
/- Whole structs read out of a box and laid into a new one: arms of a walk that do not open the cells. No condition but what each says. -/
namespace Go.Proofs.YtfklgaeejmeipaaGreatDoor
open Go.RowKit

/-- A block that is these cells, and may be written. -/
def BoxAt (w : World) (b : Nat) (c : Array Value) (t : TypeId) : Prop := w.heap[b]? = some (.cells c t (0, 0))
theorem BoxAt.lt {w : World} {b : Nat} {c : Array Value} {t : TypeId} (h : BoxAt w b c t) : b < w.heap.size := by
  unfold BoxAt at h
  rcases Nat.lt_or_ge b w.heap.size with g | g
  · exact g
  · rw [Array.getElem?_eq_none g] at h; cases h
theorem BoxAt.fr {a w : World} {b : Nat} {c : Array Value} {t : TypeId} (h : BoxAt a b c t) (f : Fr a w) : BoxAt w b c t := (f.block h.lt).trans h
theorem BoxAt.alloc {w : World} {b : Nat} {c : Array Value} {t : TypeId} (h : BoxAt w b c t) (X : Obj) : BoxAt (w.alloc X) b c t := h.fr ((Fr.refl w).alloc X)
theorem BoxAt.drew {w : World} {b : Nat} {c : Array Value} {t : TypeId} (h : BoxAt w b c t) : BoxAt w.drew b c t := h
theorem BoxAt.drewN {w : World} {b : Nat} {c : Array Value} {t : TypeId} (h : BoxAt w b c t) (n : Nat) : BoxAt (w.drewN n) b c t := h
theorem BoxAt.set {w : World} {b : Nat} {c : Array Value} {t : TypeId} (h : BoxAt w b c t) {p : Addr} (hp : p.block ≠ b) (u : Value) : BoxAt (w.setCell p u) b c t := (Below.heap_setCell w p u b (fun e => hp e.symm)).trans h
theorem BoxAt.new (w : World) (c : Array Value) (t : TypeId) : BoxAt (w.alloc (.cells c t)) w.heap.size c t := heap_alloc_last w _
theorem BoxAt.new' (w : World) (c : Array Value) (t : TypeId) (n : Nat) (hn : n = w.heap.size) : BoxAt (w.alloc (.cells c t)) n c t := hn ▸ heap_alloc_last w _
theorem BoxAt.of_fr {w w1 : World} {c : Array Value} {t : TypeId} (h : Fr (w.alloc (.cells c t)) w1) : BoxAt w1 w.heap.size c t := (BoxAt.new w c t).fr h
theorem BoxAt.cell {w : World} {b : Nat} {c : Array Value} {t : TypeId} (h : BoxAt w b c t) (j : Nat) : w.cell? ⟨b, j, none⟩ = c[j]? := cell_of_row w b j c t (0, 0) h
theorem BoxAt.at {w : World} {b : Nat} {c : Array Value} {t : TypeId} (h : BoxAt w b c t) (j : Nat) {v : Value} (hv : c[j]? = some v) : w.cell? ⟨b, j, none⟩ = some v := (h.cell j).trans hv
theorem BoxAt.free {w : World} {b : Nat} {c : Array Value} {t : TypeId} (h : BoxAt w b c t) (j : Nat) : w.frozen? ⟨b, j, none⟩ = false := by
  unfold BoxAt at h
  simp [World.frozen?, h]

/-- A block laid anew, all else as it was. -/
structure Relaid (b : Nat) (c : Array Value) (t : TypeId) (w w' : World) : Prop where
  os : w'.os = w.os
  tape : w'.tape = w.tape
  output : w'.output = w.output
  size : w'.heap.size = w.heap.size
  box : BoxAt w' b c t
  other : ∀ k, k ≠ b → w'.heap[k]? = w.heap[k]?
theorem Relaid.boxOther {b : Nat} {c : Array Value} {t : TypeId} {w w' : World} (h : Relaid b c t w w') {d : Nat} {e : Array Value} {u : TypeId} (hB : BoxAt w d e u) (hd : d ≠ b) : BoxAt w' d e u := (h.other d hd).trans hB
theorem Relaid.fr {b : Nat} {c : Array Value} {t : TypeId} {a w w' : World} (h : Relaid b c t w w') (f : Fr a w) (hb : a.heap.size ≤ b) : Fr a w' :=
  ⟨h.os.trans f.os, h.tape.trans f.tape, h.output.trans f.output, by rw [h.size]; exact f.size, fun k hk => (h.other k (by omega)).trans (f.block hk)⟩
section
variable {P : Program} {ops : Array Oper} {rest : List Oper} {o : Oper} {a : Act} {Q : Exit → Act → World → Prop}
/-- The next operation is this one (cheap to ask ahead of a law that is dear to try). -/
theorem wpList_here {w : World} (i : Op) (ho : o.op = i) (h : wpList P ops Q (o :: rest) a w) : wpList P ops Q (o :: rest) a w := h
/-- A whole struct is read out of its block. -/
theorem wpList_load_box {w : World} (ty : TypeId) (x : Operand) (ho : o.op = .load ty x)
    (g : Nat) (hx : a.eval x = .pointer (some ⟨g, 0, none⟩)) (cs : Array Value) (hg : BoxAt w g cs ty) (d : TypeDesc)
    (hu : P.underlying ty = some d) (hd : (match d with | .struct _ | .array _ _ => true | _ => false) = true) (hi : (P.info? ty).map (·.size) = some cs.size)
    (hw : Region.wanted o (yielded ops a.tmps) = true) (h : wpList P ops Q rest (a.put o.dst (.agg cs)) w) : wpList P ops Q (o :: rest) a w :=
  wpList_step fun K hK => by
    simp only [hw, if_true]
    exact wp_load_row ty x ho g hx ty cs (0, 0) d hg hu hd hi (hK _ _ h)
/-- A whole struct is laid into the newest block. -/
theorem wpList_store_new {w : World} (ty : TypeId) (x y : Operand) (ho : o.op = .store ty x y) (c c' : Array Value) (n : Nat) (hn : n = w.heap.size)
    (hx : a.eval x = .pointer (some ⟨n, 0, none⟩)) (hy : a.eval y = .agg c') (hi : (P.info? ty).map (·.size) = some c'.size) (hs : c.size = c'.size) (h1 : c'.all (·.oneCell') = true)
    (hw : Region.wanted o (yielded ops a.tmps) = true) (hdst : o.dst = none) (h : wpList P ops Q rest a (w.alloc (.cells c' ty))) : wpList P ops Q (o :: rest) a (w.alloc (.cells c ty)) :=
  wpList_step fun K hK => by
    subst hn
    simp only [hw, if_true]
    have hp : a.put o.dst undef = a := by rw [hdst]; rfl
    unfold Oper.wp execOp
    simp only [ho, hx, hy, Sem.run_bind, run_storeAt_new w ty c c' hi hs h1, Result.andThen_ok, Sem.run_pure]
    show K (a.put o.dst undef) _
    rw [hp]
    exact hK _ _ h
/-- A whole struct is laid into a block that is there. -/
theorem wpList_store_old {w : World} (ty : TypeId) (x y : Operand) (ho : o.op = .store ty x y) (b : Nat) (c c' : Array Value)
    (hx : a.eval x = .pointer (some ⟨b, 0, none⟩)) (hy : a.eval y = .agg c') (hB : BoxAt w b c ty) (hi : (P.info? ty).map (·.size) = some c'.size) (hs : c.size = c'.size) (h1 : c'.all (·.oneCell') = true)
    (hw : Region.wanted o (yielded ops a.tmps) = true) (hdst : o.dst = none) (h : ∀ w', Relaid b c' ty w w' → wpList P ops Q rest a w') : wpList P ops Q (o :: rest) a w :=
  wpList_step fun K hK => by
    simp only [hw, if_true]
    have hst : (Instr.storeAt ty (.pointer (some ⟨b, 0, none⟩)) (.agg c')).run P w = .ok () (w.setRow b c') := by
      simp only [Instr.storeAt, Instr.sureAddr, Sem.run_bind, Sem.run_pure, Result.andThen]
      exact run_storeVar_row w b ty ty c c' hB hi hs h1
    have hp : a.put o.dst undef = a := by rw [hdst]; rfl
    unfold Oper.wp execOp
    simp only [ho, hx, hy, Sem.run_bind, hst, Result.andThen_ok, Sem.run_pure]
    show K (a.put o.dst undef) _
    rw [hp]
    exact hK _ _ (h _ ⟨rfl, rfl, rfl, by simp, setRow_heap w b c c' ty _ hB, fun k hk => setRow_other w b k c' hk⟩)
end
end Go.Proofs.YtfklgaeejmeipaaGreatDoor

/- A region that draws its order, walked by an invariant of what has come up: plain. No condition but what each says. -/
namespace Go.Proofs.YtfklgaeejmeipaaGreatDoor
open Go.RowKit

section
variable {P : Program} {ops : Array Oper} {Q : Exit → Act → World → Prop} {md : Region.Mode}
/-- How many have not come up. -/
def still (l : Array Bool) : Nat := (l.toList.filter (!·)).length
theorem filter_set (l : List Bool) : ∀ i, l.getD i true = false → ((l.set i true).filter (!·)).length + 1 = (l.filter (!·)).length := by
  induction l with
  | nil => intro i h; simp at h
  | cons b l ih =>
    intro i h
    cases i with
    | zero => simp at h; subst h; simp
    | succ i =>
      have := ih i (by simpa using h)
      cases b <;> simp <;> omega
theorem still_set {l : Array Bool} {i : Nat} (h : l.getD i true = false) : still (l.setIfInBounds i true) + 1 = still l := by
  unfold still
  rw [Array.toList_setIfInBounds]
  exact filter_set l.toList i (by simpa [Array.getD_eq_getD_getElem?, List.getD_eq_getElem?_getD] using h)
theorem ready_iff {l : Array Bool} {i : Nat} : i ∈ Region.ready md ops l ↔ i < ops.size ∧ l.getD i true = false ∧ ((ops[i]?).map (·.after.all fun e => !Region.binds md e || l.getD e.on false)).getD false = true := by
  unfold Region.ready
  rw [List.mem_filter, List.mem_range, Bool.and_eq_true, Bool.not_eq_true']
theorem still_zero {l : Array Bool} (h : still l = 0) (i : Nat) : l.getD i true = true := by
  cases hg : l.getD i true with
  | true => rfl
  | false => have := still_set hg; omega
theorem wpAny_inv (Inv : Array Bool → Act → World → Prop) (hd : ∀ l a w, Inv l a w → Region.ready md ops l = [] → Q .normal a w)
    (hs : ∀ l a w i, Inv l a w → i ∈ Region.ready md ops l → wpOp P ops Q i (fun a' w' => Inv (l.setIfInBounds i true) a' w') a w) :
    ∀ fuel l a w, still l ≤ fuel → Inv l a w → wpAny P md ops Q fuel l a w := by
  intro fuel
  induction fuel with
  | zero =>
    intro l a w hl hi
    have hr : Region.ready md ops l = [] := List.eq_nil_iff_forall_not_mem.2 fun i hm => by
      have h1 := (ready_iff.1 hm).2.1
      rw [still_zero (by omega) i] at h1
      cases h1
    exact ⟨hr, hd _ _ _ hi hr⟩
  | succ fuel ih =>
    intro l a w hl hi
    refine ⟨hd _ _ _ hi, fun i hir => wpOp_mono (fun a w h => ih _ _ _ ?_ h) (hs _ _ _ _ hi hir)⟩
    have := still_set (ready_iff.1 hir).2.1
    omega
theorem wp_region_inv {id : Nat} {a : Act} {w : World} (hm : P.follows .mixedOrders = true) (Inv : Array Bool → Act → World → Prop) (h0 : Inv (Array.replicate ops.size false) a w.drew)
    (hd : ∀ l a w, Inv l a w → Region.ready .any ops l = [] → Q .normal a w)
    (hs : ∀ l a w i, Inv l a w → i ∈ Region.ready .any ops l → wpOp P ops Q i (fun a' w' => Inv (l.setIfInBounds i true) a' w') a w) : (Code.region id ops true).wp P Q a w :=
  wp_region_any hm (wpAny_inv Inv hd hs _ _ _ _ (by unfold still; simp) h0)
/-- One operation, by the walk of a list of one. -/
theorem wpOp_list {i : Nat} {o : Oper} {K : Act → World → Prop} {a : Act} {w : World} (ho : ops[i]? = some o) (h : wpList P ops (Exit.then K Q) [o] a w) (hQ : ∀ K : Act → World → Prop, LetsOut (Exit.then K Q) → LetsOut Q) : wpOp P ops Q i K a w := by
  unfold wpOp
  simp only [ho]
  unfold wpList at h
  split
  · rename_i hw
    rw [if_pos hw] at h
    rcases h with h | h
    · left
      unfold Oper.wp at *
      generalize (execOp a.eval o).run P w = r at *
      cases r with
      | ok n w' =>
        cases n <;> simp only [Oper.upon] at h ⊢ <;> first | exact h | exact Calls.mono h (fun e w'' he => by cases e <;> first | exact he | exact hQ _ he) | exact Rows.mono h (fun _ _ he => he)
      | halt x w' => cases x <;> simp only [Oper.upon] at h ⊢ <;> first | exact h | exact hQ _ h
    · exact .inr ⟨h.1, hQ _ h.2⟩
  · rename_i hw
    rw [if_neg hw] at h
    exact h
theorem letsOut_then (K : Act → World → Prop) (h : LetsOut (Exit.then K Q)) : LetsOut Q := h
end
end Go.Proofs.YtfklgaeejmeipaaGreatDoor

/- Several structs made at once, in whatever order: 'a, b, c = f(), g(), h' where a, b, c are boxes. No condition but what each says. -/
namespace Go.Proofs.YtfklgaeejmeipaaGreatDoor
open Go.RowKit

theorem getD_set {l : Array Bool} {i j : Nat} : (l.setIfInBounds i true).getD j false = (l.getD j false || (decide (i = j) && decide (j < l.size))) := by
  simp only [Array.getD_eq_getD_getElem?, Array.getElem?_setIfInBounds]
  by_cases h : i = j
  · subst h
    by_cases h2 : i < l.size
    · simp [h2]
    · simp [h2]
  · simp [h]
theorem put_size (a : Act) (d : Option Tmp) (v : Value) : (a.put d v).tmps.size = a.tmps.size := by
  cases d <;> simp [Act.put]
/-- The frame with these slots laid. -/
def laidT (t0 : Array Value) (e p : Nat → Tmp) (v : Nat → Array Value) (b : Nat → Nat) : Nat → Array Value
  | 0 => t0
  | k + 1 => ((laidT t0 e p v b k).setIfInBounds (e k) (.agg (v k))).setIfInBounds (p k) (.pointer (some ⟨b k, 0, none⟩))
section
variable {t0 : Array Value} {e p : Nat → Tmp} {v : Nat → Array Value} {b : Nat → Nat}
theorem laidT_size (n : Nat) : (laidT t0 e p v b n).size = t0.size := by
  induction n with
  | zero => rfl
  | succ k ih => simp [laidT, ih]
theorem laidT_other {n j : Nat} (h : ∀ k, k < n → j ≠ e k ∧ j ≠ p k) : (laidT t0 e p v b n)[j]? = t0[j]? := by
  induction n with
  | zero => rfl
  | succ k ih =>
    have h1 := h k (by omega)
    unfold laidT
    rw [Array.getElem?_setIfInBounds_ne (Ne.symm h1.2), Array.getElem?_setIfInBounds_ne (Ne.symm h1.1)]
    exact ih fun q hq => h q (by omega)
theorem laidT_at {n k : Nat} (hk : k < n) (hE : ∀ i j, i < n → j < n → i ≠ j → e i ≠ e j) (hP : ∀ i j, i < n → j < n → i ≠ j → p i ≠ p j) (hEP : ∀ i j, i < n → j < n → e i ≠ p j) (he : ∀ i, i < n → e i < t0.size ∧ p i < t0.size) :
    (laidT t0 e p v b n)[e k]? = some (.agg (v k)) ∧ (laidT t0 e p v b n)[p k]? = some (.pointer (some ⟨b k, 0, none⟩)) := by
  induction n with
  | zero => omega
  | succ m ih =>
    unfold laidT
    by_cases hkm : k = m
    · subst hkm
      refine ⟨?_, ?_⟩
      · rw [Array.getElem?_setIfInBounds_ne (Ne.symm (hEP k k hk hk)), Array.getElem?_setIfInBounds_self_of_lt (by rw [laidT_size]; exact (he k hk).1)]
      · rw [Array.getElem?_setIfInBounds_self_of_lt (by rw [Array.size_setIfInBounds, laidT_size]; exact (he k hk).2)]
    · obtain ⟨h1, h2⟩ := ih (by omega) (fun i j hi hj => hE i j (by omega) (by omega)) (fun i j hi hj => hP i j (by omega) (by omega)) (fun i j hi hj => hEP i j (by omega) (by omega)) (fun i hi => he i (by omega))
      refine ⟨?_, ?_⟩
      · rw [Array.getElem?_setIfInBounds_ne (Ne.symm (hEP k m hk (by omega))), Array.getElem?_setIfInBounds_ne (Ne.symm (hE k m hk (by omega) hkm))]
        exact h1
      · rw [Array.getElem?_setIfInBounds_ne (Ne.symm (hP k m hk (by omega) hkm)), Array.getElem?_setIfInBounds_ne (hEP m k (by omega) hk)]
        exact h2
end
/-- What stands when so much has come up: values, boxes, what they hold. -/
structure Boxes (n : Nat) (t0 : Array Value) (d0 : List Deferred) (e p : Nat → Tmp) (v : Nat → Array Value) (Z : Array Value) (T : TypeId) (W0 : World) (b : Nat → Nat) (l : Array Bool) (a : Act) (w : World) : Prop where
  lsize : l.size = 3 * n
  closed : ∀ k, k < n → l.getD (2 * n + k) false = true → l.getD k false = true ∧ l.getD (n + k) false = true
  size : a.tmps.size = t0.size
  defers : a.defers = d0
  other : ∀ j, (∀ k, k < n → j ≠ e k ∧ j ≠ p k) → a.tmps[j]? = t0[j]?
  val : ∀ k, k < n → l.getD k false = true → a.tmps[e k]? = some (.agg (v k))
  ptr : ∀ k, k < n → l.getD (n + k) false = true → a.tmps[p k]? = some (.pointer (some ⟨b k, 0, none⟩))
  fr : Fr W0 w
  box : ∀ k, k < n → l.getD (n + k) false = true → BoxAt w (b k) (if l.getD (2 * n + k) false then v k else Z) T ∧ W0.heap.size ≤ b k
  inj : ∀ i j, i < n → j < n → i ≠ j → l.getD (n + i) false = true → l.getD (n + j) false = true → b i ≠ b j
section
variable {P : Program} {ops : Array Oper} {Q : Exit → Act → World → Prop} {n : Nat} {t0 : Array Value} {d0 : List Deferred} {e p : Nat → Tmp} {v : Nat → Array Value} {Z : Array Value} {T : TypeId} {W0 : World}
theorem wp_region_boxes {id : Nat} (hm : P.follows .mixedOrders = true) (hsz : ops.size = 3 * n)
    (hE : ∀ i j, i < n → j < n → i ≠ j → e i ≠ e j) (hP : ∀ i j, i < n → j < n → i ≠ j → p i ≠ p j) (hEP : ∀ i j, i < n → j < n → e i ≠ p j) (hlt : ∀ i, i < n → e i < t0.size ∧ p i < t0.size)
    (hev : ∀ k, k < n → ∀ (K : Act → World → Prop) a w, Fr W0 w → (∀ w', Fr w w' → K (a.put (some (e k)) (.agg (v k))) w') → (∀ j, (∀ k, k < n → j ≠ e k ∧ j ≠ p k) → a.tmps[j]? = t0[j]?) → wpOp P ops Q k K a w)
    (hal : ∀ k, k < n → ∀ (K : Act → World → Prop) a w, K (a.put (some (p k)) (.pointer (some ⟨w.heap.size, 0, none⟩))) (w.alloc (.cells Z T)) → wpOp P ops Q (n + k) K a w)
    (hst : ∀ k, k < n → ∀ (K : Act → World → Prop) a w b, a.tmps[p k]? = some (.pointer (some ⟨b, 0, none⟩)) → a.tmps[e k]? = some (.agg (v k)) → BoxAt w b Z T → (∀ w', Relaid b (v k) T w w' → K a w') → wpOp P ops Q (2 * n + k) K a w)
    (hw : ∀ k, k < n → ∀ l, 2 * n + k ∈ Region.ready .any ops l → l.getD k false = true ∧ l.getD (n + k) false = true)
    (hfull : ∀ l, l.size = 3 * n → Region.ready .any ops l = [] → ∀ i, i < 3 * n → l.getD i false = true)
    (h : ∀ b w, Fr W0 w → (∀ k, k < n → BoxAt w (b k) (v k) T ∧ W0.heap.size ≤ b k) → (∀ i j, i < n → j < n → i ≠ j → b i ≠ b j) → Q .normal ⟨laidT t0 e p v b n, d0⟩ w) :
    (Code.region id ops true).wp P Q ⟨t0, d0⟩ W0 := by
  refine wp_region_inv hm (fun l a w => ∃ b, Boxes n t0 d0 e p v Z T W0 b l a w) ?_ ?_ ?_
  · refine ⟨fun _ => 0, { lsize := by simp [hsz], closed := fun k _ hl => ?_, size := rfl, defers := rfl, other := fun _ _ => rfl, val := fun k _ hl => ?_, ptr := fun k _ hl => ?_, fr := (Fr.refl W0).drew, box := fun k _ hl => ?_, inj := fun i j _ _ _ hl => ?_ }⟩
    all_goals (rw [getD_replicate_false] at hl; cases hl)
  · rintro l a w ⟨b, H⟩ hr
    have hf := hfull l H.lsize hr
    have ha : a = ⟨laidT t0 e p v b n, d0⟩ := by
      obtain ⟨tm, df⟩ := a
      have hd : df = d0 := H.defers
      subst hd
      congr 1
      apply Array.ext_getElem?
      intro j
      by_cases hj : ∃ k, k < n ∧ (j = e k ∨ j = p k)
      · obtain ⟨k, hk, hj⟩ := hj
        have hL := laidT_at (v := v) (b := b) hk hE hP hEP hlt
        rcases hj with rfl | rfl
        · rw [hL.1]; exact H.val k hk (hf k (by omega))
        · rw [hL.2]; exact H.ptr k hk (hf (n + k) (by omega))
      · have hj2 : ∀ k, k < n → j ≠ e k ∧ j ≠ p k := fun k hk => ⟨fun e => hj ⟨k, hk, .inl e⟩, fun e => hj ⟨k, hk, .inr e⟩⟩
        rw [laidT_other hj2]
        exact H.other j hj2
    rw [ha]
    refine h b w H.fr (fun k hk => ?_) (fun i j hi hj hne => H.inj i j hi hj hne (hf _ (by omega)) (hf _ (by omega)))
    have := H.box k hk (hf _ (by omega))
    rw [hf (2 * n + k) (by omega)] at this
    exact this
  · rintro l a w i ⟨b, H⟩ hr
    obtain ⟨hi, hun, _⟩ := ready_iff.1 hr
    rw [hsz] at hi
    have hil : i < l.size := by rw [H.lsize]; exact hi
    have hunf : l.getD i false = false := getD_both hun
    have hG : ∀ j, (l.setIfInBounds i true).getD j false = (l.getD j false || decide (i = j)) := fun j => by
      rw [getD_set]
      by_cases hj : i = j
      · subst hj; simp [hil]
      · simp [hj]
    by_cases h1 : i < n
    · -- a value
      refine hev i h1 _ a w H.fr (fun w' hf => ⟨b, ?_⟩) H.other
      refine { lsize := by simp [H.lsize], closed := fun k hk hl => ?_, size := by rw [put_size]; exact H.size, defers := H.defers, other := fun j hj => ?_, val := fun k hk hl => ?_, ptr := fun k hk hl => ?_, fr := H.fr.trans hf, box := fun k hk hl => ?_, inj := fun x y hx hy hne hl1 hl2 => ?_ }
      · rw [hG] at hl
        have hl' : l.getD (2 * n + k) false = true := by simpa [show i ≠ 2 * n + k by omega] using hl
        rw [hG, hG]
        have := H.closed k hk hl'
        rw [this.1, this.2]
        exact ⟨rfl, rfl⟩
      · have := (hj i h1).1
        show ((a.tmps.setIfInBounds (e i) _))[j]? = _
        rw [Array.getElem?_setIfInBounds_ne (Ne.symm this)]
        exact H.other j hj
      · show ((a.tmps.setIfInBounds (e i) _))[e k]? = _
        by_cases hk2 : k = i
        · subst hk2
          exact Array.getElem?_setIfInBounds_self_of_lt (by rw [H.size]; exact (hlt k hk).1)
        · rw [Array.getElem?_setIfInBounds_ne (hE i k h1 hk (Ne.symm hk2))]
          refine H.val k hk ?_
          rw [hG] at hl
          simpa [Ne.symm hk2] using hl
      · show ((a.tmps.setIfInBounds (e i) _))[p k]? = _
        rw [Array.getElem?_setIfInBounds_ne (hEP i k h1 hk)]
        refine H.ptr k hk ?_
        rw [hG] at hl
        simpa [show i ≠ n + k by omega] using hl
      · rw [hG] at hl
        have hl' : l.getD (n + k) false = true := by simpa [show i ≠ n + k by omega] using hl
        have := H.box k hk hl'
        rw [hG, show decide (i = 2 * n + k) = false by simp; omega, Bool.or_false]
        exact ⟨this.1.fr hf, this.2⟩
      · rw [hG] at hl1 hl2
        exact H.inj x y hx hy hne (by simpa [show i ≠ n + x by omega] using hl1) (by simpa [show i ≠ n + y by omega] using hl2)
    · by_cases h2 : i < 2 * n
      · -- a box
        obtain ⟨q, rfl⟩ : ∃ q, i = n + q := ⟨i - n, by omega⟩
        have hq : q < n := by omega
        refine hal q hq _ a w ⟨fun k => if k = q then w.heap.size else b k, ?_⟩
        have hns : l.getD (2 * n + q) false = false := by
          cases hs : l.getD (2 * n + q) false with
          | false => rfl
          | true => have := (H.closed q hq hs).2; rw [hunf] at this; cases this
        have hold : ∀ k, k ≠ q → (l.setIfInBounds (n + q) true).getD (n + k) false = true → l.getD (n + k) false = true := fun k hk hl => by
          rw [hG, show decide (n + q = n + k) = false by simp; omega, Bool.or_false] at hl
          exact hl
        refine { lsize := by simp [H.lsize], closed := fun k hk hl => ?_, size := by rw [put_size]; exact H.size, defers := H.defers, other := fun j hj => ?_, val := fun k hk hl => ?_, ptr := fun k hk hl => ?_, fr := H.fr.alloc _, box := fun k hk hl => ?_, inj := fun x y hx hy hne hl1 hl2 => ?_ }
        · rw [hG] at hl
          have hl' : l.getD (2 * n + k) false = true := by simpa [show n + q ≠ 2 * n + k by omega] using hl
          rw [hG, hG]
          have := H.closed k hk hl'
          rw [this.1, this.2]
          exact ⟨rfl, rfl⟩
        · have := (hj q hq).2
          show ((a.tmps.setIfInBounds (p q) _))[j]? = _
          rw [Array.getElem?_setIfInBounds_ne (Ne.symm this)]
          exact H.other j hj
        · show ((a.tmps.setIfInBounds (p q) _))[e k]? = _
          rw [Array.getElem?_setIfInBounds_ne (Ne.symm (hEP k q hk hq))]
          refine H.val k hk ?_
          rw [hG] at hl
          simpa [show n + q ≠ k by omega] using hl
        · show ((a.tmps.setIfInBounds (p q) _))[p k]? = _
          by_cases hk2 : k = q
          · subst hk2
            rw [if_pos rfl]
            exact Array.getElem?_setIfInBounds_self_of_lt (by rw [H.size]; exact (hlt k hk).2)
          · rw [Array.getElem?_setIfInBounds_ne (hP q k hq hk (Ne.symm hk2)), if_neg hk2]
            exact H.ptr k hk (hold k hk2 hl)
        · rw [hG, show decide (n + q = 2 * n + k) = false by simp; omega, Bool.or_false]
          by_cases hk2 : k = q
          · subst hk2
            rw [if_pos rfl, hns]
            exact ⟨BoxAt.new w Z T, H.fr.size⟩
          · rw [if_neg hk2]
            have := H.box k hk (hold k hk2 hl)
            exact ⟨this.1.alloc _, this.2⟩
        · by_cases hx2 : x = q
          · subst hx2
            have hy2 : y ≠ x := Ne.symm hne
            rw [if_pos rfl, if_neg hy2]
            have := (H.box y hy (hold y hy2 hl2)).1.lt
            omega
          · rw [if_neg hx2]
            have h4 := hold x hx2 hl1
            by_cases hy2 : y = q
            · subst hy2
              rw [if_pos rfl]
              have := (H.box x hx h4).1.lt
              omega
            · rw [if_neg hy2]
              exact H.inj x y hx hy hne h4 (hold y hy2 hl2)
      · -- a store
        obtain ⟨q, rfl⟩ : ∃ q, i = 2 * n + q := ⟨i - 2 * n, by omega⟩
        have hq : q < n := by omega
        obtain ⟨w1, w2⟩ := hw q hq l hr
        have hbq := H.box q hq w2
        rw [hunf] at hbq
        refine hst q hq _ a w (b q) (H.ptr q hq w2) (H.val q hq w1) hbq.1 (fun w' hR => ⟨b, ?_⟩)
        have hold : ∀ k, k < n → (l.setIfInBounds (2 * n + q) true).getD k false = l.getD k false := fun k hk => by rw [hG, show decide (2 * n + q = k) = false by simp; omega, Bool.or_false]
        have hold2 : ∀ k, k < n → (l.setIfInBounds (2 * n + q) true).getD (n + k) false = l.getD (n + k) false := fun k hk => by rw [hG, show decide (2 * n + q = n + k) = false by simp; omega, Bool.or_false]
        refine { lsize := by simp [H.lsize], closed := fun k hk hl => ?_, size := H.size, defers := H.defers, other := H.other, val := fun k hk hl => ?_, ptr := fun k hk hl => ?_, fr := hR.fr H.fr hbq.2, box := fun k hk hl => ?_, inj := fun x y hx hy hne hl1 hl2 => ?_ }
        · rw [hold k hk, hold2 k hk]
          by_cases hk2 : k = q
          · subst hk2; exact ⟨w1, w2⟩
          · refine H.closed k hk ?_
            rw [hG, show decide (2 * n + q = 2 * n + k) = false by simp; omega, Bool.or_false] at hl
            exact hl
        · rw [hold k hk] at hl; exact H.val k hk hl
        · rw [hold2 k hk] at hl; exact H.ptr k hk hl
        · rw [hold2 k hk] at hl
          have hb := H.box k hk hl
          by_cases hk2 : k = q
          · subst hk2
            rw [hG, decide_eq_true rfl, Bool.or_true]
            exact ⟨hR.box, hb.2⟩
          · rw [hG, show decide (2 * n + q = 2 * n + k) = false by simp; omega, Bool.or_false]
            exact ⟨hR.boxOther hb.1 (H.inj k q hk hq hk2 hl w2), hb.2⟩
        · rw [hold2 x hx] at hl1
          rw [hold2 y hy] at hl2
          exact H.inj x y hx hy hne hl1 hl2
end
end Go.Proofs.YtfklgaeejmeipaaGreatDoor

/- One operation of a drawn region: a value, a call, a new box, a box laid; a region that has wholly come up. No condition but what each says. -/
namespace Go.Proofs.YtfklgaeejmeipaaGreatDoor
open Go.RowKit

section
variable {P : Program} {ops : Array Oper} {Q : Exit → Act → World → Prop} {K : Act → World → Prop} {i : Nat} {o : Oper} {a : Act} {w : World}
theorem wanted_plain (hg : o.guard = none) (y : Array Value) : Region.wanted o (yielded ops y) = true := by simp [Region.wanted, hg]
theorem wpOp_run (ho : ops[i]? = some o) (hg : o.guard = none) (v : Value) (w' : World) (hrun : (execOp a.eval o).run P w = .ok (.value v) w') (h : K (a.put o.dst v) w') : wpOp P ops Q i K a w := by
  unfold wpOp
  simp only [ho]
  rw [if_pos (wanted_plain hg _)]
  left
  unfold Oper.wp
  rw [hrun]
  exact h
theorem wpOp_enter (ho : ops[i]? = some o) (hg : o.guard = none) (f : FuncId) (args : Array Value) (hrun : (execOp a.eval o).run P w = .ok (.enter f args) w) (v : Value)
    (h : Calls P f args w fun e w' => e = .returned v ∧ K (a.put o.dst v) w') : wpOp P ops Q i K a w := by
  unfold wpOp
  simp only [ho]
  rw [if_pos (wanted_plain hg _)]
  left
  unfold Oper.wp
  rw [hrun, Oper.upon_enter]
  exact h.mono fun e w' ⟨he, hk⟩ => by subst he; exact hk
theorem run_load_box (ty : TypeId) (x : Operand) (ho : o.op = .load ty x) (g : Nat) (hx : a.eval x = .pointer (some ⟨g, 0, none⟩)) (cs : Array Value) (hS : BoxAt w g cs ty) (d : TypeDesc)
    (hu : P.underlying ty = some d) (hd : (match d with | .struct _ | .array _ _ => true | _ => false) = true) (hi : (P.info? ty).map (·.size) = some cs.size) : (execOp a.eval o).run P w = .ok (.value (.agg cs)) w := by
  have hl := run_loadVar_row (P := P) w g ty ty cs (0, 0) d hS hu hd hi
  unfold execOp
  simp only [ho, hx, Instr.loadAt, Instr.sureAddr, Sem.run_bind, Sem.run_pure, Result.andThen_ok, hl]
theorem wpOp_lay (ho' : ops[i]? = some o) (hg : o.guard = none) (ty : TypeId) (x y : Operand) (ho : o.op = .store ty x y) (b : Nat) (c c' : Array Value)
    (hx : a.eval x = .pointer (some ⟨b, 0, none⟩)) (hy : a.eval y = .agg c') (hB : BoxAt w b c ty) (hi : (P.info? ty).map (·.size) = some c'.size) (hs : c.size = c'.size) (h1 : c'.all (·.oneCell') = true) (hdst : o.dst = none)
    (h : ∀ w', Relaid b c' ty w w' → K a w') : wpOp P ops Q i K a w := by
  have hst : (Instr.storeAt ty (.pointer (some ⟨b, 0, none⟩)) (.agg c')).run P w = .ok () (w.setRow b c') := by
    simp only [Instr.storeAt, Instr.sureAddr, Sem.run_bind, Sem.run_pure, Result.andThen]
    exact run_storeVar_row w b ty ty c c' hB hi hs h1
  have hp : a.put o.dst undef = a := by rw [hdst]; rfl
  unfold wpOp
  simp only [ho']
  rw [if_pos (wanted_plain hg _)]
  left
  unfold Oper.wp execOp
  simp only [ho, hx, hy, Sem.run_bind, hst, Result.andThen_ok, Sem.run_pure]
  show K (a.put o.dst undef) _
  rw [hp]
  exact h _ ⟨rfl, rfl, rfl, by simp, setRow_heap w b c c' ty _ hB, fun k hk => setRow_other w b k c' hk⟩
theorem ready_waits {md : Region.Mode} {l : Array Bool} {j k : Nat} (h : j ∈ Region.ready md ops l) (hw : Region.waitsFor md ops j k = true) : l.getD k false = true := by
  obtain ⟨oj, hoj, e, he, hb, hon⟩ := Region.waitsFor_spec hw
  obtain ⟨_, oj', hoj', hall⟩ := mem_ready.1 h
  obtain rfl := Option.some.inj (hoj.symm.trans hoj')
  have := hall e he hb
  rwa [hon] at this
/-- Each operation waits for earlier ones alone. -/
def lexAfter (md : Region.Mode) (ops : Array Oper) : Bool := (List.range ops.size).all fun j => (ops[j]?).all fun o => o.after.toList.all fun e => !Region.binds md e || decide (e.on < j)
theorem ready_done {md : Region.Mode} {l : Array Bool} (hL : lexAfter md ops = true) (hsz : l.size = ops.size) (hr : Region.ready md ops l = []) : ∀ j, j < ops.size → l.getD j false = true := by
  intro j
  induction j using Nat.strongRecOn with
  | _ j ih =>
    intro hj
    cases hl : l.getD j false with
    | true => rfl
    | false =>
      exfalso
      have h1 : j ∈ Region.ready md ops l := by
        refine mem_ready.2 ⟨getD_in (by rw [hsz]; exact hj) hl, ops[j], Array.getElem?_eq_getElem hj, fun e he hb => ?_⟩
        have h2 := List.all_eq_true.1 hL j (List.mem_range.2 hj)
        rw [Array.getElem?_eq_getElem hj] at h2
        have h3 := List.all_eq_true.1 (show (ops[j].after.toList.all fun e => !Region.binds md e || decide (e.on < j)) = true by simpa using h2) e (by simpa using he)
        rw [hb] at h3
        have h4 : e.on < j := by simpa using h3
        exact ih e.on h4 (by omega)
      rw [hr] at h1
      cases h1
end
end Go.Proofs.YtfklgaeejmeipaaGreatDoor

/- A region that draws its order, whose operations read, call and make memory: what each slot holds is told by a predicate that new memory does not disturb. No condition but what each says. -/
namespace Go.Proofs.YtfklgaeejmeipaaGreatDoor
open Go.RowKit

/-- What stands when so much has come up. -/
structure Slots (n : Nat) (t0 : Array Value) (d0 : List Deferred) (d : Nat → Tmp) (Pr : Nat → World → Value → Prop) (W0 : World) (l : Array Bool) (a : Act) (w : World) : Prop where
  lsize : l.size = n
  size : a.tmps.size = t0.size
  defers : a.defers = d0
  other : ∀ k, (∀ j, j < n → k ≠ d j) → a.tmps[k]? = t0[k]?
  val : ∀ j, j < n → l.getD j false = true → ∃ v, a.tmps[d j]? = some v ∧ Pr j w v
  fr : Fr W0 w
/-- The frame with these slots laid. -/
def laidS (t0 : Array Value) (d : Nat → Tmp) (f : Nat → Value) : Nat → Array Value
  | 0 => t0
  | n + 1 => (laidS t0 d f n).setIfInBounds (d n) (f n)
theorem laidS_size (t0 : Array Value) (d : Nat → Tmp) (f : Nat → Value) (n : Nat) : (laidS t0 d f n).size = t0.size := by
  induction n with
  | zero => rfl
  | succ n ih => simp [laidS, ih]
theorem laidS_other {t0 : Array Value} {d : Nat → Tmp} {f : Nat → Value} {n k : Nat} (h : ∀ j, j < n → k ≠ d j) : (laidS t0 d f n)[k]? = t0[k]? := by
  induction n with
  | zero => rfl
  | succ n ih =>
    unfold laidS
    rw [Array.getElem?_setIfInBounds_ne (Ne.symm (h n (by omega)))]
    exact ih fun j hj => h j (by omega)
theorem laidS_at {t0 : Array Value} {d : Nat → Tmp} {f : Nat → Value} {n j : Nat} (hj : j < n) (hd : ∀ i j, i < n → j < n → i ≠ j → d i ≠ d j) (hlt : ∀ j, j < n → d j < t0.size) : (laidS t0 d f n)[d j]? = some (f j) := by
  induction n with
  | zero => omega
  | succ n ih =>
    unfold laidS
    by_cases h : j = n
    · subst h
      exact Array.getElem?_setIfInBounds_self_of_lt (by rw [laidS_size]; exact hlt j (by omega))
    · rw [Array.getElem?_setIfInBounds_ne (hd n j (by omega) (by omega) (Ne.symm h))]
      exact ih (by omega) (fun a b ha hb => hd a b (by omega) (by omega)) fun j hj => hlt j (by omega)
section
variable {P : Program} {ops : Array Oper} {Q : Exit → Act → World → Prop} {n : Nat} {t0 : Array Value} {d0 : List Deferred} {d : Nat → Tmp} {Pr : Nat → World → Value → Prop} {W0 : World}
theorem wp_region_preds {id : Nat} (hm : P.follows .mixedOrders = true) (hsz : ops.size = n) (hL : lexAfter .any ops = true)
    (hd : ∀ i j, i < n → j < n → i ≠ j → d i ≠ d j) (hlt : ∀ j, j < n → d j < t0.size)
    (hst : ∀ j, j < n → ∀ w w' v, Fr w w' → Pr j w v → Pr j w' v)
    (hop : ∀ j, j < n → ∀ (K : Act → World → Prop) a w, Fr W0 w → (∀ i, i < n → Region.waitsFor .any ops j i = true → ∃ v, a.tmps[d i]? = some v ∧ Pr i w v) → (∀ k, (∀ j, j < n → k ≠ d j) → a.tmps[k]? = t0[k]?) →
      (∀ v w', Fr w w' → Pr j w' v → K (a.put (some (d j)) v) w') → wpOp P ops Q j K a w)
    (h : ∀ (f : Nat → Value) w, Fr W0 w → (∀ j, j < n → Pr j w (f j)) → Q .normal ⟨laidS t0 d f n, d0⟩ w) : (Code.region id ops true).wp P Q ⟨t0, d0⟩ W0 := by
  refine wp_region_inv hm (fun l a w => Slots n t0 d0 d Pr W0 l a w) ?_ ?_ ?_
  · exact ⟨by simp [hsz], rfl, rfl, fun _ _ => rfl, fun j _ hl => (by rw [getD_replicate_false] at hl; cases hl), (Fr.refl W0).drew⟩
  · intro l a w H hr
    have hall := ready_done (ops := ops) hL (by rw [H.lsize, hsz]) hr
    have hv : ∀ j, ∃ v, j < n → (a.tmps[d j]? = some v ∧ Pr j w v) := fun j => by
      by_cases hj : j < n
      · obtain ⟨v, hv⟩ := H.val j hj (hall j (by rw [hsz]; exact hj))
        exact ⟨v, fun _ => hv⟩
      · exact ⟨undef, fun h => absurd h hj⟩
    obtain ⟨f, hf⟩ := Classical.axiomOfChoice hv
    have ha : a = ⟨laidS t0 d f n, d0⟩ := by
      obtain ⟨tm, df⟩ := a
      have hdf : df = d0 := H.defers
      subst hdf
      congr 1
      apply Array.ext_getElem?
      intro k
      by_cases hk : ∃ j, j < n ∧ k = d j
      · obtain ⟨j, hj, rfl⟩ := hk
        rw [laidS_at hj hd hlt]
        exact (hf j hj).1
      · have hk2 : ∀ j, j < n → k ≠ d j := fun j hj e => hk ⟨j, hj, e⟩
        rw [laidS_other hk2]
        exact H.other k hk2
    rw [ha]
    exact h f w H.fr fun j hj => (hf j hj).2
  · intro l a w i H hr
    obtain ⟨hi, hun, _⟩ := ready_iff.1 hr
    rw [hsz] at hi
    refine hop i hi _ a w H.fr (fun k hk hw => H.val k hk (ready_waits hr hw)) H.other fun v w' hf hp => ?_
    refine ⟨by simp [H.lsize], by rw [put_size]; exact H.size, H.defers, fun k hk => ?_, fun j hj hl => ?_, H.fr.trans hf⟩
    · show ((a.tmps.setIfInBounds (d i) _))[k]? = _
      rw [Array.getElem?_setIfInBounds_ne (Ne.symm (hk i hi))]
      exact H.other k hk
    · show ∃ v', ((a.tmps.setIfInBounds (d i) v))[d j]? = some v' ∧ _
      by_cases hji : j = i
      · subst hji
        exact ⟨v, Array.getElem?_setIfInBounds_self_of_lt (by rw [H.size]; exact hlt j hj), hp⟩
      · rw [Array.getElem?_setIfInBounds_ne (hd i j hi hj (Ne.symm hji))]
        have hl' : l.getD j false = true := by
          rw [getD_set] at hl
          simpa [Ne.symm hji] using hl
        obtain ⟨v', h1, h2⟩ := H.val j hj hl'
        exact ⟨v', h1, hst j hj _ _ _ hf h2⟩
end
end Go.Proofs.YtfklgaeejmeipaaGreatDoor

/- A region that draws its order: a head whose slots are told by predicates that new memory does not disturb, then its last operations in their one order. No condition but what each says. -/
namespace Go.Proofs.YtfklgaeejmeipaaGreatDoor
open Go.RowKit

/-- What stands when so much of the head has come up. -/
structure SlotsT (m : Nat) (t0 : Array Value) (d0 : List Deferred) (d : Nat → Tmp) (Pr : Nat → World → Value → Prop) (W0 : World) (l : Array Bool) (a : Act) (w : World) : Prop where
  size : a.tmps.size = t0.size
  defers : a.defers = d0
  other : ∀ k, (∀ j, j < m → k ≠ d j) → a.tmps[k]? = t0[k]?
  val : ∀ j, j < m → l.getD j false = true → ∃ v, a.tmps[d j]? = some v ∧ Pr j w v
  fr : Fr W0 w
def headDone (m g : Nat) : Array Bool := (List.replicate m true ++ List.replicate g false).toArray
theorem still_headDone (m g : Nat) : still (headDone m g) = g := by
  unfold still headDone
  rw [List.filter_append, List.filter_replicate, List.filter_replicate]
  simp
section
variable {P : Program} {ops : Array Oper} {Q : Exit → Act → World → Prop} {m g : Nat} {t0 : Array Value} {d0 : List Deferred} {d : Nat → Tmp} {Pr : Nat → World → Value → Prop} {W0 : World}
theorem wp_region_preds_tail {id : Nat} (hm : P.follows .mixedOrders = true) (hsz : ops.size = m + g) (hg : 0 < g) (hL : lexAfter .any ops = true) (hs : Region.sinkB .any ops m = true) (hc : Region.chainB .any ops m = true) (hq : Region.seqB .any ops g m (headDone m g) = true)
    (hd : ∀ i j, i < m → j < m → i ≠ j → d i ≠ d j) (hlt : ∀ j, j < m → d j < t0.size)
    (hst : ∀ j, j < m → ∀ w w' v, Fr w w' → Pr j w v → Pr j w' v)
    (hop : ∀ j, j < m → ∀ (K : Act → World → Prop) a w, Fr W0 w → (∀ i, i < m → Region.waitsFor .any ops j i = true → ∃ v, a.tmps[d i]? = some v ∧ Pr i w v) → (∀ k, (∀ j, j < m → k ≠ d j) → a.tmps[k]? = t0[k]?) →
      (∀ v w', Fr w w' → Pr j w' v → K (a.put (some (d j)) v) w') → wpOp P ops Q j K a w)
    (h : ∀ (f : Nat → Value) w, Fr W0 w → (∀ j, j < m → Pr j w (f j)) → wpList P ops Q (ops.toList.drop m) ⟨laidS t0 d f m, d0⟩ w) : (Code.region id ops true).wp P Q ⟨t0, d0⟩ W0 := by
  have key : ∀ fuel l a w, still l = fuel → HeadInv .any ops m l → SlotsT m t0 d0 d Pr W0 l a w → wpAny P .any ops Q fuel l a w := by
    intro fuel
    induction fuel with
    | zero =>
      intro l a w hl inv H
      have h1 := still_zero hl m
      rw [inv.tail m (Nat.le_refl _) (by omega)] at h1
      cases h1
    | succ fuel ih =>
      intro l a w hl inv H
      by_cases hall : ∀ j, j < m → l.getD j true = true
      · have hlE : l = headDone m g := by
          apply Array.ext
          · rw [inv.size, hsz]; simp [headDone]
          · intro j h1 h2
            have h3 : j < m + g := by rw [inv.size, hsz] at h1; exact h1
            by_cases hj : j < m
            · have h4 := hall j hj
              rw [Array.getD_eq_getD_getElem?, Array.getElem?_eq_getElem h1] at h4
              have h4 : l[j] = true := h4
              rw [h4]
              simp [headDone, List.getElem_append, hj]
            · have h4 := inv.tail j (by omega) (by omega)
              rw [Array.getD_eq_getD_getElem?, Array.getElem?_eq_getElem h1] at h4
              have h4 : l[j] = false := h4
              rw [h4]
              simp [headDone, List.getElem_append, hj]
        have hgf : fuel + 1 = g := by rw [← hl, hlE, still_headDone]
        have hdl : (ops.toList.drop m).length = g := by rw [List.length_drop, Array.length_toList, hsz]; omega
        have hv : ∀ j, ∃ v, j < m → (a.tmps[d j]? = some v ∧ Pr j w v) := fun j => by
          by_cases hj : j < m
          · obtain ⟨v, hv⟩ := H.val j hj (by
              have h1 : j < l.size := by rw [inv.size, hsz]; omega
              have h4 := hall j hj
              rw [Array.getD_eq_getD_getElem?, Array.getElem?_eq_getElem h1] at h4 ⊢
              exact h4)
            exact ⟨v, fun _ => hv⟩
          · exact ⟨undef, fun h => absurd h hj⟩
        obtain ⟨f, hf⟩ := Classical.axiomOfChoice hv
        have ha : a = ⟨laidS t0 d f m, d0⟩ := by
          obtain ⟨tm, df⟩ := a
          have hdf : df = d0 := H.defers
          subst hdf
          congr 1
          apply Array.ext_getElem?
          intro k
          by_cases hk : ∃ j, j < m ∧ k = d j
          · obtain ⟨j, hj, rfl⟩ := hk
            rw [laidS_at hj hd hlt]
            exact (hf j hj).1
          · have hk2 : ∀ j, j < m → k ≠ d j := fun j hj e => hk ⟨j, hj, e⟩
            rw [laidS_other hk2]
            exact H.other k hk2
        have hw := h f w H.fr fun j hj => (hf j hj).2
        rw [← ha] at hw
        have := wpAny_of_seq (md := .any) (Q' := Q) (ops.toList.drop m) m l a w (fun j => by simp [List.getElem?_drop]) (by rw [hdl, hlE]; exact hq) hw
        rw [hdl, ← hgf] at this
        exact this
      · obtain ⟨j, hj, hun⟩ : ∃ j, j < m ∧ l.getD j true = false := by
          refine Classical.byContradiction fun hno => hall fun j hj => ?_
          cases hx : l.getD j true
          · exact absurd ⟨j, hj, hx⟩ hno
          · rfl
        refine ⟨fun hr => ?_, fun i hi => ?_⟩
        · have h1 := ready_done hL inv.size hr j (by omega)
          rw [getD_both hun] at h1
          cases h1
        · obtain ⟨hi1, hiu, _⟩ := ready_iff.1 hi
          have him : i < m := by
            rcases Nat.lt_or_ge i m with h1 | h1
            · exact h1
            · exact absurd hi (tail_waits hs hc (by omega) inv _ j rfl hj hun i h1)
          refine hop i him _ a w H.fr (fun k hk hw => H.val k hk (ready_waits hi hw)) H.other fun v w' hf hp => ?_
          refine ih _ _ _ (by have := still_set hiu; omega) (inv.set hi him) ⟨by rw [put_size]; exact H.size, H.defers, fun k hk => ?_, fun j hj hl => ?_, H.fr.trans hf⟩
          · show ((a.tmps.setIfInBounds (d i) _))[k]? = _
            rw [Array.getElem?_setIfInBounds_ne (Ne.symm (hk i him))]
            exact H.other k hk
          · show ∃ v', ((a.tmps.setIfInBounds (d i) v))[d j]? = some v' ∧ _
            by_cases hji : j = i
            · subst hji
              exact ⟨v, Array.getElem?_setIfInBounds_self_of_lt (by rw [H.size]; exact hlt j hj), hp⟩
            · rw [Array.getElem?_setIfInBounds_ne (hd i j him hj (Ne.symm hji))]
              have hl' : l.getD j false = true := by
                rw [getD_set] at hl
                simpa [Ne.symm hji] using hl
              obtain ⟨v', h1, h2⟩ := H.val j hj hl'
              exact ⟨v', h1, hst j hj _ _ _ hf h2⟩
  refine wp_region_any hm (key _ _ _ _ (by unfold still; simp) ⟨by simp, fun j oj _ hl => (by rw [getD_replicate_false] at hl; cases hl), fun t _ ht => getD_in (by simpa using ht) (getD_replicate_false _ _)⟩ ?_)
  exact ⟨rfl, rfl, fun _ _ => rfl, fun j _ hl => (by rw [getD_replicate_false] at hl; cases hl), (Fr.refl W0).drew⟩
/-- .. with what is deferred told. -/
theorem wp_region_preds_tailD {id : Nat} (hm : P.follows .mixedOrders = true) (hsz : ops.size = m + g) (hg : 0 < g) (hL : lexAfter .any ops = true) (hs : Region.sinkB .any ops m = true) (hc : Region.chainB .any ops m = true) (hq : Region.seqB .any ops g m (headDone m g) = true)
    (hd : ∀ i j, i < m → j < m → i ≠ j → d i ≠ d j) (hlt : ∀ j, j < m → d j < t0.size)
    (hst : ∀ j, j < m → ∀ w w' v, Fr w w' → Pr j w v → Pr j w' v)
    (hop : ∀ j, j < m → ∀ (K : Act → World → Prop) a w, a.defers = d0 → Fr W0 w → (∀ i, i < m → Region.waitsFor .any ops j i = true → ∃ v, a.tmps[d i]? = some v ∧ Pr i w v) → (∀ k, (∀ j, j < m → k ≠ d j) → a.tmps[k]? = t0[k]?) →
      (∀ v w', Fr w w' → Pr j w' v → K (a.put (some (d j)) v) w') → wpOp P ops Q j K a w)
    (h : ∀ (f : Nat → Value) w, Fr W0 w → (∀ j, j < m → Pr j w (f j)) → wpList P ops Q (ops.toList.drop m) ⟨laidS t0 d f m, d0⟩ w) : (Code.region id ops true).wp P Q ⟨t0, d0⟩ W0 := by
  have key : ∀ fuel l a w, still l = fuel → HeadInv .any ops m l → SlotsT m t0 d0 d Pr W0 l a w → wpAny P .any ops Q fuel l a w := by
    intro fuel
    induction fuel with
    | zero =>
      intro l a w hl inv H
      have h1 := still_zero hl m
      rw [inv.tail m (Nat.le_refl _) (by omega)] at h1
      cases h1
    | succ fuel ih =>
      intro l a w hl inv H
      by_cases hall : ∀ j, j < m → l.getD j true = true
      · have hlE : l = headDone m g := by
          apply Array.ext
          · rw [inv.size, hsz]; simp [headDone]
          · intro j h1 h2
            have h3 : j < m + g := by rw [inv.size, hsz] at h1; exact h1
            by_cases hj : j < m
            · have h4 := hall j hj
              rw [Array.getD_eq_getD_getElem?, Array.getElem?_eq_getElem h1] at h4
              have h4 : l[j] = true := h4
              rw [h4]
              simp [headDone, List.getElem_append, hj]
            · have h4 := inv.tail j (by omega) (by omega)
              rw [Array.getD_eq_getD_getElem?, Array.getElem?_eq_getElem h1] at h4
              have h4 : l[j] = false := h4
              rw [h4]
              simp [headDone, List.getElem_append, hj]
        have hgf : fuel + 1 = g := by rw [← hl, hlE, still_headDone]
        have hdl : (ops.toList.drop m).length = g := by rw [List.length_drop, Array.length_toList, hsz]; omega
        have hv : ∀ j, ∃ v, j < m → (a.tmps[d j]? = some v ∧ Pr j w v) := fun j => by
          by_cases hj : j < m
          · obtain ⟨v, hv⟩ := H.val j hj (by
              have h1 : j < l.size := by rw [inv.size, hsz]; omega
              have h4 := hall j hj
              rw [Array.getD_eq_getD_getElem?, Array.getElem?_eq_getElem h1] at h4 ⊢
              exact h4)
            exact ⟨v, fun _ => hv⟩
          · exact ⟨undef, fun h => absurd h hj⟩
        obtain ⟨f, hf⟩ := Classical.axiomOfChoice hv
        have ha : a = ⟨laidS t0 d f m, d0⟩ := by
          obtain ⟨tm, df⟩ := a
          have hdf : df = d0 := H.defers
          subst hdf
          congr 1
          apply Array.ext_getElem?
          intro k
          by_cases hk : ∃ j, j < m ∧ k = d j
          · obtain ⟨j, hj, rfl⟩ := hk
            rw [laidS_at hj hd hlt]
            exact (hf j hj).1
          · have hk2 : ∀ j, j < m → k ≠ d j := fun j hj e => hk ⟨j, hj, e⟩
            rw [laidS_other hk2]
            exact H.other k hk2
        have hw := h f w H.fr fun j hj => (hf j hj).2
        rw [← ha] at hw
        have := wpAny_of_seq (md := .any) (Q' := Q) (ops.toList.drop m) m l a w (fun j => by simp [List.getElem?_drop]) (by rw [hdl, hlE]; exact hq) hw
        rw [hdl, ← hgf] at this
        exact this
      · obtain ⟨j, hj, hun⟩ : ∃ j, j < m ∧ l.getD j true = false := by
          refine Classical.byContradiction fun hno => hall fun j hj => ?_
          cases hx : l.getD j true
          · exact absurd ⟨j, hj, hx⟩ hno
          · rfl
        refine ⟨fun hr => ?_, fun i hi => ?_⟩
        · have h1 := ready_done hL inv.size hr j (by omega)
          rw [getD_both hun] at h1
          cases h1
        · obtain ⟨hi1, hiu, _⟩ := ready_iff.1 hi
          have him : i < m := by
            rcases Nat.lt_or_ge i m with h1 | h1
            · exact h1
            · exact absurd hi (tail_waits hs hc (by omega) inv _ j rfl hj hun i h1)
          refine hop i him _ a w H.defers H.fr (fun k hk hw => H.val k hk (ready_waits hi hw)) H.other fun v w' hf hp => ?_
          refine ih _ _ _ (by have := still_set hiu; omega) (inv.set hi him) ⟨by rw [put_size]; exact H.size, H.defers, fun k hk => ?_, fun j hj hl => ?_, H.fr.trans hf⟩
          · show ((a.tmps.setIfInBounds (d i) _))[k]? = _
            rw [Array.getElem?_setIfInBounds_ne (Ne.symm (hk i him))]
            exact H.other k hk
          · show ∃ v', ((a.tmps.setIfInBounds (d i) v))[d j]? = some v' ∧ _
            by_cases hji : j = i
            · subst hji
              exact ⟨v, Array.getElem?_setIfInBounds_self_of_lt (by rw [H.size]; exact hlt j hj), hp⟩
            · rw [Array.getElem?_setIfInBounds_ne (hd i j him hj (Ne.symm hji))]
              have hl' : l.getD j false = true := by
                rw [getD_set] at hl
                simpa [Ne.symm hji] using hl
              obtain ⟨v', h1, h2⟩ := H.val j hj hl'
              exact ⟨v', h1, hst j hj _ _ _ hf h2⟩
  refine wp_region_any hm (key _ _ _ _ (by unfold still; simp) ⟨by simp, fun j oj _ hl => (by rw [getD_replicate_false] at hl; cases hl), fun t _ ht => getD_in (by simpa using ht) (getD_replicate_false _ _)⟩ ?_)
  exact ⟨rfl, rfl, fun _ _ => rfl, fun j _ hl => (by rw [getD_replicate_false] at hl; cases hl), (Fr.refl W0).drew⟩
end
section
variable {P : Program} {ops : Array Oper} {Q : Exit → Act → World → Prop} {K : Act → World → Prop} {i : Nat} {o : Oper} {a : Act} {w : World}
theorem wanted_someT {k : Nat} {b : Bool} {op : Oper} {d : Tmp} {tmps : Array Value} (hg : o.guard = some (k, b)) (hk : ops[k]? = some op) (hd : op.dst = some d) (ht : tmps[d]? = some (.bool b)) : Region.wanted o (yielded ops tmps) = true := by
  simp [Region.wanted, hg, yielded, hk, hd, ht]
theorem wanted_notT {k : Nat} {b : Bool} {op : Oper} {d : Tmp} {tmps : Array Value} (hg : o.guard = some (k, b)) (hk : ops[k]? = some op) (hd : op.dst = some d) (ht : tmps[d]? = some (.bool (!b))) : Region.wanted o (yielded ops tmps) = false := by
  cases b <;> simp [Region.wanted, hg, yielded, hk, hd, ht]
/-- An operation that is wanted: a value. -/
theorem wpOp_runT (ho : ops[i]? = some o) (hg : Region.wanted o (yielded ops a.tmps) = true) (v : Value) (w' : World) (hrun : (execOp a.eval o).run P w = .ok (.value v) w') (h : K (a.put o.dst v) w') : wpOp P ops Q i K a w := by
  unfold wpOp
  simp only [ho]
  rw [if_pos hg]
  left
  unfold Oper.wp
  rw [hrun]
  exact h
/-- An operation that is passed over. -/
theorem wpOp_skipT (ho : ops[i]? = some o) (hg : Region.wanted o (yielded ops a.tmps) = false) (h : K (a.put o.dst undef) w) : wpOp P ops Q i K a w := by
  unfold wpOp
  simp only [ho]
  rw [if_neg (by rw [hg]; simp)]
  exact h
/-- .. a call, which answers some value. -/
theorem wpOp_enterT (ho : ops[i]? = some o) (hg : Region.wanted o (yielded ops a.tmps) = true) (f : FuncId) (args : Array Value) (hrun : (execOp a.eval o).run P w = .ok (.enter f args) w)
    (h : Calls P f args w fun e w' => ∃ v, e = .returned v ∧ K (a.put o.dst v) w') : wpOp P ops Q i K a w := by
  unfold wpOp
  simp only [ho]
  rw [if_pos hg]
  left
  unfold Oper.wp
  rw [hrun, Oper.upon_enter]
  exact h.mono fun e w' ⟨v, he, hk⟩ => by subst he; exact hk
end
theorem evalOf {a : Act} {t : Tmp} {v : Value} (h : a.tmps[t]? = some v) : a.eval (.tmp t) = v := by simp [Act.eval, h]
/-- A slice literal, every place written. -/
theorem run_bs {P : Program} {o : Oper} {a : Act} {w : World} (t e : TypeId) (len : Nat) (parts : Array (Nat × Operand)) (ho : o.op = .buildSlice t len parts) (vs : List Value) (hev : (parts.map fun (i, x) => (i, a.eval x)).toList = (vs.zipIdx 0).map fun x => (x.2, x.1))
    (s : Nat) (hs : 0 < s) (hvs : ∀ v ∈ vs, v.cells.size = s) (hu : P.underlying t = some (.slice e)) (hi : (P.info? e).map (fun i => (i.zero.isSome, i.size)) = some (true, s)) (hlen : len = vs.length) (hpos : 0 < len) (hsm : len * s ≤ 2 ^ 24) :
    (execOp a.eval o).run P w = .ok (.value (.slice (some ⟨w.heap.size, 0, none⟩) len len)) (w.alloc (.cells (vs.flatMap fun v => v.cells.toList).toArray e)) := by
  cases hie : P.info? e with
  | none => simp [hie] at hi
  | some ie =>
    simp only [hie, Option.map_some, Option.some.injEq, Prod.mk.injEq] at hi
    obtain ⟨hz, hsz⟩ := hi
    obtain ⟨z, hzz⟩ := Option.isSome_iff_exists.1 hz
    have h0 : ¬ len * ie.size = 0 := by rw [hsz]; have := Nat.mul_pos hpos hs; omega
    have hr := run_buildSlice w t e len (parts.map fun (i, x) => (i, a.eval x)) (vs.flatMap fun v => v.cells.toList).toArray ie z hu hie hzz (by rw [hsz]; omega) h0 (by rw [hev]; exact Great.fill_whole (s := ie.size) (by rw [hsz]; exact hs) vs _ (by rw [hsz]; exact hvs) (by simp [hlen]))
    unfold execOp
    simp only [ho, Sem.run_bind, hr, Result.andThen_ok, Sem.run_pure]
end Go.Proofs.YtfklgaeejmeipaaGreatDoor

/- Operations of a drawn region that may be taken first: plain. No condition but what each says. -/
namespace Go.Proofs.YtfklgaeejmeipaaGreatDoor
open Go.RowKit

section
variable {P : Program} {ops : Array Oper} {S : World → Prop} {o : Oper} {a : Act} {w : World}
theorem yRun {v : Value} (hw : Region.wanted o (yielded ops a.tmps) = true) (h : ∀ W, S W → (execOp a.eval o).run P W = .ok (.value v) W) : YieldsIf P ops S o v a := .inl ⟨hw, h⟩
theorem ySkip {v : Value} (hw : Region.wanted o (yielded ops a.tmps) = false) (hv : v = undef) : YieldsIf P ops S o v a := .inr ⟨hw, hv⟩
theorem run_idx (t e : TypeId) (x y : Operand) (ho : o.op = .indexAddr t x y) (b off n c k s : Nat) (q : IntKind) (hx : a.eval x = .slice (some ⟨b, off, none⟩) n c) (hy : a.eval y = .int q k) (hu : P.underlying t = some (.slice e)) (hi : (P.info? e).map (·.size) = some s) (hk : k < n) :
    (execOp a.eval o).run P w = .ok (.value (.pointer (some ⟨b, off + k * s, none⟩))) w := by
  cases hq : P.info? e with
  | none => simp [hq] at hi
  | some ie =>
    have hs : ie.size = s := by simpa [hq] using hi
    have h1 : (0 : Int) ≤ (k : Int) ∧ (k : Int) < (n : Int) := by omega
    have h2 : (Instr.indexAt t (.slice (some ⟨b, off, none⟩) n c) (.int q k)).run P w = .ok (.pointer (some ⟨b, off + k * s, none⟩)) w := by
      simp [Instr.indexAt, run_underlying hu, asIntOf, h1, sizeOf, typeInfo, hq, hs, WideShapes.add_plain]
      intro hh; omega
    unfold execOp
    simp only [ho, hx, hy, Sem.run_bind, h2, Result.andThen_ok, Sem.run_pure]
theorem run_ld (ty : TypeId) (x : Operand) (ho : o.op = .load ty x) (g : Addr) (hx : a.eval x = .pointer (some g)) (v : Value) (hl : (Instr.loadAt ty (.pointer (some g))).run P w = .ok v w) : (execOp a.eval o).run P w = .ok (.value v) w := by
  unfold execOp
  simp only [ho, hx, Sem.run_bind, hl, Result.andThen_ok, Sem.run_pure]
theorem run_ld_mid (ty : TypeId) (x : Operand) (ho : o.op = .load ty x) (b off : Nat) (hx : a.eval x = .pointer (some ⟨b, off, none⟩)) (cs : List Value) (d : TypeDesc) (hc : w.rangeAt b off cs) (hu : P.underlying ty = some d) (hd : d.isRow = true) (hi : (P.info? ty).map (·.size) = some cs.length) :
    (execOp a.eval o).run P w = .ok (.value (.agg cs.toArray)) w := run_ld ty x ho _ hx _ (run_loadAt_mid w b off ty cs d hc hu hd hi)
/-- A call of a function with a Go body. -/
theorem run_call {f : FuncId} {fn : Func} {c : Code} (hf : P.funcs[f]? = some fn) (hname : (fn.name == "runtime.NumGoroutine") = false) (hb : fn.body = some c) (xs : Array Operand) (ts : Array TypeId) (ho : o.op = .call { callee := .value (.func f), args := xs, argTypes := ts }) (args : Array Value) (hx : xs.map a.eval = args) :
    (execOp a.eval o).run P w = .ok (.enter f args) w := by
  subst hx
  have h1 : fn.name ≠ "runtime.NumGoroutine" := by simpa using hname
  have h2 : ∀ args : Array Value, (callFunc f args).run P w = .ok (.enter f args) w := fun args => by simp [callFunc, hf, h1, hb]
  unfold execOp
  simp only [ho]
  simp [go_sem, resolve, invoke, Act.eval, h2]
end
/-- A struct in the midst of a row is read, guarded or not. -/
theorem wpList_load_midW {P : Program} {ops : Array Oper} {rest : List Oper} {o : Oper} {a : Act} {w : World} {Q : Exit → Act → World → Prop} (ty : TypeId) (x : Operand) (ho : o.op = .load ty x)
    (b off : Nat) (hx : a.eval x = .pointer (some ⟨b, off, none⟩)) (cs : List Value) (d : TypeDesc) (hc : w.rangeAt b off cs) (hu : P.underlying ty = some d) (hd : d.isRow = true) (hi : (P.info? ty).map (·.size) = some cs.length)
    (hw : Region.wanted o (yielded ops a.tmps) = true) (h : wpList P ops Q rest (a.put o.dst (.agg cs.toArray)) w) : wpList P ops Q (o :: rest) a w :=
  wpList_step fun K hK => by
    simp only [hw, if_true]
    exact wp_load_mid ty x ho b off hx cs d hc hu hd hi (hK _ _ h)
theorem wpOp_runD {P : Program} {ops : Array Oper} {Q : Exit → Act → World → Prop} {K : Act → World → Prop} {i : Nat} {o : Oper} {t : Array Value} {df : List Deferred} {w : World} (d : Tmp) (ho : ops[i]? = some o) (hg : o.guard = none) (hd : o.dst = some d) (v : Value) (w' : World) (hrun : (execOp (Act.eval ⟨t, df⟩) o).run P w = .ok (.value v) w') (h : K ⟨t.setIfInBounds d v, df⟩ w') : wpOp P ops Q i K ⟨t, df⟩ w :=
  wpOp_run ho hg v w' hrun (by rw [hd]; exact h)
theorem wpOp_enterD {P : Program} {ops : Array Oper} {Q : Exit → Act → World → Prop} {K : Act → World → Prop} {i : Nat} {o : Oper} {t : Array Value} {df : List Deferred} {w : World} (d : Tmp) (ho : ops[i]? = some o) (hg : o.guard = none) (hd : o.dst = some d) (f : FuncId) (args : Array Value) (hrun : (execOp (Act.eval ⟨t, df⟩) o).run P w = .ok (.enter f args) w) (v : Value)
    (h : Calls P f args w fun e w' => e = .returned v ∧ K ⟨t.setIfInBounds d v, df⟩ w') : wpOp P ops Q i K ⟨t, df⟩ w :=
  wpOp_enter ho hg f args hrun v (by rw [hd]; exact h)
theorem takeD {P : Program} {ops : Array Oper} {md : Region.Mode} {Q : Exit → Act → World → Prop} {S : World → Prop} (i : Nat) (dst : Tmp) {oi : Oper} {v : Value} {fuel : Nat} {listed : Array Bool} {t : Array Value} {df : List Deferred} {w : World} (hi : ops[i]? = some oi) (hd : oi.dst = some dst)
    (hs : Region.noSelect ops = true) (hf : Region.free md ops listed i = true) (hr : (Region.ready md ops listed).contains i = true)
    (hQ : ∀ c a w, Q (.panic c) (a.put oi.dst v) w → Q (.panic c) a w) (hy : YieldsIf P ops S oi v ⟨t, df⟩) (hS : S w)
    (h : wpAnyH P md ops Q S fuel (listed.setIfInBounds i true) ⟨t.setIfInBounds dst v, df⟩ w) : wpAnyH P md ops Q S (fuel + 1) listed ⟨t, df⟩ w :=
  wpAnyH_take hi hs hf hr hQ hy hS (by rw [hd]; exact h)
end Go.Proofs.YtfklgaeejmeipaaGreatDoor

/- A region that draws its order, whose operations read and whose callees only make memory: walked once. No condition but what each says. -/
namespace Go.Proofs.YtfklgaeejmeipaaGreatDoor
open Go.RowKit

/-- The worlds in which all that stood in 'w0' stands. -/
structure FrW (w0 : World) where
  val : World
  fr : Fr w0 val
instance (w0 : World) : Nonempty (FrW w0) := ⟨⟨w0, Fr.refl w0⟩⟩
theorem wp_region_fr {P : Program} {id : Nat} {Q : Exit → Act → World → Prop} {a : Act} {w : World} {l : List Oper} (hm : P.follows .mixedOrders = true) (hB : Region.lexB .any l.toArray = true)
    (h : wpQuiet P l.toArray (fun w' => ∃ z : FrW w, w' = z.val) (fun a' => ∀ w', (∃ z : FrW w, w' = z.val) → Q .normal a' w') l a) : (Code.region id l.toArray true).wp P Q a w :=
  wp_region_quiet (C := fun w' => ∃ z : FrW w, w' = z.val) hm hB ⟨⟨w.drew, (Fr.refl w).drew⟩, rfl⟩ (by simpa using h)
/-- A callee that only makes memory. -/
theorem frq {P : Program} {f : FuncId} {args : Array Value} {w0 : World} {z : FrW w0} {v : Value} (h : Calls P f args z.val fun e w' => e = .returned v ∧ Fr z.val w') :
    Calls P f args z.val fun e w'' => e = .returned v ∧ ∃ z' : FrW w0, w'' = z'.val :=
  h.mono fun _ w' ⟨he, hf⟩ => ⟨he, ⟨w', z.fr.trans hf⟩, rfl⟩
theorem frq' {P : Program} {f : FuncId} {args : Array Value} {w0 : World} {z : FrW w0} {v : Value} (h : Calls P f args z.val fun e w' => e = .returned v ∧ z.val = w') :
    Calls P f args z.val fun e w'' => e = .returned v ∧ ∃ z' : FrW w0, w'' = z'.val :=
  h.mono fun _ w' ⟨he, hf⟩ => ⟨he, z, hf.symm⟩
theorem FrW.cell {w0 : World} {p : Addr} {v : Value} (h : w0.cell? p = some v) (z : FrW w0) : z.val.cell? p = some v := z.fr.keep h
end Go.Proofs.YtfklgaeejmeipaaGreatDoor
