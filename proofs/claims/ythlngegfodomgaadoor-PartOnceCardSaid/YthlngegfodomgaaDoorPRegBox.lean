/- Several structs made at once, in whatever order: 'a, b, c = f(), g(), h' where a, b, c are boxes. No condition but what each says. -/
import Derived.Test.YthlngegfodomgaaDoorPBase
import Derived.StillTail
import Derived.OrdersHeld
import Derived.Deep.MidRow
set_option linter.all false
set_option linter.unusedVariables false
set_option linter.unusedSimpArgs false
set_option linter.unnecessarySimpa false
/- Several structs made at once, in whatever order: 'a, b, c = f(), g(), h' where a, b, c are boxes. No condition but what each says. -/
namespace Go.Proofs.YthlngegfodomgaaDoor
open Go.RowKit

theorem getD_set {l : Array Bool} {i j : Nat} : (l.setIfInBounds i true).getD j false = (l.getD j false || (decide (i = j) && decide (j < l.size))) := by
  simp only [Array.getD_eq_getD_getElem?, Array.getElem?_setIfInBounds]
  by_cases h : i = j
  · subst h
    by_cases h2 : i < l.size
    · simp [h2]
    · simp [h2]
  · simp [h]
theorem put_size (a : Act) (d : Option Tmp) (v : Value) : (a.put d v).tmps.size = a.tmps.size := by
  cases d <;> simp [Act.put]
/-- The frame with these slots laid. -/
def laidT (t0 : Array Value) (e p : Nat → Tmp) (v : Nat → Array Value) (b : Nat → Nat) : Nat → Array Value
  | 0 => t0
  | k + 1 => ((laidT t0 e p v b k).setIfInBounds (e k) (.agg (v k))).setIfInBounds (p k) (.pointer (some ⟨b k, 0, none⟩))
section
variable {t0 : Array Value} {e p : Nat → Tmp} {v : Nat → Array Value} {b : Nat → Nat}
theorem laidT_size (n : Nat) : (laidT t0 e p v b n).size = t0.size := by
  induction n with
  | zero => rfl
  | succ k ih => simp [laidT, ih]
theorem laidT_other {n j : Nat} (h : ∀ k, k < n → j ≠ e k ∧ j ≠ p k) : (laidT t0 e p v b n)[j]? = t0[j]? := by
  induction n with
  | zero => rfl
  | succ k ih =>
    have h1 := h k (by omega)
    unfold laidT
    rw [Array.getElem?_setIfInBounds_ne (Ne.symm h1.2), Array.getElem?_setIfInBounds_ne (Ne.symm h1.1)]
    exact ih fun q hq => h q (by omega)
theorem laidT_at {n k : Nat} (hk : k < n) (hE : ∀ i j, i < n → j < n → i ≠ j → e i ≠ e j) (hP : ∀ i j, i < n → j < n → i ≠ j → p i ≠ p j) (hEP : ∀ i j, i < n → j < n → e i ≠ p j) (he : ∀ i, i < n → e i < t0.size ∧ p i < t0.size) :
    (laidT t0 e p v b n)[e k]? = some (.agg (v k)) ∧ (laidT t0 e p v b n)[p k]? = some (.pointer (some ⟨b k, 0, none⟩)) := by
  induction n with
  | zero => omega
  | succ m ih =>
    unfold laidT
    by_cases hkm : k = m
    · subst hkm
      refine ⟨?_, ?_⟩
      · rw [Array.getElem?_setIfInBounds_ne (Ne.symm (hEP k k hk hk)), Array.getElem?_setIfInBounds_self_of_lt (by rw [laidT_size]; exact (he k hk).1)]
      · rw [Array.getElem?_setIfInBounds_self_of_lt (by rw [Array.size_setIfInBounds, laidT_size]; exact (he k hk).2)]
    · obtain ⟨h1, h2⟩ := ih (by omega) (fun i j hi hj => hE i j (by omega) (by omega)) (fun i j hi hj => hP i j (by omega) (by omega)) (fun i j hi hj => hEP i j (by omega) (by omega)) (fun i hi => he i (by omega))
      refine ⟨?_, ?_⟩
      · rw [Array.getElem?_setIfInBounds_ne (Ne.symm (hEP k m hk (by omega))), Array.getElem?_setIfInBounds_ne (Ne.symm (hE k m hk (by omega) hkm))]
        exact h1
      · rw [Array.getElem?_setIfInBounds_ne (Ne.symm (hP k m hk (by omega) hkm)), Array.getElem?_setIfInBounds_ne (hEP m k (by omega) hk)]
        exact h2
end
/-- What stands when so much has come up: values, boxes, what they hold. -/
structure Boxes (n : Nat) (t0 : Array Value) (d0 : List Deferred) (e p : Nat → Tmp) (v : Nat → Array Value) (Z : Array Value) (T : TypeId) (W0 : World) (b : Nat → Nat) (l : Array Bool) (a : Act) (w : World) : Prop where
  lsize : l.size = 3 * n
  closed : ∀ k, k < n → l.getD (2 * n + k) false = true → l.getD k false = true ∧ l.getD (n + k) false = true
  size : a.tmps.size = t0.size
  defers : a.defers = d0
  other : ∀ j, (∀ k, k < n → j ≠ e k ∧ j ≠ p k) → a.tmps[j]? = t0[j]?
  val : ∀ k, k < n → l.getD k false = true → a.tmps[e k]? = some (.agg (v k))
  ptr : ∀ k, k < n → l.getD (n + k) false = true → a.tmps[p k]? = some (.pointer (some ⟨b k, 0, none⟩))
  fr : Fr W0 w
  box : ∀ k, k < n → l.getD (n + k) false = true → BoxAt w (b k) (if l.getD (2 * n + k) false then v k else Z) T ∧ W0.heap.size ≤ b k
  inj : ∀ i j, i < n → j < n → i ≠ j → l.getD (n + i) false = true → l.getD (n + j) false = true → b i ≠ b j
section
variable {P : Program} {ops : Array Oper} {Q : Exit → Act → World → Prop} {n : Nat} {t0 : Array Value} {d0 : List Deferred} {e p : Nat → Tmp} {v : Nat → Array Value} {Z : Array Value} {T : TypeId} {W0 : World}
theorem wp_region_boxes {id : Nat} (hm : P.follows .mixedOrders = true) (hsz : ops.size = 3 * n)
    (hE : ∀ i j, i < n → j < n → i ≠ j → e i ≠ e j) (hP : ∀ i j, i < n → j < n → i ≠ j → p i ≠ p j) (hEP : ∀ i j, i < n → j < n → e i ≠ p j) (hlt : ∀ i, i < n → e i < t0.size ∧ p i < t0.size)
    (hev : ∀ k, k < n → ∀ (K : Act → World → Prop) a w, Fr W0 w → (∀ w', Fr w w' → K (a.put (some (e k)) (.agg (v k))) w') → (∀ j, (∀ k, k < n → j ≠ e k ∧ j ≠ p k) → a.tmps[j]? = t0[j]?) → wpOp P ops Q k K a w)
    (hal : ∀ k, k < n → ∀ (K : Act → World → Prop) a w, K (a.put (some (p k)) (.pointer (some ⟨w.heap.size, 0, none⟩))) (w.alloc (.cells Z T)) → wpOp P ops Q (n + k) K a w)
    (hst : ∀ k, k < n → ∀ (K : Act → World → Prop) a w b, a.tmps[p k]? = some (.pointer (some ⟨b, 0, none⟩)) → a.tmps[e k]? = some (.agg (v k)) → BoxAt w b Z T → (∀ w', Relaid b (v k) T w w' → K a w') → wpOp P ops Q (2 * n + k) K a w)
    (hw : ∀ k, k < n → ∀ l, 2 * n + k ∈ Region.ready .any ops l → l.getD k false = true ∧ l.getD (n + k) false = true)
    (hfull : ∀ l, l.size = 3 * n → Region.ready .any ops l = [] → ∀ i, i < 3 * n → l.getD i false = true)
    (h : ∀ b w, Fr W0 w → (∀ k, k < n → BoxAt w (b k) (v k) T ∧ W0.heap.size ≤ b k) → (∀ i j, i < n → j < n → i ≠ j → b i ≠ b j) → Q .normal ⟨laidT t0 e p v b n, d0⟩ w) :
    (Code.region id ops true).wp P Q ⟨t0, d0⟩ W0 := by
  refine wp_region_inv hm (fun l a w => ∃ b, Boxes n t0 d0 e p v Z T W0 b l a w) ?_ ?_ ?_
  · refine ⟨fun _ => 0, { lsize := by simp [hsz], closed := fun k _ hl => ?_, size := rfl, defers := rfl, other := fun _ _ => rfl, val := fun k _ hl => ?_, ptr := fun k _ hl => ?_, fr := (Fr.refl W0).drew, box := fun k _ hl => ?_, inj := fun i j _ _ _ hl => ?_ }⟩
    all_goals (rw [getD_replicate_false] at hl; cases hl)
  · rintro l a w ⟨b, H⟩ hr
    have hf := hfull l H.lsize hr
    have ha : a = ⟨laidT t0 e p v b n, d0⟩ := by
      obtain ⟨tm, df⟩ := a
      have hd : df = d0 := H.defers
      subst hd
      congr 1
      apply Array.ext_getElem?
      intro j
      by_cases hj : ∃ k, k < n ∧ (j = e k ∨ j = p k)
      · obtain ⟨k, hk, hj⟩ := hj
        have hL := laidT_at (v := v) (b := b) hk hE hP hEP hlt
        rcases hj with rfl | rfl
        · rw [hL.1]; exact H.val k hk (hf k (by omega))
        · rw [hL.2]; exact H.ptr k hk (hf (n + k) (by omega))
      · have hj2 : ∀ k, k < n → j ≠ e k ∧ j ≠ p k := fun k hk => ⟨fun e => hj ⟨k, hk, .inl e⟩, fun e => hj ⟨k, hk, .inr e⟩⟩
        rw [laidT_other hj2]
        exact H.other j hj2
    rw [ha]
    refine h b w H.fr (fun k hk => ?_) (fun i j hi hj hne => H.inj i j hi hj hne (hf _ (by omega)) (hf _ (by omega)))
    have := H.box k hk (hf _ (by omega))
    rw [hf (2 * n + k) (by omega)] at this
    exact this
  · rintro l a w i ⟨b, H⟩ hr
    obtain ⟨hi, hun, _⟩ := ready_iff.1 hr
    rw [hsz] at hi
    have hil : i < l.size := by rw [H.lsize]; exact hi
    have hunf : l.getD i false = false := getD_both hun
    have hG : ∀ j, (l.setIfInBounds i true).getD j false = (l.getD j false || decide (i = j)) := fun j => by
      rw [getD_set]
      by_cases hj : i = j
      · subst hj; simp [hil]
      · simp [hj]
    by_cases h1 : i < n
    · -- a value
      refine hev i h1 _ a w H.fr (fun w' hf => ⟨b, ?_⟩) H.other
      refine { lsize := by simp [H.lsize], closed := fun k hk hl => ?_, size := by rw [put_size]; exact H.size, defers := H.defers, other := fun j hj => ?_, val := fun k hk hl => ?_, ptr := fun k hk hl => ?_, fr := H.fr.trans hf, box := fun k hk hl => ?_, inj := fun x y hx hy hne hl1 hl2 => ?_ }
      · rw [hG] at hl
        have hl' : l.getD (2 * n + k) false = true := by simpa [show i ≠ 2 * n + k by omega] using hl
        rw [hG, hG]
        have := H.closed k hk hl'
        rw [this.1, this.2]
        exact ⟨rfl, rfl⟩
      · have := (hj i h1).1
        show ((a.tmps.setIfInBounds (e i) _))[j]? = _
        rw [Array.getElem?_setIfInBounds_ne (Ne.symm this)]
        exact H.other j hj
      · show ((a.tmps.setIfInBounds (e i) _))[e k]? = _
        by_cases hk2 : k = i
        · subst hk2
          exact Array.getElem?_setIfInBounds_self_of_lt (by rw [H.size]; exact (hlt k hk).1)
        · rw [Array.getElem?_setIfInBounds_ne (hE i k h1 hk (Ne.symm hk2))]
          refine H.val k hk ?_
          rw [hG] at hl
          simpa [Ne.symm hk2] using hl
      · show ((a.tmps.setIfInBounds (e i) _))[p k]? = _
        rw [Array.getElem?_setIfInBounds_ne (hEP i k h1 hk)]
        refine H.ptr k hk ?_
        rw [hG] at hl
        simpa [show i ≠ n + k by omega] using hl
      · rw [hG] at hl
        have hl' : l.getD (n + k) false = true := by simpa [show i ≠ n + k by omega] using hl
        have := H.box k hk hl'
        rw [hG, show decide (i = 2 * n + k) = false by simp; omega, Bool.or_false]
        exact ⟨this.1.fr hf, this.2⟩
      · rw [hG] at hl1 hl2
        exact H.inj x y hx hy hne (by simpa [show i ≠ n + x by omega] using hl1) (by simpa [show i ≠ n + y by omega] using hl2)
    · by_cases h2 : i < 2 * n
      · -- a box
        obtain ⟨q, rfl⟩ : ∃ q, i = n + q := ⟨i - n, by omega⟩
        have hq : q < n := by omega
        refine hal q hq _ a w ⟨fun k => if k = q then w.heap.size else b k, ?_⟩
        have hns : l.getD (2 * n + q) false = false := by
          cases hs : l.getD (2 * n + q) false with
          | false => rfl
          | true => have := (H.closed q hq hs).2; rw [hunf] at this; cases this
        have hold : ∀ k, k ≠ q → (l.setIfInBounds (n + q) true).getD (n + k) false = true → l.getD (n + k) false = true := fun k hk hl => by
          rw [hG, show decide (n + q = n + k) = false by simp; omega, Bool.or_false] at hl
          exact hl
        refine { lsize := by simp [H.lsize], closed := fun k hk hl => ?_, size := by rw [put_size]; exact H.size, defers := H.defers, other := fun j hj => ?_, val := fun k hk hl => ?_, ptr := fun k hk hl => ?_, fr := H.fr.alloc _, box := fun k hk hl => ?_, inj := fun x y hx hy hne hl1 hl2 => ?_ }
        · rw [hG] at hl
          have hl' : l.getD (2 * n + k) false = true := by simpa [show n + q ≠ 2 * n + k by omega] using hl
          rw [hG, hG]
          have := H.closed k hk hl'
          rw [this.1, this.2]
          exact ⟨rfl, rfl⟩
        · have := (hj q hq).2
          show ((a.tmps.setIfInBounds (p q) _))[j]? = _
          rw [Array.getElem?_setIfInBounds_ne (Ne.symm this)]
          exact H.other j hj
        · show ((a.tmps.setIfInBounds (p q) _))[e k]? = _
          rw [Array.getElem?_setIfInBounds_ne (Ne.symm (hEP k q hk hq))]
          refine H.val k hk ?_
          rw [hG] at hl
          simpa [show n + q ≠ k by omega] using hl
        · show ((a.tmps.setIfInBounds (p q) _))[p k]? = _
          by_cases hk2 : k = q
          · subst hk2
            rw [if_pos rfl]
            exact Array.getElem?_setIfInBounds_self_of_lt (by rw [H.size]; exact (hlt k hk).2)
          · rw [Array.getElem?_setIfInBounds_ne (hP q k hq hk (Ne.symm hk2)), if_neg hk2]
            exact H.ptr k hk (hold k hk2 hl)
        · rw [hG, show decide (n + q = 2 * n + k) = false by simp; omega, Bool.or_false]
          by_cases hk2 : k = q
          · subst hk2
            rw [if_pos rfl, hns]
            exact ⟨BoxAt.new w Z T, H.fr.size⟩
          · rw [if_neg hk2]
            have := H.box k hk (hold k hk2 hl)
            exact ⟨this.1.alloc _, this.2⟩
        · by_cases hx2 : x = q
          · subst hx2
            have hy2 : y ≠ x := Ne.symm hne
            rw [if_pos rfl, if_neg hy2]
            have := (H.box y hy (hold y hy2 hl2)).1.lt
            omega
          · rw [if_neg hx2]
            have h4 := hold x hx2 hl1
            by_cases hy2 : y = q
            · subst hy2
              rw [if_pos rfl]
              have := (H.box x hx h4).1.lt
              omega
            · rw [if_neg hy2]
              exact H.inj x y hx hy hne h4 (hold y hy2 hl2)
      · -- a store
        obtain ⟨q, rfl⟩ : ∃ q, i = 2 * n + q := ⟨i - 2 * n, by omega⟩
        have hq : q < n := by omega
        obtain ⟨w1, w2⟩ := hw q hq l hr
        have hbq := H.box q hq w2
        rw [hunf] at hbq
        refine hst q hq _ a w (b q) (H.ptr q hq w2) (H.val q hq w1) hbq.1 (fun w' hR => ⟨b, ?_⟩)
        have hold : ∀ k, k < n → (l.setIfInBounds (2 * n + q) true).getD k false = l.getD k false := fun k hk => by rw [hG, show decide (2 * n + q = k) = false by simp; omega, Bool.or_false]
        have hold2 : ∀ k, k < n → (l.setIfInBounds (2 * n + q) true).getD (n + k) false = l.getD (n + k) false := fun k hk => by rw [hG, show decide (2 * n + q = n + k) = false by simp; omega, Bool.or_false]
        refine { lsize := by simp [H.lsize], closed := fun k hk hl => ?_, size := H.size, defers := H.defers, other := H.other, val := fun k hk hl => ?_, ptr := fun k hk hl => ?_, fr := hR.fr H.fr hbq.2, box := fun k hk hl => ?_, inj := fun x y hx hy hne hl1 hl2 => ?_ }
        · rw [hold k hk, hold2 k hk]
          by_cases hk2 : k = q
          · subst hk2; exact ⟨w1, w2⟩
          · refine H.closed k hk ?_
            rw [hG, show decide (2 * n + q = 2 * n + k) = false by simp; omega, Bool.or_false] at hl
            exact hl
        · rw [hold k hk] at hl; exact H.val k hk hl
        · rw [hold2 k hk] at hl; exact H.ptr k hk hl
        · rw [hold2 k hk] at hl
          have hb := H.box k hk hl
          by_cases hk2 : k = q
          · subst hk2
            rw [hG, decide_eq_true rfl, Bool.or_true]
            exact ⟨hR.box, hb.2⟩
          · rw [hG, show decide (2 * n + q = 2 * n + k) = false by simp; omega, Bool.or_false]
            exact ⟨hR.boxOther hb.1 (H.inj k q hk hq hk2 hl w2), hb.2⟩
        · rw [hold2 x hx] at hl1
          rw [hold2 y hy] at hl2
          exact H.inj x y hx hy hne hl1 hl2
end
end Go.Proofs.YthlngegfodomgaaDoor

/- One operation of a drawn region: a value, a call, a new box, a box laid; a region that has wholly come up. No condition but what each says. -/
namespace Go.Proofs.YthlngegfodomgaaDoor
open Go.RowKit

section
variable {P : Program} {ops : Array Oper} {Q : Exit → Act → World → Prop} {K : Act → World → Prop} {i : Nat} {o : Oper} {a : Act} {w : World}
theorem wanted_plain (hg : o.guard = none) (y : Array Value) : Region.wanted o (yielded ops y) = true := by simp [Region.wanted, hg]
theorem wpOp_run (ho : ops[i]? = some o) (hg : o.guard = none) (v : Value) (w' : World) (hrun : (execOp a.eval o).run P w = .ok (.value v) w') (h : K (a.put o.dst v) w') : wpOp P ops Q i K a w := by
  unfold wpOp
  simp only [ho]
  rw [if_pos (wanted_plain hg _)]
  left
  unfold Oper.wp
  rw [hrun]
  exact h
theorem wpOp_enter (ho : ops[i]? = some o) (hg : o.guard = none) (f : FuncId) (args : Array Value) (hrun : (execOp a.eval o).run P w = .ok (.enter f args) w) (v : Value)
    (h : Calls P f args w fun e w' => e = .returned v ∧ K (a.put o.dst v) w') : wpOp P ops Q i K a w := by
  unfold wpOp
  simp only [ho]
  rw [if_pos (wanted_plain hg _)]
  left
  unfold Oper.wp
  rw [hrun, Oper.upon_enter]
  exact h.mono fun e w' ⟨he, hk⟩ => by subst he; exact hk
theorem run_load_box (ty : TypeId) (x : Operand) (ho : o.op = .load ty x) (g : Nat) (hx : a.eval x = .pointer (some ⟨g, 0, none⟩)) (cs : Array Value) (hS : BoxAt w g cs ty) (d : TypeDesc)
    (hu : P.underlying ty = some d) (hd : (match d with | .struct _ | .array _ _ => true | _ => false) = true) (hi : (P.info? ty).map (·.size) = some cs.size) : (execOp a.eval o).run P w = .ok (.value (.agg cs)) w := by
  have hl := run_loadVar_row (P := P) w g ty ty cs (0, 0) d hS hu hd hi
  unfold execOp
  simp only [ho, hx, Instr.loadAt, Instr.sureAddr, Sem.run_bind, Sem.run_pure, Result.andThen_ok, hl]
theorem wpOp_lay (ho' : ops[i]? = some o) (hg : o.guard = none) (ty : TypeId) (x y : Operand) (ho : o.op = .store ty x y) (b : Nat) (c c' : Array Value)
    (hx : a.eval x = .pointer (some ⟨b, 0, none⟩)) (hy : a.eval y = .agg c') (hB : BoxAt w b c ty) (hi : (P.info? ty).map (·.size) = some c'.size) (hs : c.size = c'.size) (h1 : c'.all (·.oneCell') = true) (hdst : o.dst = none)
    (h : ∀ w', Relaid b c' ty w w' → K a w') : wpOp P ops Q i K a w := by
  have hst : (Instr.storeAt ty (.pointer (some ⟨b, 0, none⟩)) (.agg c')).run P w = .ok () (w.setRow b c') := by
    simp only [Instr.storeAt, Instr.sureAddr, Sem.run_bind, Sem.run_pure, Result.andThen]
    exact run_storeVar_row w b ty ty c c' hB hi hs h1
  have hp : a.put o.dst undef = a := by rw [hdst]; rfl
  unfold wpOp
  simp only [ho']
  rw [if_pos (wanted_plain hg _)]
  left
  unfold Oper.wp execOp
  simp only [ho, hx, hy, Sem.run_bind, hst, Result.andThen_ok, Sem.run_pure]
  show K (a.put o.dst undef) _
  rw [hp]
  exact h _ ⟨rfl, rfl, rfl, by simp, setRow_heap w b c c' ty _ hB, fun k hk => setRow_other w b k c' hk⟩
theorem ready_waits {md : Region.Mode} {l : Array Bool} {j k : Nat} (h : j ∈ Region.ready md ops l) (hw : Region.waitsFor md ops j k = true) : l.getD k false = true := by
  obtain ⟨oj, hoj, e, he, hb, hon⟩ := Region.waitsFor_spec hw
  obtain ⟨_, oj', hoj', hall⟩ := mem_ready.1 h
  obtain rfl := Option.some.inj (hoj.symm.trans hoj')
  have := hall e he hb
  rwa [hon] at this
/-- Each operation waits for earlier ones alone. -/
def lexAfter (md : Region.Mode) (ops : Array Oper) : Bool := (List.range ops.size).all fun j => (ops[j]?).all fun o => o.after.toList.all fun e => !Region.binds md e || decide (e.on < j)
theorem ready_done {md : Region.Mode} {l : Array Bool} (hL : lexAfter md ops = true) (hsz : l.size = ops.size) (hr : Region.ready md ops l = []) : ∀ j, j < ops.size → l.getD j false = true := by
  intro j
  induction j using Nat.strongRecOn with
  | _ j ih =>
    intro hj
    cases hl : l.getD j false with
    | true => rfl
    | false =>
      exfalso
      have h1 : j ∈ Region.ready md ops l := by
        refine mem_ready.2 ⟨getD_in (by rw [hsz]; exact hj) hl, ops[j], Array.getElem?_eq_getElem hj, fun e he hb => ?_⟩
        have h2 := List.all_eq_true.1 hL j (List.mem_range.2 hj)
        rw [Array.getElem?_eq_getElem hj] at h2
        have h3 := List.all_eq_true.1 (show (ops[j].after.toList.all fun e => !Region.binds md e || decide (e.on < j)) = true by simpa using h2) e (by simpa using he)
        rw [hb] at h3
        have h4 : e.on < j := by simpa using h3
        exact ih e.on h4 (by omega)
      rw [hr] at h1
      cases h1
end
end Go.Proofs.YthlngegfodomgaaDoor

/- Operations of a drawn region that may be taken first: plain. No condition but what each says. -/
namespace Go.Proofs.YthlngegfodomgaaDoor
open Go.RowKit

section
variable {P : Program} {ops : Array Oper} {S : World → Prop} {o : Oper} {a : Act} {w : World}
theorem yRun {v : Value} (hw : Region.wanted o (yielded ops a.tmps) = true) (h : ∀ W, S W → (execOp a.eval o).run P W = .ok (.value v) W) : YieldsIf P ops S o v a := .inl ⟨hw, h⟩
theorem ySkip {v : Value} (hw : Region.wanted o (yielded ops a.tmps) = false) (hv : v = undef) : YieldsIf P ops S o v a := .inr ⟨hw, hv⟩
theorem run_idx (t e : TypeId) (x y : Operand) (ho : o.op = .indexAddr t x y) (b off n c k s : Nat) (q : IntKind) (hx : a.eval x = .slice (some ⟨b, off, none⟩) n c) (hy : a.eval y = .int q k) (hu : P.underlying t = some (.slice e)) (hi : (P.info? e).map (·.size) = some s) (hk : k < n) :
    (execOp a.eval o).run P w = .ok (.value (.pointer (some ⟨b, off + k * s, none⟩))) w := by
  cases hq : P.info? e with
  | none => simp [hq] at hi
  | some ie =>
    have hs : ie.size = s := by simpa [hq] using hi
    have h1 : (0 : Int) ≤ (k : Int) ∧ (k : Int) < (n : Int) := by omega
    have h2 : (Instr.indexAt t (.slice (some ⟨b, off, none⟩) n c) (.int q k)).run P w = .ok (.pointer (some ⟨b, off + k * s, none⟩)) w := by
      simp [Instr.indexAt, run_underlying hu, asIntOf, h1, sizeOf, typeInfo, hq, hs, WideShapes.add_plain]
      intro hh; omega
    unfold execOp
    simp only [ho, hx, hy, Sem.run_bind, h2, Result.andThen_ok, Sem.run_pure]
theorem run_ld (ty : TypeId) (x : Operand) (ho : o.op = .load ty x) (g : Addr) (hx : a.eval x = .pointer (some g)) (v : Value) (hl : (Instr.loadAt ty (.pointer (some g))).run P w = .ok v w) : (execOp a.eval o).run P w = .ok (.value v) w := by
  unfold execOp
  simp only [ho, hx, Sem.run_bind, hl, Result.andThen_ok, Sem.run_pure]
theorem run_ld_mid (ty : TypeId) (x : Operand) (ho : o.op = .load ty x) (b off : Nat) (hx : a.eval x = .pointer (some ⟨b, off, none⟩)) (cs : List Value) (d : TypeDesc) (hc : w.rangeAt b off cs) (hu : P.underlying ty = some d) (hd : d.isRow = true) (hi : (P.info? ty).map (·.size) = some cs.length) :
    (execOp a.eval o).run P w = .ok (.value (.agg cs.toArray)) w := run_ld ty x ho _ hx _ (run_loadAt_mid w b off ty cs d hc hu hd hi)
/-- A call of a function with a Go body. -/
theorem run_call {f : FuncId} {fn : Func} {c : Code} (hf : P.funcs[f]? = some fn) (hname : (fn.name == "runtime.NumGoroutine") = false) (hb : fn.body = some c) (xs : Array Operand) (ts : Array TypeId) (ho : o.op = .call { callee := .value (.func f), args := xs, argTypes := ts }) (args : Array Value) (hx : xs.map a.eval = args) :
    (execOp a.eval o).run P w = .ok (.enter f args) w := by
  subst hx
  have h1 : fn.name ≠ "runtime.NumGoroutine" := by simpa using hname
  have h2 : ∀ args : Array Value, (callFunc f args).run P w = .ok (.enter f args) w := fun args => by simp [callFunc, hf, h1, hb]
  unfold execOp
  simp only [ho]
  simp [go_sem, resolve, invoke, Act.eval, h2]
end
/-- A struct in the midst of a row is read, guarded or not. -/
theorem wpList_load_midW {P : Program} {ops : Array Oper} {rest : List Oper} {o : Oper} {a : Act} {w : World} {Q : Exit → Act → World → Prop} (ty : TypeId) (x : Operand) (ho : o.op = .load ty x)
    (b off : Nat) (hx : a.eval x = .pointer (some ⟨b, off, none⟩)) (cs : List Value) (d : TypeDesc) (hc : w.rangeAt b off cs) (hu : P.underlying ty = some d) (hd : d.isRow = true) (hi : (P.info? ty).map (·.size) = some cs.length)
    (hw : Region.wanted o (yielded ops a.tmps) = true) (h : wpList P ops Q rest (a.put o.dst (.agg cs.toArray)) w) : wpList P ops Q (o :: rest) a w :=
  wpList_step fun K hK => by
    simp only [hw, if_true]
    exact wp_load_mid ty x ho b off hx cs d hc hu hd hi (hK _ _ h)
theorem wpOp_runD {P : Program} {ops : Array Oper} {Q : Exit → Act → World → Prop} {K : Act → World → Prop} {i : Nat} {o : Oper} {t : Array Value} {df : List Deferred} {w : World} (d : Tmp) (ho : ops[i]? = some o) (hg : o.guard = none) (hd : o.dst = some d) (v : Value) (w' : World) (hrun : (execOp (Act.eval ⟨t, df⟩) o).run P w = .ok (.value v) w') (h : K ⟨t.setIfInBounds d v, df⟩ w') : wpOp P ops Q i K ⟨t, df⟩ w :=
  wpOp_run ho hg v w' hrun (by rw [hd]; exact h)
theorem wpOp_enterD {P : Program} {ops : Array Oper} {Q : Exit → Act → World → Prop} {K : Act → World → Prop} {i : Nat} {o : Oper} {t : Array Value} {df : List Deferred} {w : World} (d : Tmp) (ho : ops[i]? = some o) (hg : o.guard = none) (hd : o.dst = some d) (f : FuncId) (args : Array Value) (hrun : (execOp (Act.eval ⟨t, df⟩) o).run P w = .ok (.enter f args) w) (v : Value)
    (h : Calls P f args w fun e w' => e = .returned v ∧ K ⟨t.setIfInBounds d v, df⟩ w') : wpOp P ops Q i K ⟨t, df⟩ w :=
  wpOp_enter ho hg f args hrun v (by rw [hd]; exact h)
theorem takeD {P : Program} {ops : Array Oper} {md : Region.Mode} {Q : Exit → Act → World → Prop} {S : World → Prop} (i : Nat) (dst : Tmp) {oi : Oper} {v : Value} {fuel : Nat} {listed : Array Bool} {t : Array Value} {df : List Deferred} {w : World} (hi : ops[i]? = some oi) (hd : oi.dst = some dst)
    (hs : Region.noSelect ops = true) (hf : Region.free md ops listed i = true) (hr : (Region.ready md ops listed).contains i = true)
    (hQ : ∀ c a w, Q (.panic c) (a.put oi.dst v) w → Q (.panic c) a w) (hy : YieldsIf P ops S oi v ⟨t, df⟩) (hS : S w)
    (h : wpAnyH P md ops Q S fuel (listed.setIfInBounds i true) ⟨t.setIfInBounds dst v, df⟩ w) : wpAnyH P md ops Q S (fuel + 1) listed ⟨t, df⟩ w :=
  wpAnyH_take hi hs hf hr hQ hy hS (by rw [hd]; exact h)
end Go.Proofs.YthlngegfodomgaaDoor

/- Whole structs that are read in drawn regions whose callees make memory. No condition but what each says. -/
namespace Go.Proofs.YthlngegfodomgaaDoor
open Go.RowKit

theorem wpQuiet_here {P : Program} {ops : Array Oper} {C : World → Prop} {Q : Act → Prop} {o : Oper} {rest : List Oper} {a : Act} (i : Op) (ho : o.op = i) (h : wpQuiet P ops C Q (o :: rest) a) : wpQuiet P ops C Q (o :: rest) a := h
theorem wpQuiet_run {P : Program} {ops : Array Oper} {C : World → Prop} {Q : Act → Prop} {o : Oper} {rest : List Oper} {a : Act} (v : Value) (hr : ∀ w, C w → (execOp a.eval o).run P w = .ok (.value v) w) (hw : Region.wanted o (yielded ops a.tmps) = true) (h : wpQuiet P ops C Q rest (a.put o.dst v)) : wpQuiet P ops C Q (o :: rest) a :=
  wpQuiet_step fun K hK => by
    simp only [hw, if_true]
    refine ⟨v, fun w hC => ?_, hK _ h⟩
    unfold Oper.quietAt
    rw [hr w hC]
    exact ⟨rfl, rfl⟩
theorem wpQuiet_load_mid {P : Program} {ops : Array Oper} {C : World → Prop} {Q : Act → Prop} {o : Oper} {rest : List Oper} {a : Act} (ty : TypeId) (x : Operand) (ho : o.op = .load ty x)
    (b off : Nat) (hx : a.eval x = .pointer (some ⟨b, off, none⟩)) (cs : List Value) (d : TypeDesc) (hc : ∀ w, C w → w.rangeAt b off cs) (hu : P.underlying ty = some d) (hd : d.isRow = true) (hi : (P.info? ty).map (·.size) = some cs.length)
    (hw : Region.wanted o (yielded ops a.tmps) = true) (h : wpQuiet P ops C Q rest (a.put o.dst (.agg cs.toArray))) : wpQuiet P ops C Q (o :: rest) a :=
  wpQuiet_run _ (fun w hC => run_ld_mid ty x ho b off hx cs d (hc w hC) hu hd hi) hw h
theorem wpQuiet_load_midD {P : Program} {ops : Array Oper} {C : World → Prop} {Q : Act → Prop} {o : Oper} {rest : List Oper} {t : Array Value} {df : List Deferred} (d0 : Tmp) (hd0 : o.dst = some d0) (ty : TypeId) (x : Operand) (ho : o.op = .load ty x)
    (b off : Nat) (hx : Act.eval ⟨t, df⟩ x = .pointer (some ⟨b, off, none⟩)) (cs : List Value) (d : TypeDesc) (hc : ∀ w, C w → w.rangeAt b off cs) (hu : P.underlying ty = some d) (hd : d.isRow = true) (hi : (P.info? ty).map (·.size) = some cs.length)
    (hw : Region.wanted o (yielded ops t) = true) (h : wpQuiet P ops C Q rest ⟨t.setIfInBounds d0 (.agg cs.toArray), df⟩) : wpQuiet P ops C Q (o :: rest) ⟨t, df⟩ :=
  wpQuiet_load_mid ty x ho b off hx cs d hc hu hd hi hw (by rw [hd0]; exact h)
theorem FrW.range {w0 : World} {b o : Nat} {cs : List Value} (h : w0.rangeAt b o cs) (hb : b < w0.heap.size) : ∀ w, (∃ z : FrW w0, w = z.val) → w.rangeAt b o cs := by
  rintro w ⟨z, rfl⟩
  exact fun j v hj => (World.cell?_of_block (a := ⟨b, o + j, none⟩) (z.fr.block hb)).trans (h j v hj)
end Go.Proofs.YthlngegfodomgaaDoor
