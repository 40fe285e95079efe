/- A region that draws its order, whose operations read, call and make memory: what each slot holds is told by a predicate that new memory does not disturb. No condition but what each says. -/
import Derived.Test.YtadognaafgndnaaPBase
import Derived.StillTail
import Derived.Great.BuildSlice
import Derived.Great.FillDense
set_option linter.all false
set_option linter.unusedVariables false
set_option linter.unusedSimpArgs false
set_option linter.unnecessarySimpa false
/- A region that draws its order, whose operations read, call and make memory: what each slot holds is told by a predicate that new memory does not disturb. No condition but what each says. -/
namespace Go.Proofs.Ytadognaafgndnaa
open Go.RowKit

/-- What stands when so much has come up. -/
structure Slots (n : Nat) (t0 : Array Value) (d0 : List Deferred) (d : Nat → Tmp) (Pr : Nat → World → Value → Prop) (W0 : World) (l : Array Bool) (a : Act) (w : World) : Prop where
  lsize : l.size = n
  size : a.tmps.size = t0.size
  defers : a.defers = d0
  other : ∀ k, (∀ j, j < n → k ≠ d j) → a.tmps[k]? = t0[k]?
  val : ∀ j, j < n → l.getD j false = true → ∃ v, a.tmps[d j]? = some v ∧ Pr j w v
  fr : Fr W0 w
/-- The frame with these slots laid. -/
def laidS (t0 : Array Value) (d : Nat → Tmp) (f : Nat → Value) : Nat → Array Value
  | 0 => t0
  | n + 1 => (laidS t0 d f n).setIfInBounds (d n) (f n)
theorem laidS_size (t0 : Array Value) (d : Nat → Tmp) (f : Nat → Value) (n : Nat) : (laidS t0 d f n).size = t0.size := by
  induction n with
  | zero => rfl
  | succ n ih => simp [laidS, ih]
theorem laidS_other {t0 : Array Value} {d : Nat → Tmp} {f : Nat → Value} {n k : Nat} (h : ∀ j, j < n → k ≠ d j) : (laidS t0 d f n)[k]? = t0[k]? := by
  induction n with
  | zero => rfl
  | succ n ih =>
    unfold laidS
    rw [Array.getElem?_setIfInBounds_ne (Ne.symm (h n (by omega)))]
    exact ih fun j hj => h j (by omega)
theorem laidS_at {t0 : Array Value} {d : Nat → Tmp} {f : Nat → Value} {n j : Nat} (hj : j < n) (hd : ∀ i j, i < n → j < n → i ≠ j → d i ≠ d j) (hlt : ∀ j, j < n → d j < t0.size) : (laidS t0 d f n)[d j]? = some (f j) := by
  induction n with
  | zero => omega
  | succ n ih =>
    unfold laidS
    by_cases h : j = n
    · subst h
      exact Array.getElem?_setIfInBounds_self_of_lt (by rw [laidS_size]; exact hlt j (by omega))
    · rw [Array.getElem?_setIfInBounds_ne (hd n j (by omega) (by omega) (Ne.symm h))]
      exact ih (by omega) (fun a b ha hb => hd a b (by omega) (by omega)) fun j hj => hlt j (by omega)
section
variable {P : Program} {ops : Array Oper} {Q : Exit → Act → World → Prop} {n : Nat} {t0 : Array Value} {d0 : List Deferred} {d : Nat → Tmp} {Pr : Nat → World → Value → Prop} {W0 : World}
theorem wp_region_preds {id : Nat} (hm : P.follows .mixedOrders = true) (hsz : ops.size = n) (hL : lexAfter .any ops = true)
    (hd : ∀ i j, i < n → j < n → i ≠ j → d i ≠ d j) (hlt : ∀ j, j < n → d j < t0.size)
    (hst : ∀ j, j < n → ∀ w w' v, Fr w w' → Pr j w v → Pr j w' v)
    (hop : ∀ j, j < n → ∀ (K : Act → World → Prop) a w, Fr W0 w → (∀ i, i < n → Region.waitsFor .any ops j i = true → ∃ v, a.tmps[d i]? = some v ∧ Pr i w v) → (∀ k, (∀ j, j < n → k ≠ d j) → a.tmps[k]? = t0[k]?) →
      (∀ v w', Fr w w' → Pr j w' v → K (a.put (some (d j)) v) w') → wpOp P ops Q j K a w)
    (h : ∀ (f : Nat → Value) w, Fr W0 w → (∀ j, j < n → Pr j w (f j)) → Q .normal ⟨laidS t0 d f n, d0⟩ w) : (Code.region id ops true).wp P Q ⟨t0, d0⟩ W0 := by
  refine wp_region_inv hm (fun l a w => Slots n t0 d0 d Pr W0 l a w) ?_ ?_ ?_
  · exact ⟨by simp [hsz], rfl, rfl, fun _ _ => rfl, fun j _ hl => (by rw [getD_replicate_false] at hl; cases hl), (Fr.refl W0).drew⟩
  · intro l a w H hr
    have hall := ready_done (ops := ops) hL (by rw [H.lsize, hsz]) hr
    have hv : ∀ j, ∃ v, j < n → (a.tmps[d j]? = some v ∧ Pr j w v) := fun j => by
      by_cases hj : j < n
      · obtain ⟨v, hv⟩ := H.val j hj (hall j (by rw [hsz]; exact hj))
        exact ⟨v, fun _ => hv⟩
      · exact ⟨undef, fun h => absurd h hj⟩
    obtain ⟨f, hf⟩ := Classical.axiomOfChoice hv
    have ha : a = ⟨laidS t0 d f n, d0⟩ := by
      obtain ⟨tm, df⟩ := a
      have hdf : df = d0 := H.defers
      subst hdf
      congr 1
      apply Array.ext_getElem?
      intro k
      by_cases hk : ∃ j, j < n ∧ k = d j
      · obtain ⟨j, hj, rfl⟩ := hk
        rw [laidS_at hj hd hlt]
        exact (hf j hj).1
      · have hk2 : ∀ j, j < n → k ≠ d j := fun j hj e => hk ⟨j, hj, e⟩
        rw [laidS_other hk2]
        exact H.other k hk2
    rw [ha]
    exact h f w H.fr fun j hj => (hf j hj).2
  · intro l a w i H hr
    obtain ⟨hi, hun, _⟩ := ready_iff.1 hr
    rw [hsz] at hi
    refine hop i hi _ a w H.fr (fun k hk hw => H.val k hk (ready_waits hr hw)) H.other fun v w' hf hp => ?_
    refine ⟨by simp [H.lsize], by rw [put_size]; exact H.size, H.defers, fun k hk => ?_, fun j hj hl => ?_, H.fr.trans hf⟩
    · show ((a.tmps.setIfInBounds (d i) _))[k]? = _
      rw [Array.getElem?_setIfInBounds_ne (Ne.symm (hk i hi))]
      exact H.other k hk
    · show ∃ v', ((a.tmps.setIfInBounds (d i) v))[d j]? = some v' ∧ _
      by_cases hji : j = i
      · subst hji
        exact ⟨v, Array.getElem?_setIfInBounds_self_of_lt (by rw [H.size]; exact hlt j hj), hp⟩
      · rw [Array.getElem?_setIfInBounds_ne (hd i j hi hj (Ne.symm hji))]
        have hl' : l.getD j false = true := by
          rw [getD_set] at hl
          simpa [Ne.symm hji] using hl
        obtain ⟨v', h1, h2⟩ := H.val j hj hl'
        exact ⟨v', h1, hst j hj _ _ _ hf h2⟩
end
end Go.Proofs.Ytadognaafgndnaa

/- A region that draws its order: a head whose slots are told by predicates that new memory does not disturb, then its last operations in their one order. No condition but what each says. -/
namespace Go.Proofs.Ytadognaafgndnaa
open Go.RowKit

/-- What stands when so much of the head has come up. -/
structure SlotsT (m : Nat) (t0 : Array Value) (d0 : List Deferred) (d : Nat → Tmp) (Pr : Nat → World → Value → Prop) (W0 : World) (l : Array Bool) (a : Act) (w : World) : Prop where
  size : a.tmps.size = t0.size
  defers : a.defers = d0
  other : ∀ k, (∀ j, j < m → k ≠ d j) → a.tmps[k]? = t0[k]?
  val : ∀ j, j < m → l.getD j false = true → ∃ v, a.tmps[d j]? = some v ∧ Pr j w v
  fr : Fr W0 w
def headDone (m g : Nat) : Array Bool := (List.replicate m true ++ List.replicate g false).toArray
theorem still_headDone (m g : Nat) : still (headDone m g) = g := by
  unfold still headDone
  rw [List.filter_append, List.filter_replicate, List.filter_replicate]
  simp
section
variable {P : Program} {ops : Array Oper} {Q : Exit → Act → World → Prop} {m g : Nat} {t0 : Array Value} {d0 : List Deferred} {d : Nat → Tmp} {Pr : Nat → World → Value → Prop} {W0 : World}
theorem wp_region_preds_tail {id : Nat} (hm : P.follows .mixedOrders = true) (hsz : ops.size = m + g) (hg : 0 < g) (hL : lexAfter .any ops = true) (hs : Region.sinkB .any ops m = true) (hc : Region.chainB .any ops m = true) (hq : Region.seqB .any ops g m (headDone m g) = true)
    (hd : ∀ i j, i < m → j < m → i ≠ j → d i ≠ d j) (hlt : ∀ j, j < m → d j < t0.size)
    (hst : ∀ j, j < m → ∀ w w' v, Fr w w' → Pr j w v → Pr j w' v)
    (hop : ∀ j, j < m → ∀ (K : Act → World → Prop) a w, Fr W0 w → (∀ i, i < m → Region.waitsFor .any ops j i = true → ∃ v, a.tmps[d i]? = some v ∧ Pr i w v) → (∀ k, (∀ j, j < m → k ≠ d j) → a.tmps[k]? = t0[k]?) →
      (∀ v w', Fr w w' → Pr j w' v → K (a.put (some (d j)) v) w') → wpOp P ops Q j K a w)
    (h : ∀ (f : Nat → Value) w, Fr W0 w → (∀ j, j < m → Pr j w (f j)) → wpList P ops Q (ops.toList.drop m) ⟨laidS t0 d f m, d0⟩ w) : (Code.region id ops true).wp P Q ⟨t0, d0⟩ W0 := by
  have key : ∀ fuel l a w, still l = fuel → HeadInv .any ops m l → SlotsT m t0 d0 d Pr W0 l a w → wpAny P .any ops Q fuel l a w := by
    intro fuel
    induction fuel with
    | zero =>
      intro l a w hl inv H
      have h1 := still_zero hl m
      rw [inv.tail m (Nat.le_refl _) (by omega)] at h1
      cases h1
    | succ fuel ih =>
      intro l a w hl inv H
      by_cases hall : ∀ j, j < m → l.getD j true = true
      · have hlE : l = headDone m g := by
          apply Array.ext
          · rw [inv.size, hsz]; simp [headDone]
          · intro j h1 h2
            have h3 : j < m + g := by rw [inv.size, hsz] at h1; exact h1
            by_cases hj : j < m
            · have h4 := hall j hj
              rw [Array.getD_eq_getD_getElem?, Array.getElem?_eq_getElem h1] at h4
              have h4 : l[j] = true := h4
              rw [h4]
              simp [headDone, List.getElem_append, hj]
            · have h4 := inv.tail j (by omega) (by omega)
              rw [Array.getD_eq_getD_getElem?, Array.getElem?_eq_getElem h1] at h4
              have h4 : l[j] = false := h4
              rw [h4]
              simp [headDone, List.getElem_append, hj]
        have hgf : fuel + 1 = g := by rw [← hl, hlE, still_headDone]
        have hdl : (ops.toList.drop m).length = g := by rw [List.length_drop, Array.length_toList, hsz]; omega
        have hv : ∀ j, ∃ v, j < m → (a.tmps[d j]? = some v ∧ Pr j w v) := fun j => by
          by_cases hj : j < m
          · obtain ⟨v, hv⟩ := H.val j hj (by
              have h1 : j < l.size := by rw [inv.size, hsz]; omega
              have h4 := hall j hj
              rw [Array.getD_eq_getD_getElem?, Array.getElem?_eq_getElem h1] at h4 ⊢
              exact h4)
            exact ⟨v, fun _ => hv⟩
          · exact ⟨undef, fun h => absurd h hj⟩
        obtain ⟨f, hf⟩ := Classical.axiomOfChoice hv
        have ha : a = ⟨laidS t0 d f m, d0⟩ := by
          obtain ⟨tm, df⟩ := a
          have hdf : df = d0 := H.defers
          subst hdf
          congr 1
          apply Array.ext_getElem?
          intro k
          by_cases hk : ∃ j, j < m ∧ k = d j
          · obtain ⟨j, hj, rfl⟩ := hk
            rw [laidS_at hj hd hlt]
            exact (hf j hj).1
          · have hk2 : ∀ j, j < m → k ≠ d j := fun j hj e => hk ⟨j, hj, e⟩
            rw [laidS_other hk2]
            exact H.other k hk2
        have hw := h f w H.fr fun j hj => (hf j hj).2
        rw [← ha] at hw
        have := wpAny_of_seq (md := .any) (Q' := Q) (ops.toList.drop m) m l a w (fun j => by simp [List.getElem?_drop]) (by rw [hdl, hlE]; exact hq) hw
        rw [hdl, ← hgf] at this
        exact this
      · obtain ⟨j, hj, hun⟩ : ∃ j, j < m ∧ l.getD j true = false := by
          refine Classical.byContradiction fun hno => hall fun j hj => ?_
          cases hx : l.getD j true
          · exact absurd ⟨j, hj, hx⟩ hno
          · rfl
        refine ⟨fun hr => ?_, fun i hi => ?_⟩
        · have h1 := ready_done hL inv.size hr j (by omega)
          rw [getD_both hun] at h1
          cases h1
        · obtain ⟨hi1, hiu, _⟩ := ready_iff.1 hi
          have him : i < m := by
            rcases Nat.lt_or_ge i m with h1 | h1
            · exact h1
            · exact absurd hi (tail_waits hs hc (by omega) inv _ j rfl hj hun i h1)
          refine hop i him _ a w H.fr (fun k hk hw => H.val k hk (ready_waits hi hw)) H.other fun v w' hf hp => ?_
          refine ih _ _ _ (by have := still_set hiu; omega) (inv.set hi him) ⟨by rw [put_size]; exact H.size, H.defers, fun k hk => ?_, fun j hj hl => ?_, H.fr.trans hf⟩
          · show ((a.tmps.setIfInBounds (d i) _))[k]? = _
            rw [Array.getElem?_setIfInBounds_ne (Ne.symm (hk i him))]
            exact H.other k hk
          · show ∃ v', ((a.tmps.setIfInBounds (d i) v))[d j]? = some v' ∧ _
            by_cases hji : j = i
            · subst hji
              exact ⟨v, Array.getElem?_setIfInBounds_self_of_lt (by rw [H.size]; exact hlt j hj), hp⟩
            · rw [Array.getElem?_setIfInBounds_ne (hd i j him hj (Ne.symm hji))]
              have hl' : l.getD j false = true := by
                rw [getD_set] at hl
                simpa [Ne.symm hji] using hl
              obtain ⟨v', h1, h2⟩ := H.val j hj hl'
              exact ⟨v', h1, hst j hj _ _ _ hf h2⟩
  refine wp_region_any hm (key _ _ _ _ (by unfold still; simp) ⟨by simp, fun j oj _ hl => (by rw [getD_replicate_false] at hl; cases hl), fun t _ ht => getD_in (by simpa using ht) (getD_replicate_false _ _)⟩ ?_)
  exact ⟨rfl, rfl, fun _ _ => rfl, fun j _ hl => (by rw [getD_replicate_false] at hl; cases hl), (Fr.refl W0).drew⟩
/-- .. with what is deferred told. -/
theorem wp_region_preds_tailD {id : Nat} (hm : P.follows .mixedOrders = true) (hsz : ops.size = m + g) (hg : 0 < g) (hL : lexAfter .any ops = true) (hs : Region.sinkB .any ops m = true) (hc : Region.chainB .any ops m = true) (hq : Region.seqB .any ops g m (headDone m g) = true)
    (hd : ∀ i j, i < m → j < m → i ≠ j → d i ≠ d j) (hlt : ∀ j, j < m → d j < t0.size)
    (hst : ∀ j, j < m → ∀ w w' v, Fr w w' → Pr j w v → Pr j w' v)
    (hop : ∀ j, j < m → ∀ (K : Act → World → Prop) a w, a.defers = d0 → Fr W0 w → (∀ i, i < m → Region.waitsFor .any ops j i = true → ∃ v, a.tmps[d i]? = some v ∧ Pr i w v) → (∀ k, (∀ j, j < m → k ≠ d j) → a.tmps[k]? = t0[k]?) →
      (∀ v w', Fr w w' → Pr j w' v → K (a.put (some (d j)) v) w') → wpOp P ops Q j K a w)
    (h : ∀ (f : Nat → Value) w, Fr W0 w → (∀ j, j < m → Pr j w (f j)) → wpList P ops Q (ops.toList.drop m) ⟨laidS t0 d f m, d0⟩ w) : (Code.region id ops true).wp P Q ⟨t0, d0⟩ W0 := by
  have key : ∀ fuel l a w, still l = fuel → HeadInv .any ops m l → SlotsT m t0 d0 d Pr W0 l a w → wpAny P .any ops Q fuel l a w := by
    intro fuel
    induction fuel with
    | zero =>
      intro l a w hl inv H
      have h1 := still_zero hl m
      rw [inv.tail m (Nat.le_refl _) (by omega)] at h1
      cases h1
    | succ fuel ih =>
      intro l a w hl inv H
      by_cases hall : ∀ j, j < m → l.getD j true = true
      · have hlE : l = headDone m g := by
          apply Array.ext
          · rw [inv.size, hsz]; simp [headDone]
          · intro j h1 h2
            have h3 : j < m + g := by rw [inv.size, hsz] at h1; exact h1
            by_cases hj : j < m
            · have h4 := hall j hj
              rw [Array.getD_eq_getD_getElem?, Array.getElem?_eq_getElem h1] at h4
              have h4 : l[j] = true := h4
              rw [h4]
              simp [headDone, List.getElem_append, hj]
            · have h4 := inv.tail j (by omega) (by omega)
              rw [Array.getD_eq_getD_getElem?, Array.getElem?_eq_getElem h1] at h4
              have h4 : l[j] = false := h4
              rw [h4]
              simp [headDone, List.getElem_append, hj]
        have hgf : fuel + 1 = g := by rw [← hl, hlE, still_headDone]
        have hdl : (ops.toList.drop m).length = g := by rw [List.length_drop, Array.length_toList, hsz]; omega
        have hv : ∀ j, ∃ v, j < m → (a.tmps[d j]? = some v ∧ Pr j w v) := fun j => by
          by_cases hj : j < m
          · obtain ⟨v, hv⟩ := H.val j hj (by
              have h1 : j < l.size := by rw [inv.size, hsz]; omega
              have h4 := hall j hj
              rw [Array.getD_eq_getD_getElem?, Array.getElem?_eq_getElem h1] at h4 ⊢
              exact h4)
            exact ⟨v, fun _ => hv⟩
          · exact ⟨undef, fun h => absurd h hj⟩
        obtain ⟨f, hf⟩ := Classical.axiomOfChoice hv
        have ha : a = ⟨laidS t0 d f m, d0⟩ := by
          obtain ⟨tm, df⟩ := a
          have hdf : df = d0 := H.defers
          subst hdf
          congr 1
          apply Array.ext_getElem?
          intro k
          by_cases hk : ∃ j, j < m ∧ k = d j
          · obtain ⟨j, hj, rfl⟩ := hk
            rw [laidS_at hj hd hlt]
            exact (hf j hj).1
          · have hk2 : ∀ j, j < m → k ≠ d j := fun j hj e => hk ⟨j, hj, e⟩
            rw [laidS_other hk2]
            exact H.other k hk2
        have hw := h f w H.fr fun j hj => (hf j hj).2
        rw [← ha] at hw
        have := wpAny_of_seq (md := .any) (Q' := Q) (ops.toList.drop m) m l a w (fun j => by simp [List.getElem?_drop]) (by rw [hdl, hlE]; exact hq) hw
        rw [hdl, ← hgf] at this
        exact this
      · obtain ⟨j, hj, hun⟩ : ∃ j, j < m ∧ l.getD j true = false := by
          refine Classical.byContradiction fun hno => hall fun j hj => ?_
          cases hx : l.getD j true
          · exact absurd ⟨j, hj, hx⟩ hno
          · rfl
        refine ⟨fun hr => ?_, fun i hi => ?_⟩
        · have h1 := ready_done hL inv.size hr j (by omega)
          rw [getD_both hun] at h1
          cases h1
        · obtain ⟨hi1, hiu, _⟩ := ready_iff.1 hi
          have him : i < m := by
            rcases Nat.lt_or_ge i m with h1 | h1
            · exact h1
            · exact absurd hi (tail_waits hs hc (by omega) inv _ j rfl hj hun i h1)
          refine hop i him _ a w H.defers H.fr (fun k hk hw => H.val k hk (ready_waits hi hw)) H.other fun v w' hf hp => ?_
          refine ih _ _ _ (by have := still_set hiu; omega) (inv.set hi him) ⟨by rw [put_size]; exact H.size, H.defers, fun k hk => ?_, fun j hj hl => ?_, H.fr.trans hf⟩
          · show ((a.tmps.setIfInBounds (d i) _))[k]? = _
            rw [Array.getElem?_setIfInBounds_ne (Ne.symm (hk i him))]
            exact H.other k hk
          · show ∃ v', ((a.tmps.setIfInBounds (d i) v))[d j]? = some v' ∧ _
            by_cases hji : j = i
            · subst hji
              exact ⟨v, Array.getElem?_setIfInBounds_self_of_lt (by rw [H.size]; exact hlt j hj), hp⟩
            · rw [Array.getElem?_setIfInBounds_ne (hd i j him hj (Ne.symm hji))]
              have hl' : l.getD j false = true := by
                rw [getD_set] at hl
                simpa [Ne.symm hji] using hl
              obtain ⟨v', h1, h2⟩ := H.val j hj hl'
              exact ⟨v', h1, hst j hj _ _ _ hf h2⟩
  refine wp_region_any hm (key _ _ _ _ (by unfold still; simp) ⟨by simp, fun j oj _ hl => (by rw [getD_replicate_false] at hl; cases hl), fun t _ ht => getD_in (by simpa using ht) (getD_replicate_false _ _)⟩ ?_)
  exact ⟨rfl, rfl, fun _ _ => rfl, fun j _ hl => (by rw [getD_replicate_false] at hl; cases hl), (Fr.refl W0).drew⟩
end
section
variable {P : Program} {ops : Array Oper} {Q : Exit → Act → World → Prop} {K : Act → World → Prop} {i : Nat} {o : Oper} {a : Act} {w : World}
theorem wanted_someT {k : Nat} {b : Bool} {op : Oper} {d : Tmp} {tmps : Array Value} (hg : o.guard = some (k, b)) (hk : ops[k]? = some op) (hd : op.dst = some d) (ht : tmps[d]? = some (.bool b)) : Region.wanted o (yielded ops tmps) = true := by
  simp [Region.wanted, hg, yielded, hk, hd, ht]
theorem wanted_notT {k : Nat} {b : Bool} {op : Oper} {d : Tmp} {tmps : Array Value} (hg : o.guard = some (k, b)) (hk : ops[k]? = some op) (hd : op.dst = some d) (ht : tmps[d]? = some (.bool (!b))) : Region.wanted o (yielded ops tmps) = false := by
  cases b <;> simp [Region.wanted, hg, yielded, hk, hd, ht]
/-- An operation that is wanted: a value. -/
theorem wpOp_runT (ho : ops[i]? = some o) (hg : Region.wanted o (yielded ops a.tmps) = true) (v : Value) (w' : World) (hrun : (execOp a.eval o).run P w = .ok (.value v) w') (h : K (a.put o.dst v) w') : wpOp P ops Q i K a w := by
  unfold wpOp
  simp only [ho]
  rw [if_pos hg]
  left
  unfold Oper.wp
  rw [hrun]
  exact h
/-- An operation that is passed over. -/
theorem wpOp_skipT (ho : ops[i]? = some o) (hg : Region.wanted o (yielded ops a.tmps) = false) (h : K (a.put o.dst undef) w) : wpOp P ops Q i K a w := by
  unfold wpOp
  simp only [ho]
  rw [if_neg (by rw [hg]; simp)]
  exact h
/-- .. a call, which answers some value. -/
theorem wpOp_enterT (ho : ops[i]? = some o) (hg : Region.wanted o (yielded ops a.tmps) = true) (f : FuncId) (args : Array Value) (hrun : (execOp a.eval o).run P w = .ok (.enter f args) w)
    (h : Calls P f args w fun e w' => ∃ v, e = .returned v ∧ K (a.put o.dst v) w') : wpOp P ops Q i K a w := by
  unfold wpOp
  simp only [ho]
  rw [if_pos hg]
  left
  unfold Oper.wp
  rw [hrun, Oper.upon_enter]
  exact h.mono fun e w' ⟨v, he, hk⟩ => by subst he; exact hk
end
theorem evalOf {a : Act} {t : Tmp} {v : Value} (h : a.tmps[t]? = some v) : a.eval (.tmp t) = v := by simp [Act.eval, h]
/-- A slice literal, every place written. -/
theorem run_bs {P : Program} {o : Oper} {a : Act} {w : World} (t e : TypeId) (len : Nat) (parts : Array (Nat × Operand)) (ho : o.op = .buildSlice t len parts) (vs : List Value) (hev : (parts.map fun (i, x) => (i, a.eval x)).toList = (vs.zipIdx 0).map fun x => (x.2, x.1))
    (s : Nat) (hs : 0 < s) (hvs : ∀ v ∈ vs, v.cells.size = s) (hu : P.underlying t = some (.slice e)) (hi : (P.info? e).map (fun i => (i.zero.isSome, i.size)) = some (true, s)) (hlen : len = vs.length) (hpos : 0 < len) (hsm : len * s ≤ 2 ^ 24) :
    (execOp a.eval o).run P w = .ok (.value (.slice (some ⟨w.heap.size, 0, none⟩) len len)) (w.alloc (.cells (vs.flatMap fun v => v.cells.toList).toArray e)) := by
  cases hie : P.info? e with
  | none => simp [hie] at hi
  | some ie =>
    simp only [hie, Option.map_some, Option.some.injEq, Prod.mk.injEq] at hi
    obtain ⟨hz, hsz⟩ := hi
    obtain ⟨z, hzz⟩ := Option.isSome_iff_exists.1 hz
    have h0 : ¬ len * ie.size = 0 := by rw [hsz]; have := Nat.mul_pos hpos hs; omega
    have hr := run_buildSlice w t e len (parts.map fun (i, x) => (i, a.eval x)) (vs.flatMap fun v => v.cells.toList).toArray ie z hu hie hzz (by rw [hsz]; omega) h0 (by rw [hev]; exact Great.fill_whole (s := ie.size) (by rw [hsz]; exact hs) vs _ (by rw [hsz]; exact hvs) (by simp [hlen]))
    unfold execOp
    simp only [ho, Sem.run_bind, hr, Result.andThen_ok, Sem.run_pure]
end Go.Proofs.Ytadognaafgndnaa
