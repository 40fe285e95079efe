/- A region that draws its order, whose operations read, call and make memory: what each slot holds is told by a predicate that new memory does not disturb. No condition but what each says. -/
import Derived.Test.YtjomjlodmelnbaaPBase
set_option linter.all false
set_option linter.unusedVariables false
set_option linter.unusedSimpArgs false
set_option linter.unnecessarySimpa false
/- A region that draws its order, whose operations read, call and make memory: what each slot holds is told by a predicate that new memory does not disturb. No condition but what each says. -/
namespace Go.Proofs.Ytjomjlodmelnbaa
open Go.RowKit

/-- What stands when so much has come up. -/
structure Slots (n : Nat) (t0 : Array Value) (d0 : List Deferred) (d : Nat → Tmp) (Pr : Nat → World → Value → Prop) (W0 : World) (l : Array Bool) (a : Act) (w : World) : Prop where
  lsize : l.size = n
  size : a.tmps.size = t0.size
  defers : a.defers = d0
  other : ∀ k, (∀ j, j < n → k ≠ d j) → a.tmps[k]? = t0[k]?
  val : ∀ j, j < n → l.getD j false = true → ∃ v, a.tmps[d j]? = some v ∧ Pr j w v
  fr : Fr W0 w
/-- The frame with these slots laid. -/
def laidS (t0 : Array Value) (d : Nat → Tmp) (f : Nat → Value) : Nat → Array Value
  | 0 => t0
  | n + 1 => (laidS t0 d f n).setIfInBounds (d n) (f n)
theorem laidS_size (t0 : Array Value) (d : Nat → Tmp) (f : Nat → Value) (n : Nat) : (laidS t0 d f n).size = t0.size := by
  induction n with
  | zero => rfl
  | succ n ih => simp [laidS, ih]
theorem laidS_other {t0 : Array Value} {d : Nat → Tmp} {f : Nat → Value} {n k : Nat} (h : ∀ j, j < n → k ≠ d j) : (laidS t0 d f n)[k]? = t0[k]? := by
  induction n with
  | zero => rfl
  | succ n ih =>
    unfold laidS
    rw [Array.getElem?_setIfInBounds_ne (Ne.symm (h n (by omega)))]
    exact ih fun j hj => h j (by omega)
theorem laidS_at {t0 : Array Value} {d : Nat → Tmp} {f : Nat → Value} {n j : Nat} (hj : j < n) (hd : ∀ i j, i < n → j < n → i ≠ j → d i ≠ d j) (hlt : ∀ j, j < n → d j < t0.size) : (laidS t0 d f n)[d j]? = some (f j) := by
  induction n with
  | zero => omega
  | succ n ih =>
    unfold laidS
    by_cases h : j = n
    · subst h
      exact Array.getElem?_setIfInBounds_self_of_lt (by rw [laidS_size]; exact hlt j (by omega))
    · rw [Array.getElem?_setIfInBounds_ne (hd n j (by omega) (by omega) (Ne.symm h))]
      exact ih (by omega) (fun a b ha hb => hd a b (by omega) (by omega)) fun j hj => hlt j (by omega)
section
variable {P : Program} {ops : Array Oper} {Q : Exit → Act → World → Prop} {n : Nat} {t0 : Array Value} {d0 : List Deferred} {d : Nat → Tmp} {Pr : Nat → World → Value → Prop} {W0 : World}
theorem wp_region_preds {id : Nat} (hm : P.follows .mixedOrders = true) (hsz : ops.size = n) (hL : lexAfter .any ops = true)
    (hd : ∀ i j, i < n → j < n → i ≠ j → d i ≠ d j) (hlt : ∀ j, j < n → d j < t0.size)
    (hst : ∀ j, j < n → ∀ w w' v, Fr w w' → Pr j w v → Pr j w' v)
    (hop : ∀ j, j < n → ∀ (K : Act → World → Prop) a w, Fr W0 w → (∀ i, i < n → Region.waitsFor .any ops j i = true → ∃ v, a.tmps[d i]? = some v ∧ Pr i w v) → (∀ k, (∀ j, j < n → k ≠ d j) → a.tmps[k]? = t0[k]?) →
      (∀ v w', Fr w w' → Pr j w' v → K (a.put (some (d j)) v) w') → wpOp P ops Q j K a w)
    (h : ∀ (f : Nat → Value) w, Fr W0 w → (∀ j, j < n → Pr j w (f j)) → Q .normal ⟨laidS t0 d f n, d0⟩ w) : (Code.region id ops true).wp P Q ⟨t0, d0⟩ W0 := by
  refine wp_region_inv hm (fun l a w => Slots n t0 d0 d Pr W0 l a w) ?_ ?_ ?_
  · exact ⟨by simp [hsz], rfl, rfl, fun _ _ => rfl, fun j _ hl => (by rw [getD_replicate_false] at hl; cases hl), (Fr.refl W0).drew⟩
  · intro l a w H hr
    have hall := ready_done (ops := ops) hL (by rw [H.lsize, hsz]) hr
    have hv : ∀ j, ∃ v, j < n → (a.tmps[d j]? = some v ∧ Pr j w v) := fun j => by
      by_cases hj : j < n
      · obtain ⟨v, hv⟩ := H.val j hj (hall j (by rw [hsz]; exact hj))
        exact ⟨v, fun _ => hv⟩
      · exact ⟨undef, fun h => absurd h hj⟩
    obtain ⟨f, hf⟩ := Classical.axiomOfChoice hv
    have ha : a = ⟨laidS t0 d f n, d0⟩ := by
      obtain ⟨tm, df⟩ := a
      have hdf : df = d0 := H.defers
      subst hdf
      congr 1
      apply Array.ext_getElem?
      intro k
      by_cases hk : ∃ j, j < n ∧ k = d j
      · obtain ⟨j, hj, rfl⟩ := hk
        rw [laidS_at hj hd hlt]
        exact (hf j hj).1
      · have hk2 : ∀ j, j < n → k ≠ d j := fun j hj e => hk ⟨j, hj, e⟩
        rw [laidS_other hk2]
        exact H.other k hk2
    rw [ha]
    exact h f w H.fr fun j hj => (hf j hj).2
  · intro l a w i H hr
    obtain ⟨hi, hun, _⟩ := ready_iff.1 hr
    rw [hsz] at hi
    refine hop i hi _ a w H.fr (fun k hk hw => H.val k hk (ready_waits hr hw)) H.other fun v w' hf hp => ?_
    refine ⟨by simp [H.lsize], by rw [put_size]; exact H.size, H.defers, fun k hk => ?_, fun j hj hl => ?_, H.fr.trans hf⟩
    · show ((a.tmps.setIfInBounds (d i) _))[k]? = _
      rw [Array.getElem?_setIfInBounds_ne (Ne.symm (hk i hi))]
      exact H.other k hk
    · show ∃ v', ((a.tmps.setIfInBounds (d i) v))[d j]? = some v' ∧ _
      by_cases hji : j = i
      · subst hji
        exact ⟨v, Array.getElem?_setIfInBounds_self_of_lt (by rw [H.size]; exact hlt j hj), hp⟩
      · rw [Array.getElem?_setIfInBounds_ne (hd i j hi hj (Ne.symm hji))]
        have hl' : l.getD j false = true := by
          rw [getD_set] at hl
          simpa [Ne.symm hji] using hl
        obtain ⟨v', h1, h2⟩ := H.val j hj hl'
        exact ⟨v', h1, hst j hj _ _ _ hf h2⟩
end
end Go.Proofs.Ytjomjlodmelnbaa
