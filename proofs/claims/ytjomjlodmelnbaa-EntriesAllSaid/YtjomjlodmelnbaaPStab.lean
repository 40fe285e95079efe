/- The library's stable sort, plain: exchanges of ranges, rotations, the merge in place. No program in sight; no condition but what each says. -/
import Derived.Sort.LotA
set_option linter.all false
set_option linter.unusedVariables false
set_option linter.unusedSimpArgs false
set_option linter.unnecessarySimpa false
/- The library's stable sort, plain: exchanges of ranges, rotations, the merge in place. No program in sight; no condition but what each says. -/
namespace Go.Proofs.Ytjomjlodmelnbaa
open Go.Sort
variable {α : Type} [Inhabited α]

/-- Two ranges exchanged. -/
def Exch (d : Array α) (a b n : Nat) (d' : Array α) : Prop :=
  d'.size = d.size ∧ ∀ i, d'[i]! = if a ≤ i ∧ i < a + n then d[i - a + b]! else if b ≤ i ∧ i < b + n then d[i - b + a]! else d[i]!
theorem Exch.zero (d : Array α) (a b : Nat) : Exch d a b 0 d := ⟨rfl, fun i => by rw [if_neg (by omega), if_neg (by omega)]⟩
theorem Exch.step {d d1 : Array α} {a b k : Nat} (h : Exch d a b k d1) (hab : a + k < b) (hb : b + k < d.size) : Exch d a b (k + 1) (swp d1 (a + k) (b + k)) := by
  obtain ⟨hs, h⟩ := h
  refine ⟨by rw [swp_size]; exact hs, fun i => ?_⟩
  rw [swp_get d1 (by omega) (by omega), h (a + k), h (b + k), h i]
  by_cases h1 : i = b + k
  · subst h1
    rw [if_pos rfl, if_neg (by omega), if_neg (by omega), if_neg (by omega), if_pos (by omega)]
    all_goals (first | rfl | (congr 1; omega))
  · rw [if_neg h1]
    by_cases h2 : i = a + k
    · subst h2
      rw [if_pos rfl, if_neg (by omega), if_neg (by omega), if_pos (by omega)]
      all_goals (first | rfl | (congr 1; omega))
    · rw [if_neg h2]
      by_cases h3 : a ≤ i ∧ i < a + k
      · rw [if_pos h3, if_pos (by omega)]
      · rw [if_neg h3]
        by_cases h4 : b ≤ i ∧ i < b + k
        · rw [if_pos h4, if_neg (by omega), if_pos (by omega)]
        · rw [if_neg h4, if_neg (by omega), if_neg (by omega)]
/-- Two neighbouring blocks that have changed their places. -/
def Rot (d : Array α) (a m b : Nat) (d' : Array α) : Prop :=
  d'.size = d.size ∧ (∀ i, i < a ∨ b ≤ i → d'[i]! = d[i]!) ∧ (∀ i, a ≤ i → i < a + (b - m) → d'[i]! = d[i + (m - a)]!) ∧ ∀ i, a + (b - m) ≤ i → i < b → d'[i]! = d[i - (b - m)]!
theorem Rot.eq {d d2 : Array α} {m i : Nat} (h : Exch d (m - i) m i d2) (hi : i ≤ m) : Rot d (m - i) m (m + i) d2 := by
  obtain ⟨hs, h⟩ := h
  refine ⟨hs, fun k hk => ?_, fun k h1 h2 => ?_, fun k h1 h2 => ?_⟩
  · rw [h, if_neg (by omega), if_neg (by omega)]
  · rw [h, if_pos (by omega)]; all_goals (first | rfl | (congr 1; omega))
  · rw [h, if_neg (by omega), if_pos (by omega)]; all_goals (first | rfl | (congr 1; omega))
theorem Rot.gt {d d2 d' : Array α} {m i j : Nat} (h : Exch d (m - i) m j d2) (hi : i ≤ m) (hij : j < i) (hr : Rot d2 (m - (i - j)) m (m + j) d') : Rot d (m - i) m (m + j) d' := by
  obtain ⟨hs, h⟩ := h
  obtain ⟨rs, r0, r1, r2⟩ := hr
  refine ⟨rs.trans hs, fun k hk => ?_, fun k h1 h2 => ?_, fun k h1 h2 => ?_⟩
  · rw [r0 k (by omega), h, if_neg (by omega), if_neg (by omega)]
  · rw [r0 k (by omega), h, if_pos (by omega)]; all_goals (first | rfl | (congr 1; omega))
  · by_cases hk : k < m - (i - j) + (m + j - m)
    · rw [r1 k (by omega) hk, h, if_neg (by omega), if_pos (by omega)]; all_goals (first | rfl | (congr 1; omega))
    · rw [r2 k (by omega) (by omega), h, if_neg (by omega), if_neg (by omega)]; all_goals (first | rfl | (congr 1; omega))
theorem Rot.lt {d d2 d' : Array α} {m i j : Nat} (h : Exch d (m - i) (m + j - i) i d2) (hi : i ≤ m) (hij : i < j) (hr : Rot d2 (m - i) m (m + (j - i)) d') : Rot d (m - i) m (m + j) d' := by
  obtain ⟨hs, h⟩ := h
  obtain ⟨rs, r0, r1, r2⟩ := hr
  refine ⟨rs.trans hs, fun k hk => ?_, fun k h1 h2 => ?_, fun k h1 h2 => ?_⟩
  · rw [r0 k (by omega), h, if_neg (by omega), if_neg (by omega)]
  · by_cases hk : k < m - i + (m + (j - i) - m)
    · rw [r1 k (by omega) hk, h, if_neg (by omega)]
      by_cases hk2 : k + (m - (m - i)) < m + j - i
      · rw [if_neg (by omega)]
      · omega
    · rw [r2 k (by omega) (by omega), h, if_pos (by omega)]; all_goals (first | rfl | (congr 1; omega))
  · rw [r0 k (by omega), h, if_neg (by omega), if_pos (by omega)]; all_goals (first | rfl | (congr 1; omega))
theorem Rot.none {d : Array α} {a m b : Nat} (h : m = a ∨ m = b) (hab : a ≤ b) : Rot d a m b d := by
  refine ⟨rfl, fun _ _ => rfl, fun i h1 h2 => ?_, fun i h1 h2 => ?_⟩
  · rcases h with rfl | rfl
    · simp
    · omega
  · rcases h with rfl | rfl
    · omega
    · simp
/-- Two sorted neighbours, merged in place. -/
def MergeOk (lt : α → α → Bool) (a m b : Nat) (d d' : Array α) : Prop :=
  PermIn a b d d' ∧ (SortedIn lt a m d → SortedIn lt m b d → SortedIn lt a b d')
variable {lt : α → α → Bool}
theorem MergeOk.none {d : Array α} {a m b : Nat} (h : m = a ∨ m = b) : MergeOk lt a m b d d := by
  refine ⟨permIn_refl _ _ _, fun h1 h2 => ?_⟩
  rcases h with rfl | rfl
  · exact h2
  · exact h1
theorem SortedIn.at (hS : SWO lt) {a b : Nat} {d : Array α} (h : SortedIn lt a b d) {i j : Nat} (hi : a ≤ i) (hij : i ≤ j) (hj : j < b) : lt d[j]! d[i]! = false := by
  by_cases he : i = j
  · subst he; exact hS.irrefl _
  · exact h i j hi (by omega) hj
/-- The middle step of the merge: what the binary search has found, a rotation, two merges. -/
theorem merge_main (hS : SWO lt) {d d1 d2 d3 : Array α} {a m b mid start : Nat} (ham : a < m) (hmb : m < b) (hb : b ≤ d.size) (hmid : mid = (a + b) / 2)
    (hlo1 : mid < m → mid + m ≤ b + start ∧ start ≤ mid) (hlo2 : m ≤ mid → a ≤ start ∧ start ≤ m)
    (s1 : (if mid < m then mid + m = b + start else start = a) ∨ lt d[mid + m - start]! d[start - 1]! = false)
    (s2 : (if mid < m then start = mid else start = m) ∨ lt d[mid + m - start - 1]! d[start]! = true)
    (hr : Rot d start m (mid + m - start) d1) (hp : PermIn start (mid + m - start) d d1) (h12 : MergeOk lt a start mid d1 d2) (h23 : MergeOk lt mid (mid + m - start) b d2 d3) : MergeOk lt a m b d d3 := by
  have e1 : a ≤ start ∧ start ≤ m ∧ start ≤ mid ∧ m ≤ mid + m - start ∧ mid ≤ mid + m - start ∧ mid + m - start ≤ b := by
    by_cases h : mid < m
    · have := hlo1 h; omega
    · have := hlo2 (by omega); omega
  generalize hE : mid + m - start = E at *
  obtain ⟨h1, h2, h3, h4, h5, h6⟩ := e1
  obtain ⟨rs, r0, r1, r2⟩ := hr
  have hk : start + (E - m) = mid := by omega
  rw [hk] at r1 r2
  have g1 : d1.size = d.size := rs
  have g2 : d2.size = d1.size := h12.1.1
  have p1 : PermIn a b d d1 := permIn_mono _ _ _ _ _ _ h1 h6 hb hp
  have p2 : PermIn a b d1 d2 := permIn_mono _ _ _ _ _ _ (Nat.le_refl _) (by omega) (by omega) h12.1
  have p3 : PermIn a b d2 d3 := permIn_mono _ _ _ _ _ _ (by omega) (Nat.le_refl _) (by omega) h23.1
  refine ⟨permIn_trans _ _ _ _ _ (permIn_trans _ _ _ _ _ p1 p2) p3, fun hA hB => ?_⟩
  have b1 : ∀ i, i < start → d1[i]! = d[i]! := fun i hi => r0 i (.inl hi)
  have b2 : ∀ i, E ≤ i → d1[i]! = d[i]! := fun i hi => r0 i (.inr hi)
  have sA1 : SortedIn lt a start d1 := fun i j hi hij hj => by rw [b1 j hj, b1 i (by omega)]; exact hA i j hi hij (by omega)
  have sB1 : SortedIn lt start mid d1 := fun i j hi hij hj => by rw [r1 j (by omega) hj, r1 i hi (by omega)]; exact hB _ _ (by omega) (by omega) (by omega)
  have sA2 : SortedIn lt mid E d1 := fun i j hi hij hj => by rw [r2 j (by omega) hj, r2 i hi (by omega)]; exact hA _ _ (by omega) (by omega) (by omega)
  have sB2 : SortedIn lt E b d1 := fun i j hi hij hj => by rw [b2 j (by omega), b2 i hi]; exact hB _ _ (by omega) (by omega) hj
  -- what the search has told
  have c1 : ∀ i j, a ≤ i → i < start → E ≤ j → j < b → lt d[j]! d[i]! = false := fun i j h7 h8 h9 h10 => by
    have hs : lt d[E]! d[start - 1]! = false := by
      rcases s1 with h | h
      · exfalso
        split at h <;> omega
      · exact h
    exact hS.ntrans _ _ _ (SortedIn.at hS hB (by omega) h9 h10) (hS.ntrans _ _ _ hs (SortedIn.at hS hA h7 (by omega) (by omega)))
  have c2 : ∀ i j, m ≤ i → i < E → start ≤ j → j < m → lt d[j]! d[i]! = false := fun i j h7 h8 h9 h10 => by
    have hs : lt d[E - 1]! d[start]! = true := by
      rcases s2 with h | h
      · exfalso
        split at h <;> omega
      · exact h
    exact hS.ntrans _ _ _ (SortedIn.at hS hA (by omega) h9 h10) (hS.ntrans _ _ _ (hS.asymmA hs) (SortedIn.at hS hB h7 (by omega) (by omega)))
  have cross : ∀ i, a ≤ i → i < mid → ∀ j, mid ≤ j → j < b → lt d1[j]! d1[i]! = false := fun i h7 h8 j h9 h10 => by
    by_cases hi : i < start
    · rw [b1 i hi]
      by_cases hj : j < E
      · rw [r2 j h9 hj]; exact SortedIn.at hS hA h7 (by omega) (by omega)
      · rw [b2 j (by omega)]; exact c1 i j h7 hi (by omega) h10
    · rw [r1 i (by omega) h8]
      by_cases hj : j < E
      · rw [r2 j h9 hj]; exact c2 _ _ (by omega) (by omega) (by omega) (by omega)
      · rw [b2 j (by omega)]; exact SortedIn.at hS hB (by omega) (by omega) h10
  have o2 : ∀ j, mid ≤ j → d2[j]! = d1[j]! := fun j hj => h12.1.2.1 j (.inr hj)
  have o3 : ∀ i, i < mid → d3[i]! = d2[i]! := fun i hi => h23.1.2.1 i (.inl hi)
  have sL : SortedIn lt a mid d2 := h12.2 sA1 sB1
  have sR : SortedIn lt mid b d3 := h23.2 (fun i j hi hij hj => by rw [o2 j (by omega), o2 i hi]; exact sA2 i j hi hij hj) (fun i j hi hij hj => by rw [o2 j (by omega), o2 i (by omega)]; exact sB2 i j hi hij hj)
  have x2 := permIn_all d1 d2 a mid (fun x => ∀ j, mid ≤ j → j < b → lt d1[j]! x = false) (by omega) h12.1 cross
  have x3 := permIn_all d2 d3 mid b (fun y => ∀ i, a ≤ i → i < mid → lt y d2[i]! = false) (by omega) h23.1 (fun j hj hjb i hi him => by rw [o2 j hj]; exact x2 i hi him j hj hjb)
  intro i j hi hij hj
  by_cases hjm : j < mid
  · rw [o3 j hjm, o3 i (by omega)]; exact sL i j hi hij hjm
  · by_cases him : i < mid
    · rw [o3 i him]; exact x3 j (by omega) hj i hi him
    · exact sR i j (by omega) hij hj
/-- One element that has moved up to a place. -/
def MvUp (d : Array α) (a e : Nat) (d' : Array α) : Prop :=
  d'.size = d.size ∧ ∀ i, d'[i]! = if a ≤ i ∧ i < e then d[i + 1]! else if i = e then d[a]! else d[i]!
theorem MvUp.zero (d : Array α) (a : Nat) : MvUp d a a d := ⟨rfl, fun i => by rw [if_neg (by omega)]; split <;> simp_all⟩
theorem MvUp.step {d d1 : Array α} {a k : Nat} (h : MvUp d a k d1) (hak : a ≤ k) (hb : k + 1 < d.size) : MvUp d a (k + 1) (swp d1 k (k + 1)) := by
  obtain ⟨hs, h⟩ := h
  refine ⟨by rw [swp_size]; exact hs, fun i => ?_⟩
  rw [swp_get d1 (by omega) (by omega), h k, h (k + 1), h i]
  by_cases h1 : i = k + 1
  · subst h1
    rw [if_pos rfl, if_neg (by omega), if_pos rfl, if_neg (by omega), if_pos rfl]
  · rw [if_neg h1]
    by_cases h2 : i = k
    · subst h2
      rw [if_pos rfl, if_neg (by omega), if_neg (by omega), if_pos (by omega)]
    · rw [if_neg h2]
      by_cases h3 : a ≤ i ∧ i < k
      · rw [if_pos h3, if_pos (by omega)]
      · rw [if_neg h3, if_neg h2, if_neg (by omega), if_neg h1]
/-- One element that has moved down to a place. -/
def MvDn (d : Array α) (m e : Nat) (d' : Array α) : Prop :=
  d'.size = d.size ∧ ∀ i, d'[i]! = if e < i ∧ i ≤ m then d[i - 1]! else if i = e then d[m]! else d[i]!
theorem MvDn.zero (d : Array α) (m : Nat) : MvDn d m m d := ⟨rfl, fun i => by rw [if_neg (by omega)]; split <;> simp_all⟩
theorem MvDn.step {d d1 : Array α} {m k : Nat} (h : MvDn d m (k + 1) d1) (hkm : k + 1 ≤ m) (hb : m < d.size) : MvDn d m k (swp d1 (k + 1) k) := by
  obtain ⟨hs, h⟩ := h
  refine ⟨by rw [swp_size]; exact hs, fun i => ?_⟩
  rw [swp_get d1 (by omega) (by omega), h k, h (k + 1), h i]
  by_cases h1 : i = k
  · subst h1
    rw [if_pos rfl, if_neg (by omega), if_pos rfl, if_neg (by omega), if_pos rfl]
  · rw [if_neg h1]
    by_cases h2 : i = k + 1
    · subst h2
      rw [if_pos rfl, if_neg (by omega), if_neg (by omega), if_pos (by omega)]
      congr 1
    · rw [if_neg h2]
      by_cases h3 : k + 1 < i ∧ i ≤ m
      · rw [if_pos h3, if_pos (by omega)]
      · rw [if_neg h3, if_neg h2, if_neg (by omega), if_neg h1]
theorem merge_up (hS : SWO lt) {d d' : Array α} {a b i : Nat} (hai : a + 1 ≤ i) (hib : i ≤ b) (hp : PermIn a b d d') (hm : MvUp d a (i - 1) d')
    (s1 : i = a + 1 ∨ lt d[i - 1]! d[a]! = true) (s2 : i = b ∨ lt d[i]! d[a]! = false) : MergeOk lt a (a + 1) b d d' := by
  refine ⟨hp, fun _ hB => ?_⟩
  obtain ⟨_, h⟩ := hm
  intro p q hp hpq hq
  rw [h p, h q]
  by_cases h1 : q < i - 1
  · rw [if_pos (by omega), if_pos (by omega)]; exact hB _ _ (by omega) (by omega) (by omega)
  · by_cases h2 : q = i - 1
    · rw [if_neg (show ¬ (a ≤ q ∧ q < i - 1) by omega), if_pos h2, if_pos (by omega)]
      rcases s1 with h3 | h3
      · omega
      · exact hS.ntrans _ _ _ (hS.asymmA h3) (SortedIn.at hS hB (by omega) (by omega) (by omega))
    · rw [if_neg (show ¬ (a ≤ q ∧ q < i - 1) by omega), if_neg h2]
      by_cases h3 : p < i - 1
      · rw [if_pos (by omega)]; exact SortedIn.at hS hB (by omega) (by omega) hq
      · rw [if_neg (by omega)]
        by_cases h4 : p = i - 1
        · rw [if_pos h4]
          rcases s2 with h5 | h5
          · omega
          · exact hS.ntrans _ _ _ (SortedIn.at hS hB (show a + 1 ≤ i by omega) (by omega) hq) h5
        · rw [if_neg h4]; exact hB p q (by omega) hpq hq
theorem merge_dn (hS : SWO lt) {d d' : Array α} {a m i : Nat} (hai : a ≤ i) (him : i ≤ m) (hp : PermIn a (m + 1) d d') (hm : MvDn d m i d')
    (s1 : i = a ∨ lt d[m]! d[i - 1]! = false) (s2 : i = m ∨ lt d[m]! d[i]! = true) : MergeOk lt a m (m + 1) d d' := by
  refine ⟨hp, fun hA _ => ?_⟩
  obtain ⟨_, h⟩ := hm
  intro p q hp hpq hq
  rw [h p, h q]
  by_cases h1 : q < i
  · rw [if_neg (by omega), if_neg (by omega), if_neg (by omega), if_neg (by omega)]; exact hA _ _ hp hpq (by omega)
  · by_cases h2 : q = i
    · rw [if_neg (show ¬ (i < q ∧ q ≤ m) by omega), if_pos h2, if_neg (by omega), if_neg (by omega)]
      rcases s1 with h3 | h3
      · omega
      · exact hS.ntrans _ _ _ h3 (SortedIn.at hS hA hp (by omega) (by omega))
    · rw [if_pos (show i < q ∧ q ≤ m by omega)]
      by_cases h3 : p < i
      · rw [if_neg (by omega), if_neg (by omega)]; exact SortedIn.at hS hA hp (by omega) (by omega)
      · by_cases h4 : p = i
        · rw [if_neg (by omega), if_pos h4]
          rcases s2 with h5 | h5
          · omega
          · exact hS.ntrans _ _ _ (SortedIn.at hS hA (by omega) (show i ≤ q - 1 by omega) (by omega)) (hS.asymmA h5)
        · rw [if_pos (by omega)]; exact hA _ _ (by omega) (by omega) (by omega)
/-- Blocks that are sorted, each of a size, up to an end. -/
def Blocks (lt : α → α → Bool) (s n : Nat) (d : Array α) : Prop := ∀ i, SortedIn lt (i * s) (min ((i + 1) * s) n) d
end Go.Proofs.Ytjomjlodmelnbaa

/- Layer 16, plain: rows' entries in order, those that are lifted, which rows may be next. No program in sight; no condition but what each says. -/
namespace Go.Proofs.Ytjomjlodmelnbaa
open Go.Sort

/-- What layer 16 reads of a row. -/
structure ERow where
  frm : Int
  to : Int
  st : Nat
def ERow.done (r : ERow) : Bool := decide (r.st = 1)
/-- A call's entry, or a return's. -/
structure Ent where
  row : Nat
  at_ : Int
  call : Bool
  deriving DecidableEq
instance : Inhabited Ent := ⟨⟨0, 0, false⟩⟩
def Ent.kind (e : Ent) : Int := if e.call then 0 else 1
def cmpI (a b : Int) : Int := if a < b then -1 else if b < a then 1 else 0
def orI (a b c : Int) : Int := if a ≠ 0 then a else if b ≠ 0 then b else c
def entCmp (a b : Ent) : Int := orI (cmpI a.at_ b.at_) (cmpI a.kind b.kind) (cmpI a.row b.row)
def entLt (a b : Ent) : Bool := decide (entCmp a b < 0)
theorem cmpI_neg {a b : Int} : cmpI a b < 0 ↔ a < b := by unfold cmpI; split <;> (try split) <;> omega
theorem cmpI_zero {a b : Int} : cmpI a b = 0 ↔ a = b := by unfold cmpI; split <;> (try split) <;> omega
theorem entLt_iff {a b : Ent} : entLt a b = true ↔ a.at_ < b.at_ ∨ (a.at_ = b.at_ ∧ (a.kind < b.kind ∨ (a.kind = b.kind ∧ a.row < b.row))) := by
  unfold entLt entCmp orI
  rw [decide_eq_true_eq]
  by_cases h1 : cmpI a.at_ b.at_ = 0
  · rw [if_neg (by simpa using h1)]
    have e1 := cmpI_zero.1 h1
    by_cases h2 : cmpI a.kind b.kind = 0
    · rw [if_neg (by simpa using h2), cmpI_neg]
      have e2 := cmpI_zero.1 h2
      omega
    · rw [if_pos h2, cmpI_neg]
      have e2 : a.kind ≠ b.kind := fun e => h2 (cmpI_zero.2 e)
      omega
  · rw [if_pos h1, cmpI_neg]
    have e1 : a.at_ ≠ b.at_ := fun e => h1 (cmpI_zero.2 e)
    omega
theorem kind_cases (e : Ent) : e.kind = 0 ∧ e.call = true ∨ e.kind = 1 ∧ e.call = false := by
  unfold Ent.kind
  cases e.call <;> simp
theorem ent_ext {a b : Ent} (h1 : a.row = b.row) (h2 : a.at_ = b.at_) (h3 : a.kind = b.kind) : a = b := by
  obtain ⟨r, t, c⟩ := a
  obtain ⟨r', t', c'⟩ := b
  simp only at h1 h2
  subst h1 h2
  cases c <;> cases c' <;> simp [Ent.kind] at h3 ⊢
theorem entLt_false {a b : Ent} : entLt a b = false ↔ ¬ (a.at_ < b.at_ ∨ (a.at_ = b.at_ ∧ (a.kind < b.kind ∨ (a.kind = b.kind ∧ a.row < b.row)))) := by
  rw [← entLt_iff]; simp
theorem swo_ent : SWO entLt where
  irrefl x := by rw [entLt_false]; omega
  trans x y z h1 h2 := by rw [entLt_iff] at *; omega
  ntrans x y z h1 h2 := by rw [entLt_false] at *; omega
theorem ent_anti (x y : Ent) (h1 : entLt x y = false) (h2 : entLt y x = false) : x = y := by
  rw [entLt_false] at h1 h2
  exact ent_ext (by omega) (by omega) (by omega)
/-- A row's entries. -/
def entsOf (i : Nat) (r : ERow) : List Ent := ⟨i, r.frm, true⟩ :: if r.done then [⟨i, r.to, false⟩] else []
/-- The entries of the first rows. -/
def entsTo (rs : List ERow) (k : Nat) : List Ent := (List.range k).flatMap fun i => match rs[i]? with | some r => entsOf i r | none => []
theorem entsTo_succ {rs : List ERow} {k : Nat} (h : k < rs.length) : entsTo rs (k + 1) = entsTo rs k ++ entsOf k rs[k] := by
  unfold entsTo
  rw [List.range_succ, List.flatMap_append]
  simp [h]
theorem mem_entsOf {i : Nat} {r : ERow} {e : Ent} : e ∈ entsOf i r ↔ e.row = i ∧ ((e.call = true ∧ e.at_ = r.frm) ∨ (e.call = false ∧ r.done = true ∧ e.at_ = r.to)) := by
  obtain ⟨a, b, c⟩ := e
  unfold entsOf
  cases hd : r.done <;> cases c <;> simp <;> omega
theorem mem_entsTo {rs : List ERow} {k : Nat} {e : Ent} (hk : k ≤ rs.length) : e ∈ entsTo rs k ↔ ∃ h : e.row < rs.length, e.row < k ∧ ((e.call = true ∧ e.at_ = rs[e.row].frm) ∨ (e.call = false ∧ rs[e.row].done = true ∧ e.at_ = rs[e.row].to)) := by
  unfold entsTo
  rw [List.mem_flatMap]
  constructor
  · rintro ⟨i, hi, he⟩
    rw [List.mem_range] at hi
    have hi2 : i < rs.length := by omega
    simp only [hi2, List.getElem?_eq_getElem] at he
    obtain ⟨rfl, h2⟩ := mem_entsOf.1 he
    exact ⟨hi2, hi, h2⟩
  · rintro ⟨h, hk, h2⟩
    refine ⟨e.row, List.mem_range.2 hk, ?_⟩
    simp only [h, List.getElem?_eq_getElem]
    exact mem_entsOf.2 ⟨rfl, h2⟩
def ents (rs : List ERow) : List Ent := entsTo rs rs.length
theorem mem_ents {rs : List ERow} {e : Ent} : e ∈ ents rs ↔ ∃ h : e.row < rs.length, ((e.call = true ∧ e.at_ = rs[e.row].frm) ∨ (e.call = false ∧ rs[e.row].done = true ∧ e.at_ = rs[e.row].to)) := by
  unfold ents
  rw [mem_entsTo (Nat.le_refl _)]
  constructor
  · rintro ⟨h, _, h2⟩; exact ⟨h, h2⟩
  · rintro ⟨h, h2⟩; exact ⟨h, h, h2⟩
theorem entsTo_nodup (rs : List ERow) : ∀ k, k ≤ rs.length → (entsTo rs k).Nodup
  | 0, _ => by simp [entsTo]
  | k + 1, h => by
    rw [entsTo_succ (by omega), List.nodup_append]
    refine ⟨entsTo_nodup rs k (by omega), ?_, fun a ha b hb hab => ?_⟩
    · unfold entsOf; split <;> simp
    · subst hab
      obtain ⟨_, h1, _⟩ := (mem_entsTo (by omega)).1 ha
      have := (mem_entsOf.1 hb).1
      omega
/-- All entries, in order. -/
def inOrder (rs : List ERow) : List Ent := (ents rs).mergeSort fun x y => !entLt y x
theorem mem_inOrder {rs : List ERow} {e : Ent} : e ∈ inOrder rs ↔ e ∈ ents rs := (List.mergeSort_perm _ _).mem_iff
theorem inOrder_nodup (rs : List ERow) : (inOrder rs).Nodup := (List.mergeSort_perm _ _).nodup_iff.2 (entsTo_nodup rs _ (Nat.le_refl _))
theorem inOrder_sorted (rs : List ERow) : (inOrder rs).Pairwise fun x y => entLt x y = true := by
  have h1 : (inOrder rs).Pairwise fun x y => (!entLt y x) = true := by
    refine List.pairwise_mergeSort ?_ ?_ _
    · intro a b c h1 h2
      simp only [Bool.not_eq_true'] at h1 h2 ⊢
      exact swo_ent.ntrans c b a h2 h1
    · intro a b
      cases h : entLt b a with
      | false => simp
      | true => simp [swo_ent.asymmA h]
  refine (h1.and (inOrder_nodup rs)).imp fun {a b} ⟨h, hne⟩ => ?_
  cases h2 : entLt a b with
  | true => rfl
  | false => exact absurd (ent_anti a b h2 (by simpa using h)) hne
/-- What a takeWhile over a list in order holds. -/
theorem mem_takeWhile {l : List Ent} (hs : l.Pairwise fun x y => entLt x y = true) (p : Ent → Bool) (e : Ent) : e ∈ l.takeWhile p ↔ e ∈ l ∧ p e = true ∧ ∀ f ∈ l, entLt f e = true → p f = true := by
  induction l with
  | nil => simp
  | cons a l ih =>
    rw [List.pairwise_cons] at hs
    rw [List.takeWhile_cons]
    cases hp : p a with
    | true =>
      simp only [if_true, List.mem_cons]
      constructor
      · rintro (rfl | h)
        · refine ⟨.inl rfl, hp, fun f hf hl => ?_⟩
          rcases hf with rfl | hf
          · exact hp
          · have h1 := hs.1 f hf
            rw [swo_ent.asymmA h1] at hl; cases hl
        · obtain ⟨h1, h2, h3⟩ := (ih hs.2).1 h
          refine ⟨.inr h1, h2, fun f hf hl => ?_⟩
          rcases hf with rfl | hf
          · exact hp
          · exact h3 f hf hl
      · rintro ⟨h1, h2, h3⟩
        rcases h1 with rfl | h1
        · exact .inl rfl
        · exact .inr ((ih hs.2).2 ⟨h1, h2, fun f hf hl => h3 f (.inr hf) hl⟩)
    | false =>
      simp only [Bool.false_eq_true, if_false, List.not_mem_nil, List.mem_cons, false_iff]
      rintro ⟨h1, h2, h3⟩
      rcases h1 with rfl | h1
      · rw [hp] at h2; cases h2
      · have := h3 a (.inl rfl) (hs.1 e h1)
        rw [hp] at this; cases this
/-- The entries of rows that are not lifted. -/
def present (rs : List ERow) (up : List Nat) : List Ent := (inOrder rs).filter fun e => !up.contains e.row
theorem present_sorted (rs : List ERow) (up : List Nat) : (present rs up).Pairwise fun x y => entLt x y = true := (inOrder_sorted rs).filter _
theorem mem_present {rs : List ERow} {up : List Nat} {e : Ent} : e ∈ present rs up ↔ e ∈ ents rs ∧ e.row ∉ up := by
  unfold present
  rw [List.mem_filter, mem_inOrder]
  simp
/-- The calls ahead of all returns. -/
def heads (rs : List ERow) (up : List Nat) : List Ent := (present rs up).takeWhile (·.call)
/-- May a row be next? -/
def isNext (rs : List ERow) (up : List Nat) (i : Nat) : Prop := i ∉ up ∧ ∃ h : i < rs.length, ∀ k (hk : k < rs.length), k ∉ up → rs[k].done = true → ¬ rs[k].to < rs[i].frm
theorem mem_heads {rs : List ERow} {up : List Nat} {e : Ent} : e ∈ heads rs up ↔ e.call = true ∧ isNext rs up e.row ∧ ∃ h : e.row < rs.length, e.at_ = rs[e.row].frm := by
  unfold heads
  rw [mem_takeWhile (present_sorted rs up), mem_present, mem_ents]
  constructor
  · rintro ⟨⟨⟨h, h1⟩, h2⟩, h3, h4⟩
    have ha : e.at_ = rs[e.row].frm := by
      rcases h1 with h1 | h1
      · exact h1.2
      · rw [h3] at h1; cases h1.1
    refine ⟨h3, ⟨h2, h, fun k hk hku hd hlt => ?_⟩, h, ha⟩
    have := h4 ⟨k, rs[k].to, false⟩ (mem_present.2 ⟨mem_ents.2 ⟨hk, .inr ⟨rfl, hd, rfl⟩⟩, hku⟩) (entLt_iff.2 (.inl (by rw [ha]; exact hlt)))
    cases this
  · rintro ⟨h1, ⟨h2, h, h3⟩, _, h4⟩
    refine ⟨⟨⟨h, .inl ⟨h1, h4⟩⟩, h2⟩, h1, fun f hf hl => ?_⟩
    cases hc : f.call with
    | true => rfl
    | false =>
      exfalso
      obtain ⟨hf1, hf2⟩ := mem_present.1 hf
      obtain ⟨hk, hr⟩ := mem_ents.1 hf1
      rcases hr with hr | hr
      · rw [hc] at hr; cases hr.1
      · have h5 := h3 f.row hk hf2 hr.2.1
        rw [entLt_iff] at hl
        have k1 : f.kind = 1 := by rcases kind_cases f with h | h <;> simp_all
        have k2 : e.kind = 0 := by rcases kind_cases e with h | h <;> simp_all
        omega
/-- The rows that may be next, in order. -/
def nexts (rs : List ERow) (up : List Nat) : List Nat := (heads rs up).map (·.row)
theorem mem_nexts {rs : List ERow} {up : List Nat} {i : Nat} : i ∈ nexts rs up ↔ isNext rs up i := by
  unfold nexts
  rw [List.mem_map]
  constructor
  · rintro ⟨e, he, rfl⟩; exact (mem_heads.1 he).2.1
  · intro h
    obtain ⟨h1, h2, h3⟩ := id h
    exact ⟨⟨i, rs[i].frm, true⟩, mem_heads.2 ⟨rfl, h, h2, rfl⟩, rfl⟩
/-- Is a row's call ahead of another one's? -/
def earlier (rs : List ERow) (i k : Nat) : Prop := ∃ (h : i < rs.length) (h2 : k < rs.length), rs[i].frm < rs[k].frm ∨ (rs[i].frm = rs[k].frm ∧ i < k)
theorem earlier_irrefl {rs : List ERow} {i : Nat} : ¬ earlier rs i i := by rintro ⟨h, h2, h3⟩; omega
theorem earlier_trans {rs : List ERow} {i j k : Nat} (h : earlier rs i j) (h' : earlier rs j k) : earlier rs i k := by
  obtain ⟨h1, h2, h3⟩ := h
  obtain ⟨h4, h5, h6⟩ := h'
  exact ⟨h1, h5, by omega⟩
theorem earlier_total {rs : List ERow} {i k : Nat} (h : i < rs.length) (h2 : k < rs.length) (hne : i ≠ k) : earlier rs i k ∨ earlier rs k i := by
  by_cases h3 : rs[i].frm < rs[k].frm ∨ (rs[i].frm = rs[k].frm ∧ i < k)
  · exact .inl ⟨h, h2, h3⟩
  · exact .inr ⟨h2, h, by omega⟩
theorem nexts_sorted (rs : List ERow) (up : List Nat) : (nexts rs up).Pairwise (earlier rs) := by
  unfold nexts
  rw [List.pairwise_map]
  have h1 : (heads rs up).Pairwise fun x y => entLt x y = true := (present_sorted rs up).sublist (List.takeWhile_sublist _)
  refine h1.imp_of_mem fun {a b} ha hb h => ?_
  obtain ⟨a1, _, a2, a3⟩ := mem_heads.1 ha
  obtain ⟨b1, _, b2, b3⟩ := mem_heads.1 hb
  refine ⟨a2, b2, ?_⟩
  rw [entLt_iff] at h
  have k1 : a.kind = 0 := by rcases kind_cases a with h | h <;> simp_all
  have k2 : b.kind = 0 := by rcases kind_cases b with h | h <;> simp_all
  omega
/-- Two lists in order that hold the same are the same. -/
theorem sorted_ext {rs : List ERow} : ∀ {l m : List Nat}, l.Pairwise (earlier rs) → m.Pairwise (earlier rs) → (∀ i, i ∈ l ↔ i ∈ m) → l = m
  | [], [], _, _, _ => rfl
  | [], b :: m, _, _, h => by have := (h b).2 (by simp); cases this
  | a :: l, [], _, _, h => by have := (h a).1 (by simp); cases this
  | a :: l, b :: m, hl, hm, h => by
    rw [List.pairwise_cons] at hl hm
    have hab : a = b := by
      have h1 := (h a).1 (by simp)
      have h2 := (h b).2 (by simp)
      rw [List.mem_cons] at h1 h2
      rcases h1 with h1 | h1
      · exact h1
      · rcases h2 with h2 | h2
        · exact h2.symm
        · exact absurd (earlier_trans (hl.1 b h2) (hm.1 a h1)) earlier_irrefl
    subst hab
    have : l = m := sorted_ext hl.2 hm.2 fun i => by
      have := h i
      simp only [List.mem_cons] at this
      constructor
      · intro hi
        rcases this.1 (.inr hi) with rfl | h1
        · exact absurd (hl.1 i hi) earlier_irrefl
        · exact h1
      · intro hi
        rcases this.2 (.inr hi) with rfl | h1
        · exact absurd (hm.1 i hi) earlier_irrefl
        · exact h1
    rw [this]
/-- Rows that may not be searched. -/
def badRow (r : ERow) : Bool := r.done && decide (r.to ≤ r.frm)
def mayRows (rs : List ERow) : Bool := !rs.any badRow
theorem mayRows_at {rs : List ERow} (h : mayRows rs = true) {k : Nat} (hk : k < rs.length) (hd : rs[k].done = true) : rs[k].frm < rs[k].to := by
  unfold mayRows at h
  rw [Bool.not_eq_true', List.any_eq_false] at h
  have := h _ (List.getElem_mem hk)
  unfold badRow at this
  simp [hd] at this
  exact this
/-- As long as not all rows are lifted, one may be next. -/
theorem nexts_some {rs : List ERow} (hm : mayRows rs = true) {up : List Nat} {i : Nat} (hi : i < rs.length) (hu : i ∉ up) : nexts rs up ≠ [] := by
  intro h0
  have hp : ∃ e ∈ present rs up, e.call = true := ⟨⟨i, rs[i].frm, true⟩, mem_present.2 ⟨mem_ents.2 ⟨hi, .inl ⟨rfl, rfl⟩⟩, hu⟩, rfl⟩
  cases hP : present rs up with
  | nil => rw [hP] at hp; obtain ⟨e, he, _⟩ := hp; cases he
  | cons e l =>
    have he : e ∈ present rs up := by rw [hP]; simp
    have hs := present_sorted rs up
    rw [hP, List.pairwise_cons] at hs
    obtain ⟨h1, h2⟩ := mem_present.1 he
    obtain ⟨h3, h4⟩ := mem_ents.1 h1
    have hc : e.call = true := by
      rcases h4 with h4 | ⟨h4, hd, h5⟩
      · exact h4.1
      · exfalso
        have hf : (⟨e.row, rs[e.row].frm, true⟩ : Ent) ∈ present rs up := mem_present.2 ⟨mem_ents.2 ⟨h3, .inl ⟨rfl, rfl⟩⟩, h2⟩
        rw [hP] at hf
        have hlt := mayRows_at hm h3 hd
        rcases List.mem_cons.1 hf with h6 | h6
        · rw [← h6] at h4; cases h4
        · have := entLt_iff.1 (hs.1 _ h6)
          simp only at this
          omega
    have : e.row ∈ nexts rs up := by
      unfold nexts heads
      rw [hP, List.takeWhile_cons, if_pos hc]
      simp
    rw [h0] at this
    cases this
end Go.Proofs.Ytjomjlodmelnbaa

/- Layer 16, plain: the document's list of rows, its inserting; what stands behind a row; places. No program in sight; no condition but what each says. -/
namespace Go.Proofs.Ytjomjlodmelnbaa
open Go.Sort

/-- Does a row stand before another one? -/
def beforeB (a b : ERow) : Bool := a.done && decide (a.to < b.frm)
def nextB (rs : List ERow) (up : List Nat) (i : Nat) : Bool := !up.contains i && match rs[i]? with | some r => (List.range rs.length).all (fun k => up.contains k || (match rs[k]? with | some q => !beforeB q r | none => true)) | none => false
theorem nextB_iff {rs : List ERow} {up : List Nat} {i : Nat} : nextB rs up i = true ↔ isNext rs up i := by
  unfold nextB isNext
  rw [Bool.and_eq_true]
  constructor
  · rintro ⟨h1, h2⟩
    cases hi : rs[i]? with
    | none => rw [hi] at h2; cases h2
    | some r =>
      rw [hi] at h2
      obtain ⟨h3, rfl⟩ := List.getElem?_eq_some_iff.1 hi
      refine ⟨by simpa using h1, h3, fun k hk hu hd hlt => ?_⟩
      have := List.all_eq_true.1 h2 k (by simpa using hk)
      simp only [hk, List.getElem?_eq_getElem] at this
      unfold beforeB at this
      rw [hd] at this
      simp [hu] at this
      omega
  · rintro ⟨h1, h3, h2⟩
    refine ⟨by simpa using h1, ?_⟩
    simp only [h3, List.getElem?_eq_getElem]
    rw [List.all_eq_true]
    intro k hk
    rw [List.mem_range] at hk
    simp only [hk, List.getElem?_eq_getElem]
    by_cases hu : k ∈ up
    · simp [hu]
    · unfold beforeB
      cases hd : rs[k].done with
      | false => simp
      | true => have := h2 k hk hu hd; simp [hu]; omega
def earlierB (rs : List ERow) (i k : Nat) : Bool := match rs[i]?, rs[k]? with | some a, some b => decide (a.frm < b.frm) || (decide (a.frm = b.frm) && decide (i < k)) | _, _ => false
theorem earlierB_iff {rs : List ERow} {i k : Nat} : earlierB rs i k = true ↔ earlier rs i k := by
  unfold earlierB earlier
  by_cases h : i < rs.length
  · by_cases h2 : k < rs.length
    · simp [h, h2]
    · simp [h, h2]
  · simp [h]
/-- A row is put into a list in order. -/
def insE (rs : List ERow) (out : List Nat) (i : Nat) : List Nat := out.takeWhile (fun k => earlierB rs k i) ++ i :: out.dropWhile fun k => earlierB rs k i
/-- The document's rows that may be next, of the first ones. -/
def refTo (rs : List ERow) (up : List Nat) : Nat → List Nat
  | 0 => []
  | n + 1 => if nextB rs up n then insE rs (refTo rs up n) n else refTo rs up n
theorem mem_insE {rs : List ERow} {out : List Nat} {i k : Nat} : k ∈ insE rs out i ↔ k = i ∨ k ∈ out := by
  unfold insE
  have := List.takeWhile_append_dropWhile (p := fun k => earlierB rs k i) (l := out)
  constructor
  · intro h
    rw [List.mem_append, List.mem_cons] at h
    rcases h with h | h | h
    · exact .inr (this ▸ List.mem_append_left _ h)
    · exact .inl h
    · exact .inr (this ▸ List.mem_append_right _ h)
  · intro h
    rw [List.mem_append, List.mem_cons]
    rcases h with h | h
    · exact .inr (.inl h)
    · rw [← this, List.mem_append] at h
      rcases h with h | h
      · exact .inl h
      · exact .inr (.inr h)
theorem takeWhile_imp {α : Type} {p : α → Bool} : ∀ {l : List α} {a : α}, a ∈ l.takeWhile p → p a = true
  | b :: l, a, h => by
    rw [List.takeWhile_cons] at h
    split at h
    · rcases List.mem_cons.1 h with rfl | h
      · assumption
      · exact takeWhile_imp h
    · cases h
theorem insE_sorted {rs : List ERow} {out : List Nat} {i : Nat} (h : out.Pairwise (earlier rs)) (hi : i < rs.length) (hr : ∀ k ∈ out, k < rs.length ∧ k ≠ i) : (insE rs out i).Pairwise (earlier rs) := by
  unfold insE
  have e := List.takeWhile_append_dropWhile (p := fun k => earlierB rs k i) (l := out)
  rw [List.pairwise_append, List.pairwise_cons]
  have hs := h
  rw [← e, List.pairwise_append] at hs
  obtain ⟨h1, h2, h3⟩ := hs
  have ht : ∀ a ∈ out.takeWhile (fun k => earlierB rs k i), earlier rs a i := fun a ha => earlierB_iff.1 (takeWhile_imp (p := fun k => earlierB rs k i) ha)
  have hd : ∀ b ∈ out.dropWhile (fun k => earlierB rs k i), earlier rs i b := by
    intro b hb
    cases hdw : out.dropWhile (fun k => earlierB rs k i) with
    | nil => rw [hdw] at hb; cases hb
    | cons c m =>
      rw [hdw] at hb h2
      have hc : earlierB rs c i = false := by
        have := List.head?_dropWhile_not (fun k => earlierB rs k i) out
        rw [hdw] at this
        simpa using this
      have hcm : c ∈ out := by rw [← e, hdw]; simp
      obtain ⟨g1, g2⟩ := hr c hcm
      have hic : earlier rs i c := by
        rcases earlier_total g1 hi g2 with h | h
        · rw [earlierB_iff.2 h] at hc; cases hc
        · exact h
      rw [List.pairwise_cons] at h2
      rcases List.mem_cons.1 hb with rfl | hb
      · exact hic
      · exact earlier_trans hic (h2.1 b hb)
  refine ⟨h1, ⟨hd, h2⟩, fun a ha b hb => ?_⟩
  rcases List.mem_cons.1 hb with rfl | hb
  · exact ht a ha
  · exact h3 a ha b hb
theorem refTo_spec (rs : List ERow) (up : List Nat) : ∀ n, n ≤ rs.length → (refTo rs up n).Pairwise (earlier rs) ∧ ∀ i, i ∈ refTo rs up n ↔ i < n ∧ isNext rs up i
  | 0, _ => ⟨List.Pairwise.nil, fun i => by simp [refTo]⟩
  | n + 1, h => by
    obtain ⟨h1, h2⟩ := refTo_spec rs up n (by omega)
    unfold refTo
    split
    · rename_i hn
      refine ⟨insE_sorted h1 (by omega) fun k hk => by have := ((h2 k).1 hk).1; omega, fun i => ?_⟩
      rw [mem_insE, h2 i]
      constructor
      · rintro (rfl | ⟨h3, h4⟩)
        · exact ⟨by omega, nextB_iff.1 hn⟩
        · exact ⟨by omega, h4⟩
      · rintro ⟨h3, h4⟩
        by_cases he : i = n
        · exact .inl he
        · exact .inr ⟨by omega, h4⟩
    · rename_i hn
      refine ⟨h1, fun i => ?_⟩
      rw [h2 i]
      constructor
      · rintro ⟨h3, h4⟩; exact ⟨by omega, h4⟩
      · rintro ⟨h3, h4⟩
        by_cases he : i = n
        · subst he; exact absurd (nextB_iff.2 h4) hn
        · exact ⟨by omega, h4⟩
theorem refTo_nexts (rs : List ERow) (up : List Nat) : refTo rs up rs.length = nexts rs up := by
  obtain ⟨h1, h2⟩ := refTo_spec rs up rs.length (Nat.le_refl _)
  refine sorted_ext h1 (nexts_sorted rs up) fun i => ?_
  rw [h2, mem_nexts]
  exact ⟨fun h => h.2, fun h => ⟨h.2.1, h⟩⟩
theorem refTo_len (rs : List ERow) (up : List Nat) : ∀ n, (refTo rs up n).length ≤ n
  | 0 => Nat.le_refl _
  | n + 1 => by
    have h := refTo_len rs up n
    unfold refTo
    split
    · unfold insE
      have := congrArg List.length (List.takeWhile_append_dropWhile (p := fun k => earlierB rs k n) (l := refTo rs up n))
      rw [List.length_append] at this
      rw [List.length_append, List.length_cons]
      omega
    · omega
/-- The place of a row's call among all entries. -/
def placeOf (rs : List ERow) (i : Nat) : Nat := (inOrder rs).findIdx fun e => e.call && e.row == i
theorem call_mem {rs : List ERow} {i : Nat} (h : i < rs.length) : (⟨i, rs[i].frm, true⟩ : Ent) ∈ inOrder rs := mem_inOrder.2 (mem_ents.2 ⟨h, .inl ⟨rfl, rfl⟩⟩)
theorem placeOf_lt {rs : List ERow} {i : Nat} (h : i < rs.length) : placeOf rs i < (inOrder rs).length := by
  unfold placeOf
  exact List.findIdx_lt_length_of_exists ⟨_, call_mem h, by simp⟩
theorem placeOf_at {rs : List ERow} {i : Nat} (h : i < rs.length) : (inOrder rs)[placeOf rs i]'(placeOf_lt h) = ⟨i, rs[i].frm, true⟩ := by
  have h1 : ((fun e : Ent => e.call && e.row == i) ((inOrder rs)[placeOf rs i]'(placeOf_lt h))) = true := List.findIdx_getElem (p := fun e : Ent => e.call && e.row == i)
  have hm := mem_ents.1 (mem_inOrder.1 (List.getElem_mem (placeOf_lt h)))
  generalize (inOrder rs)[placeOf rs i]'(placeOf_lt h) = e at h1 hm
  obtain ⟨r, t, c⟩ := e
  simp at h1
  obtain ⟨rfl, rfl⟩ := h1
  obtain ⟨h2, h3⟩ := hm
  simp at h3
  rw [h3]
theorem placeOf_eq {rs : List ERow} {p : Nat} (hp : p < (inOrder rs).length) (hc : (inOrder rs)[p].call = true) : placeOf rs (inOrder rs)[p].row = p := by
  obtain ⟨h1, h2⟩ := mem_ents.1 (mem_inOrder.1 (List.getElem_mem hp))
  have ha := placeOf_at h1
  have he : (inOrder rs)[p] = ⟨(inOrder rs)[p].row, rs[(inOrder rs)[p].row].frm, true⟩ := by
    rcases h2 with h2 | h2
    · exact ent_ext rfl h2.2 (by simp [Ent.kind, hc])
    · rw [hc] at h2; cases h2.1
  exact (List.getElem_inj (inOrder_nodup rs)).1 (ha.trans he.symm)
theorem placeOf_lt_iff {rs : List ERow} {i k : Nat} (hi : i < rs.length) (hk : k < rs.length) : placeOf rs i < placeOf rs k ↔ earlier rs i k := by
  have hs := List.pairwise_iff_getElem.1 (inOrder_sorted rs)
  have key : ∀ {i k : Nat} (hi : i < rs.length) (hk : k < rs.length), placeOf rs i < placeOf rs k → earlier rs i k := by
    intro i k hi hk h
    have := hs _ _ (placeOf_lt hi) (placeOf_lt hk) h
    rw [placeOf_at hi, placeOf_at hk, entLt_iff] at this
    simp [Ent.kind] at this
    exact ⟨hi, hk, this⟩
  constructor
  · exact key hi hk
  · intro h
    rcases Nat.lt_trichotomy (placeOf rs i) (placeOf rs k) with h1 | h1 | h1
    · exact h1
    · exfalso
      have e1 := placeOf_at hi
      have e2 := placeOf_at hk
      simp only [h1] at e1
      rw [e1] at e2
      have : i = k := congrArg Ent.row e2
      subst this
      exact earlier_irrefl h
    · exact absurd (earlier_trans h (key hk hi h1)) earlier_irrefl
/-- The rows that may be next, behind a place. -/
def nextsBehind (rs : List ERow) (up : List Nat) (place : Int) : List Nat := (nexts rs up).filter fun k => decide (place < placeOf rs k)
theorem nextsBehind_all (rs : List ERow) (up : List Nat) : nextsBehind rs up (-1) = nexts rs up := by
  unfold nextsBehind
  rw [List.filter_eq_self]
  intro k _
  simp; omega
theorem nextsBehind_row (rs : List ERow) (up : List Nat) {i : Nat} (hi : i < rs.length) : nextsBehind rs up (placeOf rs i) = (nexts rs up).filter fun k => earlierB rs i k := by
  unfold nextsBehind
  refine List.filter_congr fun k hk => ?_
  have hk2 := (mem_nexts.1 hk).2.1
  rw [Bool.eq_iff_iff, earlierB_iff, decide_eq_true_eq, ← placeOf_lt_iff hi hk2]
  omega
end Go.Proofs.Ytjomjlodmelnbaa
