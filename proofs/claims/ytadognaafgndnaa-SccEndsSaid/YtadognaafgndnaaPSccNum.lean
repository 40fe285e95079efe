/- Layer 28, plain: the numbers of components: the document's are the sorted groups' places. No program in sight; no condition but what each says. -/
import Derived.Test.YtadognaafgndnaaPSccP
set_option linter.all false
set_option linter.unusedVariables false
set_option linter.unusedSimpArgs false
set_option linter.unnecessarySimpa false
/- Layer 28, plain: the numbers of components: the document's are the sorted groups' places. No program in sight; no condition but what each says. -/
namespace Go.Proofs.Ytadognaafgndnaa

/-- Groups in order of their least nodes. -/
structure Parts (G : List (List Nat)) (S : List (List Nat)) : Prop where
  hsort : S.Pairwise fun x y => headN x < headN y
  mem : ∀ v, v < G.length → ∃ g ∈ S, v ∈ g
  lt : ∀ g ∈ S, ∀ v ∈ g, v < G.length
  sim : ∀ g ∈ S, ∀ a ∈ g, ∀ b, b ∈ g ↔ Rch G a b ∧ Rch G b a
  some_ : ∀ g ∈ S, g ≠ []
  least : ∀ g ∈ S, ∀ a ∈ g, headN g ≤ a
  srt : ∀ g ∈ S, g.Pairwise (· < ·)
theorem nodup_of_flatten {L : List (List Nat)} (h : L.flatten.Nodup) {g : List Nat} (hg : g ∈ L) : g.Nodup := by
  induction L with
  | nil => cases hg
  | cons a L ih =>
    rw [List.flatten_cons, List.nodup_append] at h
    rcases List.mem_cons.1 hg with rfl | hg
    · exact h.1
    · exact ih h.2.1 hg
theorem lt_of_sorted {g : List Nat} (h : g.Pairwise (· ≤ ·)) (hn : g.Nodup) : g.Pairwise (· < ·) := (h.and hn).imp fun h => Nat.lt_of_le_of_ne h.1 h.2
theorem headN_least {g : List Nat} (h : g.Pairwise (· < ·)) {a : Nat} (ha : a ∈ g) : headN g ≤ a := by
  cases g with
  | nil => cases ha
  | cons x g =>
    rcases List.mem_cons.1 ha with rfl | ha
    · exact Nat.le_refl _
    · exact Nat.le_of_lt ((List.pairwise_cons.1 h).1 a ha)
theorem parts_of {G L : List (List Nat)} (H : IsGroups G L) : Parts G (sortG L) := by
  have hm : ∀ {g}, g ∈ sortG L ↔ g ∈ L := sortG_mem
  have hs : ∀ g ∈ sortG L, g.Pairwise (· < ·) := fun g hg => lt_of_sorted (H.srt g (hm.1 hg)) (nodup_of_flatten H.nodup (hm.1 hg))
  have sym : ∀ {x y : List Nat}, headN x ≠ headN y → headN y ≠ headN x := fun h e => h e.symm
  refine ⟨strict_of (sortG_sorted L) (((sortG_perm L).pairwise_iff sym).2 (heads_ne H.nodup H.some_)), fun v hv => ?_, fun g hg v hv => (H.all v).1 (List.mem_flatten.2 ⟨g, hm.1 hg, hv⟩), fun g hg => H.sccs g (hm.1 hg), fun g hg => H.some_ g (hm.1 hg), fun g hg a ha => headN_least (hs g hg) ha, hs⟩
  obtain ⟨g, hg, hv⟩ := List.mem_flatten.1 ((H.all v).2 hv)
  exact ⟨g, hm.2 hg, hv⟩
/-- How many groups begin below a node. -/
def cntH (S : List (List Nat)) (i : Nat) : Nat := (S.filter fun g => decide (headN g < i)).length
theorem cntH_cons (a : List Nat) (S : List (List Nat)) (i : Nat) : cntH (a :: S) i = (if headN a < i then 1 else 0) + cntH S i := by
  unfold cntH
  rw [List.filter_cons]
  by_cases h : headN a < i
  · simp [h]; omega
  · simp [h]
theorem cntH_none {S : List (List Nat)} {i : Nat} (h : ∀ g ∈ S, i ≤ headN g) : cntH S i = 0 := by
  induction S with
  | nil => rfl
  | cons a S ih =>
    rw [cntH_cons, ih fun g hg => h g (List.mem_cons_of_mem _ hg), if_neg (by have := h a List.mem_cons_self; omega)]
theorem cntH_all {S : List (List Nat)} {i : Nat} (h : ∀ g ∈ S, headN g < i) : cntH S i = S.length := by
  induction S with
  | nil => rfl
  | cons a S ih =>
    rw [cntH_cons, ih fun g hg => h g (List.mem_cons_of_mem _ hg), if_pos (h a List.mem_cons_self), List.length_cons]; omega
theorem cntH_le (S : List (List Nat)) (i : Nat) : cntH S i ≤ S.length := List.length_filter_le _ _
theorem cntH_mono (S : List (List Nat)) {i k : Nat} (h : i ≤ k) : cntH S i ≤ cntH S k := by
  induction S with
  | nil => exact Nat.le_refl _
  | cons a S ih => rw [cntH_cons, cntH_cons]; split <;> split <;> omega
theorem cntH_head : ∀ {S : List (List Nat)}, S.Pairwise (fun x y => headN x < headN y) → ∀ {j : Nat} (hj : j < S.length), cntH S (headN S[j]) = j ∧ cntH S (headN S[j] + 1) = j + 1
  | [], _, _, hj => by simp at hj
  | a :: S, h, j, hj => by
    obtain ⟨h1, h2⟩ := List.pairwise_cons.1 h
    cases j with
    | zero =>
      have e : ((a :: S)[0]) = a := rfl
      rw [e, cntH_cons, cntH_cons, if_neg (by omega), if_pos (by omega), cntH_none (fun g hg => Nat.le_of_lt (h1 g hg)), cntH_none (fun g hg => h1 g hg)]
      exact ⟨rfl, rfl⟩
    | succ j =>
      have hj' : j < S.length := by simpa using hj
      have e : (a :: S)[j + 1] = S[j] := rfl
      obtain ⟨g1, g2⟩ := cntH_head h2 hj'
      have h3 := h1 S[j] (List.getElem_mem hj')
      rw [e, cntH_cons, cntH_cons, g1, g2, if_pos h3, if_pos (by omega)]
      exact ⟨by omega, by omega⟩
theorem cntH_skip {S : List (List Nat)} {i : Nat} (h : ∀ g ∈ S, headN g ≠ i) : cntH S (i + 1) = cntH S i := by
  induction S with
  | nil => rfl
  | cons a S ih =>
    rw [cntH_cons, cntH_cons, ih fun g hg => h g (List.mem_cons_of_mem _ hg)]
    have := h a List.mem_cons_self
    split <;> split <;> omega
section
variable {G S : List (List Nat)} (H : Parts G S)
include H
theorem Parts.same {i j a : Nat} (hi : i < S.length) (hj : j < S.length) (h1 : a ∈ S[i]) (h2 : a ∈ S[j]) : i = j := by
  have e : headN S[i] = headN S[j] := by
    have m1 := List.getElem_mem hi
    have m2 := List.getElem_mem hj
    have a1 := headN_mem (H.some_ _ m1)
    have a2 := headN_mem (H.some_ _ m2)
    obtain ⟨r1, r2⟩ := (H.sim _ m1 _ h1 _).1 a1
    obtain ⟨r3, r4⟩ := (H.sim _ m2 _ h2 _).1 a2
    have b1 : headN S[i] ∈ S[j] := (H.sim _ m2 _ h2 _).2 ⟨r1, r2⟩
    have b2 : headN S[j] ∈ S[i] := (H.sim _ m1 _ h1 _).2 ⟨r3, r4⟩
    exact Nat.le_antisymm (H.least _ m1 _ b2) (H.least _ m2 _ b1)
  have c1 := (cntH_head H.hsort hi).1
  have c2 := (cntH_head H.hsort hj).1
  rw [e, c2] at c1
  exact c1.symm
theorem Parts.num {j a : Nat} (hj : j < S.length) (h : a ∈ S[j]) : numOf S a = j := by
  unfold numOf
  rw [List.findIdx_eq hj]
  refine ⟨by simpa using h, fun k hk => ?_⟩
  have hk' : k < S.length := by omega
  cases hc : (S[k]).contains a
  · rfl
  · have : a ∈ S[k] := by simpa using hc
    have := H.same hk' hj this h
    omega
/-- Each node has its group. -/
theorem Parts.at_ {a : Nat} (ha : a < G.length) : ∃ h : numOf S a < S.length, a ∈ S[numOf S a] := by
  obtain ⟨g, hg, h⟩ := H.mem a ha
  obtain ⟨j, hj, rfl⟩ := List.mem_iff_getElem.1 hg
  have e := H.num hj h
  have h1 : numOf S a < S.length := by rw [e]; exact hj
  refine ⟨h1, ?_⟩
  have : S[numOf S a] = S[j] := by congr 1
  rw [this]; exact h
theorem Parts.eq_iff {a b : Nat} (ha : a < G.length) (hb : b < G.length) : numOf S a = numOf S b ↔ Rch G a b ∧ Rch G b a := by
  obtain ⟨h1, h2⟩ := H.at_ ha
  obtain ⟨h3, h4⟩ := H.at_ hb
  constructor
  · intro e
    have : b ∈ S[numOf S a] := by
      have e2 : S[numOf S a] = S[numOf S b] := by congr 1
      rw [e2]; exact h4
    exact (H.sim _ (List.getElem_mem h1) _ h2 _).1 this
  · intro h
    exact (H.num h1 ((H.sim _ (List.getElem_mem h1) _ h2 _).2 h)).symm
/-- What a node's number is beside how many groups began ahead of it. -/
theorem Parts.step {i : Nat} (hi : i < G.length) : (numOf S i = cntH S i ∧ cntH S (i + 1) = cntH S i + 1 ∧ (∀ k, k < i → ¬ (Rch G i k ∧ Rch G k i))) ∨ (numOf S i < cntH S i ∧ cntH S (i + 1) = cntH S i ∧ ∃ k, k < i ∧ Rch G i k ∧ Rch G k i) := by
  obtain ⟨h1, h2⟩ := H.at_ hi
  have hm := List.getElem_mem h1
  have hl := H.least _ hm _ h2
  obtain ⟨c1, c2⟩ := cntH_head H.hsort h1
  have hh := headN_mem (H.some_ _ hm)
  by_cases e : headN S[numOf S i] = i
  · left
    refine ⟨?_, ?_, fun k hk hr => ?_⟩
    · rw [e] at c1; exact c1.symm
    · rw [e] at c1 c2; omega
    · have := H.least _ hm _ ((H.sim _ hm _ h2 _).2 hr)
      omega
  · right
    have c3 := cntH_mono S (show headN S[numOf S i] + 1 ≤ i by omega)
    refine ⟨by omega, cntH_skip fun g hg e2 => ?_, headN S[numOf S i], by omega, (H.sim _ hm _ h2 _).1 hh⟩
    obtain ⟨j, hj, rfl⟩ := List.mem_iff_getElem.1 hg
    have h3 := headN_mem (H.some_ _ hg)
    rw [e2] at h3
    have h4 := H.same hj h1 h3 h2
    subst h4
    exact e e2
theorem Parts.top : cntH S G.length = S.length := cntH_all fun g hg => H.lt g hg _ (headN_mem (H.some_ g hg))
end
theorem cntH_zero (S : List (List Nat)) : cntH S 0 = 0 := cntH_none fun _ _ => Nat.zero_le _
/-- The document's numbers: the last one ahead that has the same component, or a new number. -/
def lastR (r : Nat → Bool) (out : List Nat) : Nat → Option Nat
  | 0 => none
  | k + 1 => if r k then some (out.getD k 0) else lastR r out k
def docC (r : Nat → Nat → Bool) : Nat → List Nat × Nat
  | 0 => ([], 0)
  | i + 1 => match lastR (r i) (docC r i).1 i with
    | some c => ((docC r i).1 ++ [c], (docC r i).2)
    | none => ((docC r i).1 ++ [(docC r i).2], (docC r i).2 + 1)
theorem lastR_none {r : Nat → Bool} {out : List Nat} : ∀ {i : Nat}, (∀ k, k < i → r k = false) → lastR r out i = none
  | 0, _ => rfl
  | i + 1, h => by
    show (if r i then _ else _) = _
    rw [h i (by omega)]
    exact lastR_none fun k hk => h k (by omega)
theorem lastR_some {r : Nat → Bool} {out : List Nat} {c : Nat} : ∀ {i : Nat}, (∃ k, k < i ∧ r k = true) → (∀ k, k < i → r k = true → out.getD k 0 = c) → lastR r out i = some c
  | 0, h, _ => by obtain ⟨k, h1, _⟩ := h; omega
  | i + 1, h, hc => by
    show (if r i then _ else _) = _
    cases e : r i
    · obtain ⟨k, h1, h2⟩ := h
      have : k ≠ i := fun e2 => by subst e2; rw [e] at h2; cases h2
      exact lastR_some ⟨k, by omega, h2⟩ fun k hk => hc k (by omega)
    · rw [if_pos rfl, hc i (by omega) e]
theorem docC_is {G S : List (List Nat)} (H : Parts G S) {r : Nat → Nat → Bool} (hr : ∀ i k, i < G.length → k < G.length → (r i k = true ↔ Rch G i k ∧ Rch G k i)) : ∀ {i : Nat}, i ≤ G.length → docC r i = ((List.range i).map (numOf S), cntH S i)
  | 0, _ => by rw [cntH_zero]; rfl
  | i + 1, hi => by
    have ih := docC_is H hr (i := i) (by omega)
    have hg : ∀ k, k < i → ((List.range i).map (numOf S)).getD k 0 = numOf S k := fun k hk => by
      rw [List.getD, List.getElem?_map, List.getElem?_range hk]; rfl
    show (match lastR (r i) (docC r i).1 i with | some c => _ | none => _) = _
    rw [ih]
    rw [List.range_succ, List.map_append]
    rcases H.step (i := i) (by omega) with ⟨h1, h2, h3⟩ | ⟨h1, h2, k, hk, h3⟩
    · rw [lastR_none (fun k hk => by
        cases e : r i k
        · rfl
        · exact absurd ((hr i k (by omega) (by omega)).1 e) (h3 k hk))]
      show (_ ++ [cntH S i], cntH S i + 1) = _
      rw [h2, ← h1]; rfl
    · rw [lastR_some (c := numOf S i) ⟨k, hk, (hr i k (by omega) (by omega)).2 h3⟩ (fun k hk e => by
        rw [hg k hk]; exact ((H.eq_iff (by omega) (by omega)).2 ((hr i k (by omega) (by omega)).1 e)).symm)]
      show (_ ++ [numOf S i], cntH S i) = _
      rw [h2]; rfl
/-- Graphs that have the same ways have the same numbers. -/
theorem comps_same {G G' : List (List Nat)} (hG : MayG G) (hG' : MayG G') (hl : G'.length = G.length) (hr : ∀ a b, Rch G a b ↔ Rch G' a b) : compsOf G = compsOf G' := by
  have h1 := parts_of (groupsOf_is hG)
  have h2 := parts_of (groupsOf_is hG')
  classical
  have e1 := docC_is h1 (r := fun i k => decide (Rch G i k ∧ Rch G k i)) (fun i k _ _ => by simp) (Nat.le_refl _)
  have e2 := docC_is h2 (r := fun i k => decide (Rch G i k ∧ Rch G k i)) (fun i k _ _ => by simp [hr]) (Nat.le_refl _)
  rw [hl, e1] at e2
  have := congrArg Prod.fst e2
  unfold compsOf
  rw [hl]; exact this
theorem compsOf_length (G : List (List Nat)) : (compsOf G).length = G.length := by simp [compsOf]
theorem compsOf_at {G : List (List Nat)} {i : Nat} (h : i < G.length) : (compsOf G)[i]? = some (numOf (sortG (groupsOf G)) i) := by
  unfold compsOf
  rw [List.getElem?_map, List.getElem?_range h]; rfl
/-- Which ones turn. -/
def turnsG (G : List (List Nat)) (g : List Nat) : Bool := decide (1 < g.length) || (outs G (headN g)).contains (headN g)
def turnsOf (G : List (List Nat)) : List Bool := (sortG (groupsOf G)).map (turnsG G)
/-- Over one edge or more. -/
def Rch1 (G : List (List Nat)) (a b : Nat) : Prop := ∃ c, edge G a c ∧ Rch G c b
theorem Rch.one_of_ne {G : List (List Nat)} {a b : Nat} (h : Rch G a b) (hn : a ≠ b) : Rch1 G a b := by
  cases h with
  | refl => exact absurd rfl hn
  | step e r => exact ⟨_, e, r⟩
theorem Rch1.rch {G : List (List Nat)} {a b : Nat} (h : Rch1 G a b) : Rch G a b := by
  obtain ⟨c, e, r⟩ := h
  exact .step e r
/-- A component turns just if one of its nodes reaches itself. -/
theorem Parts.turns {G S : List (List Nat)} (H : Parts G S) {g : List Nat} (hg : g ∈ S) {a : Nat} (ha : a ∈ g) : turnsG G g = true ↔ Rch1 G a a := by
  have hh := headN_mem (H.some_ g hg)
  have hs : ∀ b ∈ g, Rch G a b ∧ Rch G b a := fun b hb => (H.sim g hg a ha b).1 hb
  unfold turnsG
  simp only [Bool.or_eq_true, decide_eq_true_eq, List.contains_iff_mem]
  constructor
  · rintro (h | h)
    · obtain ⟨b, hb, hne⟩ : ∃ b ∈ g, a ≠ b := by
        match g, h, H.srt g hg with
        | x :: y :: l, _, hp =>
          have hxy := (List.pairwise_cons.1 hp).1 y List.mem_cons_self
          by_cases e : a = x
          · exact ⟨y, by simp, by omega⟩
          · exact ⟨x, by simp, e⟩
      obtain ⟨h1, h2⟩ := hs b hb
      obtain ⟨c, e, r⟩ := h1.one_of_ne hne
      exact ⟨c, e, r.trans h2⟩
    · obtain ⟨h1, h2⟩ := hs _ hh
      have h3 : Rch1 G (headN g) a := ⟨_, h, h2⟩
      by_cases e : a = headN g
      · rw [← e] at h3; exact h3
      · obtain ⟨c, e2, r⟩ := h1.one_of_ne e
        exact ⟨c, e2, r.trans h2⟩
  · rintro ⟨c, e, r⟩
    have hc : c ∈ g := (H.sim g hg a ha c).2 ⟨.one e, r⟩
    by_cases hl : 1 < g.length
    · exact .inl hl
    · right
      match g, hl, hh, ha, hc with
      | [x], _, _, ha, hc =>
        rw [List.mem_singleton] at ha hc
        subst ha; subst hc
        exact e
      | x :: y :: l, hl, _, _, _ => exact absurd (by simp) hl
/-- Each edge leads to the same group, or to one that ended before. -/
theorem Ords.at_ {G L : List (List Nat)} (H : Ords G L) : ∀ {j : Nat} (h : j < L.length) {a u : Nat}, a ∈ L[j] → edge G a u → ∃ k, ∃ hk : k < L.length, k ≤ j ∧ u ∈ L[k] := by
  induction H with
  | nil => intro j h; simp at h
  | @snoc L g H0 hg ih =>
    intro j h a u ha he
    by_cases hj : j < L.length
    · rw [List.getElem_append_left hj] at ha
      obtain ⟨k, hk, h1, h2⟩ := ih hj ha he
      exact ⟨k, by simp; omega, h1, by rw [List.getElem_append_left hk]; exact h2⟩
    · have e : j = L.length := by simp at h; omega
      subst e
      rw [List.getElem_append_right (Nat.le_refl _)] at ha
      simp at ha
      rcases hg a ha u he with h1 | h1
      · obtain ⟨g', hg', hu⟩ := List.mem_flatten.1 h1
        obtain ⟨k, hk, rfl⟩ := List.mem_iff_getElem.1 hg'
        exact ⟨k, by simp; omega, by omega, by rw [List.getElem_append_left hk]; exact hu⟩
      · exact ⟨L.length, by simp, Nat.le_refl _, by rw [List.getElem_append_right (Nat.le_refl _)]; simpa using h1⟩
end Go.Proofs.Ytadognaafgndnaa

/- Layer 28, plain: who reaches whom, by going on until nothing is new: the document's Reach and the law's reaches. No program in sight; no condition but what each says. -/
namespace Go.Proofs.Ytadognaafgndnaa

def addB (f : Nat → Bool) (l : List Nat) : Nat → Bool := fun m => f m || l.contains m
def sweepTo (G : List (List Nat)) (f : Nat → Bool) : Nat → Nat → Bool
  | 0 => f
  | k + 1 => if sweepTo G f k k then addB (sweepTo G f k) (outs G k) else sweepTo G f k
def sweeps (G : List (List Nat)) (n : Nat) (f : Nat → Bool) : Nat → Nat → Bool
  | 0 => f
  | t + 1 => sweepTo G (sweeps G n f t) n
def oneB (i : Nat) : Nat → Bool := fun m => decide (m = i)
def reachB (G : List (List Nat)) (i : Nat) : Nat → Bool := sweeps G G.length (oneB i) G.length
theorem addB_mono {f : Nat → Bool} {l : List Nat} {m : Nat} (h : f m = true) : addB f l m = true := by unfold addB; rw [h]; rfl
theorem addB_mem {f : Nat → Bool} {l : List Nat} {m : Nat} (h : m ∈ l) : addB f l m = true := by unfold addB; rw [List.contains_iff_mem.2 h, Bool.or_true]
theorem addB_cases {f : Nat → Bool} {l : List Nat} {m : Nat} (h : addB f l m = true) : f m = true ∨ m ∈ l := by
  unfold addB at h
  rcases Bool.or_eq_true_iff.1 h with h | h
  · exact .inl h
  · exact .inr (List.contains_iff_mem.1 h)
theorem sweepTo_mono (G : List (List Nat)) (f : Nat → Bool) {k j m : Nat} (h : k ≤ j) (hf : sweepTo G f k m = true) : sweepTo G f j m = true := by
  obtain ⟨d, rfl⟩ := Nat.exists_eq_add_of_le h
  clear h
  induction d with
  | zero => exact hf
  | succ d ih =>
    show (if sweepTo G f (k + d) (k + d) then _ else sweepTo G f (k + d)) m = true
    split
    · exact addB_mono ih
    · exact ih
theorem sweepTo_sound {G : List (List Nat)} {f : Nat → Bool} {P : Nat → Prop} (hP : ∀ a b, P a → edge G a b → P b) (h0 : ∀ m, f m = true → P m) : ∀ k m, sweepTo G f k m = true → P m
  | 0, m, h => h0 m h
  | k + 1, m, h => by
    have h : (if sweepTo G f k k then addB (sweepTo G f k) (outs G k) else sweepTo G f k) m = true := h
    split at h
    · rename_i hk
      rcases addB_cases h with h | h
      · exact sweepTo_sound hP h0 k m h
      · exact hP k m (sweepTo_sound hP h0 k k hk) h
    · exact sweepTo_sound hP h0 k m h
theorem sweeps_sound {G : List (List Nat)} {n : Nat} {f : Nat → Bool} {P : Nat → Prop} (hP : ∀ a b, P a → edge G a b → P b) (h0 : ∀ m, f m = true → P m) : ∀ t m, sweeps G n f t m = true → P m
  | 0, m, h => h0 m h
  | t + 1, m, h => sweepTo_sound hP (sweeps_sound hP h0 t) n m h
def closedB (G : List (List Nat)) (f : Nat → Bool) : Prop := ∀ a b, f a = true → edge G a b → f b = true
theorem filter_lt {f g : Nat → Bool} : ∀ {l : List Nat}, (∀ x, f x = true → g x = true) → (l.filter f).length ≤ (l.filter g).length ∧ ∀ b ∈ l, f b = false → g b = true → (l.filter f).length < (l.filter g).length
  | [], _ => ⟨Nat.le_refl _, fun b hb => by cases hb⟩
  | x :: l, h => by
    obtain ⟨h1, h2⟩ := filter_lt (l := l) h
    rw [List.filter_cons, List.filter_cons]
    refine ⟨?_, fun b hb hf hg => ?_⟩
    · cases hx : f x
      · cases g x <;> simp <;> omega
      · rw [h x hx]; simp; omega
    · rcases List.mem_cons.1 hb with rfl | hb
      · rw [hf, hg]; simp; omega
      · have h3 := h2 b hb hf hg
        cases hx : f x
        · cases g x <;> simp <;> omega
        · rw [h x hx]; simp; omega
theorem sweepTo_hits {G : List (List Nat)} {f : Nat → Bool} {n a b : Nat} (ha : f a = true) (hn : a < n) (he : edge G a b) : sweepTo G f n b = true := by
  refine sweepTo_mono G f (show a + 1 ≤ n by omega) ?_
  have h1 : sweepTo G f a a = true := sweepTo_mono G f (Nat.zero_le a) ha
  show (if sweepTo G f a a then addB (sweepTo G f a) (outs G a) else _) b = true
  rw [if_pos h1]
  exact addB_mem he
/-- Behind each sweep all is closed, or one more is there. -/
theorem sweeps_many {G : List (List Nat)} (hG : MayG G) {i : Nat} (hi : i < G.length) : ∀ t, closedB G (sweeps G G.length (oneB i) t) ∨ t + 1 ≤ ((List.range G.length).filter (sweeps G G.length (oneB i) t)).length
  | 0 => by
    right
    have h := (filter_lt (f := fun _ => false) (g := oneB i) (l := List.range G.length) (fun x h => by cases h)).2 i (List.mem_range.2 hi) rfl (by unfold oneB; simp)
    show 1 ≤ ((List.range G.length).filter (oneB i)).length
    omega
  | t + 1 => by
    have hm : ∀ x, sweeps G G.length (oneB i) t x = true → sweeps G G.length (oneB i) (t + 1) x = true := fun x h => sweepTo_mono G _ (Nat.zero_le _) h
    by_cases hc : closedB G (sweeps G G.length (oneB i) t)
    · left
      intro a b ha he
      refine hm b (hc a b ?_ he)
      exact sweepTo_sound (P := fun m => sweeps G G.length (oneB i) t m = true) hc (fun m h => h) G.length a ha
    · right
      have ih := (sweeps_many hG hi t).resolve_left hc
      have : ∃ a b, sweeps G G.length (oneB i) t a = true ∧ edge G a b ∧ sweeps G G.length (oneB i) t b = false := by
        classical
        refine Classical.byContradiction fun h => hc fun a b ha he => ?_
        cases hb : sweeps G G.length (oneB i) t b
        · exact absurd ⟨a, b, ha, he, hb⟩ h
        · rfl
      obtain ⟨a, b, ha, he, hb⟩ := this
      obtain ⟨h1, h2⟩ := hG.edge he
      have h3 := (filter_lt (l := List.range G.length) hm).2 b (List.mem_range.2 h2) hb (sweepTo_hits ha h1 he)
      omega
theorem reachB_iff {G : List (List Nat)} (hG : MayG G) {i k : Nat} (hi : i < G.length) : reachB G i k = true ↔ Rch G i k := by
  constructor
  · intro h
    exact sweeps_sound (P := fun m => Rch G i m) (fun a b h1 h2 => h1.trans (.one h2)) (fun m h => by
      unfold oneB at h
      have := of_decide_eq_true h
      subst this; exact .refl _) _ _ h
  · intro h
    have hc : closedB G (reachB G i) := by
      rcases sweeps_many hG hi G.length with h | h
      · exact h
      · have := List.length_filter_le (sweeps G G.length (oneB i) G.length) (List.range G.length)
        rw [List.length_range] at this
        omega
    refine h.closed (S := fun m => reachB G i m = true) (fun a b h1 h2 => hc a b h1 h2) ?_
    have : ∀ t, sweeps G G.length (oneB i) t i = true := fun t => by
      induction t with
      | zero => show oneB i i = true; unfold oneB; simp
      | succ t ih => exact sweepTo_mono G _ (Nat.zero_le _) ih
    exact this _
/-- Both ways. -/
def bothB (G : List (List Nat)) (i k : Nat) : Bool := reachB G i k && reachB G k i
theorem bothB_iff {G : List (List Nat)} (hG : MayG G) {i k : Nat} (hi : i < G.length) (hk : k < G.length) : bothB G i k = true ↔ Rch G i k ∧ Rch G k i := by
  unfold bothB
  rw [Bool.and_eq_true, reachB_iff hG hi, reachB_iff hG hk]
def docComps (G : List (List Nat)) : List Nat := (docC (bothB G) G.length).1
theorem docComps_is {G : List (List Nat)} (hG : MayG G) : docComps G = compsOf G := by
  unfold docComps
  rw [docC_is (parts_of (groupsOf_is hG)) (fun i k hi hk => bothB_iff hG hi hk) (Nat.le_refl _)]
  rfl
/-- The law's search over one edge or more: what was reached, and what waits. -/
structure Bfs (G : List (List Nat)) (a : Nat) (f : Nat → Bool) (q : List Nat) : Prop where
  sound : ∀ m, f m = true ∨ m ∈ q → Rch1 G a m
  first : ∀ b, edge G a b → f b = true ∨ b ∈ q
  next : ∀ m b, f m = true → edge G m b → f b = true ∨ b ∈ q
theorem Bfs.start (G : List (List Nat)) (a : Nat) : Bfs G a (fun _ => false) (outs G a) := by
  refine ⟨fun m h => ?_, fun b h => .inr h, fun m b h => by cases h⟩
  rcases h with h | h
  · cases h
  · exact ⟨m, h, .refl _⟩
theorem Bfs.skip {G : List (List Nat)} {a i : Nat} {f : Nat → Bool} {q : List Nat} (H : Bfs G a f (i :: q)) (h : f i = true) : Bfs G a f q := by
  have hq : ∀ {b}, f b = true ∨ b ∈ i :: q → f b = true ∨ b ∈ q := fun {b} hb => by
    rcases hb with hb | hb
    · exact .inl hb
    · rcases List.mem_cons.1 hb with rfl | hb
      · exact .inl h
      · exact .inr hb
  exact ⟨fun m hm => H.sound m (hm.imp id (List.mem_cons_of_mem _)), fun b he => hq (H.first b he), fun m b hm he => hq (H.next m b hm he)⟩
theorem Bfs.take {G : List (List Nat)} {a i : Nat} {f : Nat → Bool} {q : List Nat} (H : Bfs G a f (i :: q)) : Bfs G a (addB f [i]) (q ++ outs G i) := by
  have hi := H.sound i (.inr List.mem_cons_self)
  have hq : ∀ {b}, f b = true ∨ b ∈ i :: q → addB f [i] b = true ∨ b ∈ q ++ outs G i := fun {b} hb => by
    rcases hb with hb | hb
    · exact .inl (addB_mono hb)
    · rcases List.mem_cons.1 hb with rfl | hb
      · exact .inl (addB_mem (by simp))
      · exact .inr (List.mem_append_left _ hb)
  refine ⟨fun m hm => ?_, fun b he => hq (H.first b he), fun m b hm he => ?_⟩
  · rcases hm with hm | hm
    · rcases addB_cases hm with hm | hm
      · exact H.sound m (.inl hm)
      · rw [List.mem_singleton] at hm; subst hm; exact hi
    · rcases List.mem_append.1 hm with hm | hm
      · exact H.sound m (.inr (List.mem_cons_of_mem _ hm))
      · obtain ⟨c, e, r⟩ := hi
        exact ⟨c, e, r.trans (.one hm)⟩
  · rcases addB_cases hm with hm | hm
    · exact hq (H.next m b hm he)
    · rw [List.mem_singleton] at hm; subst hm
      exact .inr (List.mem_append_right _ he)
theorem Bfs.done {G : List (List Nat)} {a : Nat} {f : Nat → Bool} (H : Bfs G a f []) (m : Nat) : f m = true ↔ Rch1 G a m := by
  have hq : ∀ {b}, f b = true ∨ b ∈ ([] : List Nat) → f b = true := fun {b} hb => hb.elim id fun h => by cases h
  constructor
  · exact fun h => H.sound m (.inl h)
  · rintro ⟨c, e, r⟩
    exact r.closed (S := fun m => f m = true) (fun x y h1 h2 => hq (H.next x y h1 h2)) (hq (H.first c e))
/-- What is left of the law's search: edges of nodes that were not reached. -/
def unB (G : List (List Nat)) (f : Nat → Bool) : Nat := ((List.range G.length).map fun v => if f v then 0 else (outs G v).length + 1).sum
theorem sum_le {f g : Nat → Nat} : ∀ {l : List Nat}, (∀ x ∈ l, f x ≤ g x) → (l.map f).sum ≤ (l.map g).sum
  | [], _ => Nat.le_refl _
  | x :: l, h => by
    have h1 := sum_le (l := l) fun y hy => h y (List.mem_cons_of_mem _ hy)
    have h2 := h x List.mem_cons_self
    simp only [List.map_cons, List.sum_cons]
    omega
theorem sum_drop {f g : Nat → Nat} {i d : Nat} : ∀ {l : List Nat}, (∀ x ∈ l, f x ≤ g x) → i ∈ l → f i + d ≤ g i → (l.map f).sum + d ≤ (l.map g).sum
  | [], _, h, _ => by cases h
  | x :: l, h, hi, hd => by
    have h2 := h x List.mem_cons_self
    simp only [List.map_cons, List.sum_cons]
    rcases List.mem_cons.1 hi with rfl | hi
    · have h1 := sum_le (l := l) fun y hy => h y (List.mem_cons_of_mem _ hy)
      omega
    · have h1 := sum_drop (l := l) (fun y hy => h y (List.mem_cons_of_mem _ hy)) hi hd
      omega
theorem unB_take {G : List (List Nat)} {f : Nat → Bool} {i : Nat} (hi : i < G.length) (h : f i = false) : unB G (addB f [i]) + (outs G i).length + 1 ≤ unB G f := by
  unfold unB
  rw [Nat.add_assoc]
  refine sum_drop (i := i) (fun x _ => ?_) (List.mem_range.2 hi) ?_
  · by_cases hx : f x = true
    · rw [hx, addB_mono hx]; simp
    · rw [if_neg hx]; split <;> omega
  · rw [addB_mem (by simp), h]; simp
theorem unB_le (G : List (List Nat)) (f : Nat → Bool) {m : Nat} (h : ∀ l ∈ G, l.length ≤ m) : unB G f ≤ G.length * (m + 1) := by
  have h1 : unB G f ≤ ((List.range G.length).map fun _ => m + 1).sum := sum_le fun x hx => by
    split
    · omega
    · unfold outs
      rw [List.getD_eq_getElem?_getD, List.getElem?_eq_getElem (List.mem_range.1 hx)]
      have := h _ (List.getElem_mem (List.mem_range.1 hx))
      simp; omega
  have h2 : ((List.range G.length).map fun _ => m + 1).sum = G.length * (m + 1) := by
    rw [List.map_const', List.sum_replicate_nat, List.length_range]
  omega
end Go.Proofs.Ytadognaafgndnaa

/- Layer 28, plain: the document's order of ending is the machine's. No program in sight; no condition but what each says. -/
namespace Go.Proofs.Ytadognaafgndnaa

/-- The document's search. -/
structure Ds where
  met : Nat → Bool
  out : List Nat
def firstB (C : Nat → Nat) (d : Ds) (i n : Nat) : Bool := (List.range n).all fun k => decide (C k ≠ C i) || !d.met k
def dEnd (C : Nat → Nat) (d : Ds) (i : Nat) (first : Bool) : Ds := if first && !(d.out.contains (C i)) then { d with out := d.out ++ [C i] } else d
def Ds.mark (d : Ds) (i : Nat) : Ds := { d with met := addB d.met [i] }
def dfrom (G : List (List Nat)) (C : Nat → Nat) : Nat → Ds → Nat → Ds
  | 0, d, _ => d
  | m + 1, d, i => dEnd C ((outs G i).foldl (fun d k => if d.met k then d else dfrom G C m d k) (d.mark i)) i (firstB C d i G.length)
def unM (n : Nat) (d : Ds) : Nat := ((List.range n).filter fun v => !d.met v).length
theorem mark_met {d : Ds} {i v : Nat} : (d.mark i).met v = true ↔ d.met v = true ∨ v = i := by
  show addB d.met [i] v = true ↔ _
  unfold addB
  simp
theorem unM_le {n : Nat} {d e : Ds} (h : ∀ v, d.met v = true → e.met v = true) : unM n e ≤ unM n d :=
  (filter_lt (f := fun v => !e.met v) (g := fun v => !d.met v) (l := List.range n) (fun v hv => by
    cases hd : d.met v
    · rfl
    · rw [h v hd] at hv; cases hv)).1
theorem unM_mark {n : Nat} {d : Ds} {i : Nat} (hi : i < n) (h : d.met i = false) : unM n (d.mark i) + 1 ≤ unM n d :=
  (filter_lt (f := fun v => !(d.mark i).met v) (g := fun v => !d.met v) (l := List.range n) (fun v hv => by
    cases hd : d.met v
    · rfl
    · rw [mark_met.2 (.inl hd)] at hv; cases hv)).2 i (List.mem_range.2 hi) (by rw [mark_met.2 (.inr rfl)]; rfl) (by rw [h]; rfl)
theorem firstB_iff {C : Nat → Nat} {d : Ds} {i n : Nat} : firstB C d i n = true ↔ ∀ k, k < n → C k = C i → d.met k = false := by
  unfold firstB
  rw [List.all_eq_true]
  constructor
  · intro h k hk e
    have := h k (List.mem_range.2 hk)
    simpa [e] using this
  · intro h k hk
    have := h k (List.mem_range.1 hk)
    by_cases e : C k = C i
    · rw [this e]; simp
    · simp [e]
section
variable (G : List (List Nat)) (C : Nat → Nat)
/-- The document's search and the machine's say the same. -/
structure Same2 (s : St) (d : Ds) : Prop where
  met : ∀ v, d.met v = true ↔ s.num v ≠ 0
  out : d.out = s.ended.map fun g => C (headN g)
/-- What the machine keeps while it is behind a way. -/
structure KeptS (w : List Nat) (s s' : St) : Prop where
  gone : ∀ v ∈ w, s'.gone v = s.gone v
  num : ∀ v, s.num v ≠ 0 → s'.num v = s.num v
  new : ∀ v, s.num v = 0 → s'.num v ≠ 0 → s.met < s'.num v
  top : s.met ≤ s'.met
theorem KeptS.refl (w : List Nat) (s : St) : KeptS w s s := ⟨fun _ _ => rfl, fun _ _ => rfl, fun _ h k => absurd h k, Nat.le_refl _⟩
variable {G C}
theorem KeptS.trans {w : List Nat} {a b c : St} (h : KeptS w a b) (k : KeptS w b c) : KeptS w a c := by
  refine ⟨fun v hv => (k.gone v hv).trans (h.gone v hv), fun v hv => (k.num v (by rw [h.num v hv]; exact hv)).trans (h.num v hv), fun v h0 h1 => ?_, Nat.le_trans h.top k.top⟩
  by_cases e : b.num v = 0
  · exact Nat.lt_of_le_of_lt h.top (k.new v e h1)
  · rw [k.num v e]; exact h.new v h0 e
theorem KeptS.less {w : List Nat} {x : Nat} {a b : St} (h : KeptS (w ++ [x]) a b) : KeptS w a b := ⟨fun v hv => h.gone v (List.mem_append_left _ hv), h.num, h.new, h.top⟩
variable (hG : MayG G) (hC : ∀ a b, a < G.length → b < G.length → (C a = C b ↔ Rch G a b ∧ Rch G b a))
include hG hC
/-- A node is left: what the document ends, the machine ends. -/
theorem leave_same {s s2 : St} {d0 d2 : Ds} {w : List Nat} {i : Nat} (H2 : Good G s2) (hw : s2.way = w ++ [i]) (hk : (outs G i)[s2.gone i]? = none) (hM : Same2 C s2 d2) (hK : KeptS w s s2)
    (h0 : ∀ v, d0.met v = true ↔ s.num v ≠ 0 ∧ v ≠ i) (hi : s.num i = s.met) (hi0 : s.num i ≠ 0) (hlt : ∀ v, s.num v ≠ 0 → v ≠ i → s.num v < s.num i) :
    Same2 C (s2.step G) (dEnd C d2 i (firstB C d0 i G.length)) ∧ (s2.step G).way = w ∧ KeptS w s2 (s2.step G) := by
  have hiw : i ∈ s2.way := by rw [hw]; simp
  have hin := H2.inv.sub i hiw
  have hil := H2.wayLt hiw
  obtain ⟨e1, e2⟩ := last_way hw
  have hstep : s2.step G = s2.leave w i := by
    unfold St.step
    rw [e1]
    show (match (outs G i)[s2.gone i]? with | some k => _ | none => _) = _
    rw [hk]
    show s2.leave s2.way.dropLast i = _
    rw [e2]
  have hgood := H2.step hG
  rw [hstep] at hgood ⊢
  have hni : s2.num i = s.num i := hK.num i hi0
  have hcon : d2.out.contains (C i) = false := by
    cases hc : d2.out.contains (C i)
    · rfl
    · have h1 : C i ∈ d2.out := by simpa using hc
      rw [hM.out] at h1
      obtain ⟨g, hg, e⟩ := List.mem_map.1 h1
      have hh := headN_mem (H2.inv.some_ g hg)
      have hha : headN g ∈ s2.all := List.mem_flatten.2 ⟨g, hg, hh⟩
      have hhl := H2.lt _ ((H2.inv.nums _).2 (.inr hha))
      have h3 := (hC _ _ hhl hil).1 e
      have h4 : i ∈ g := (H2.inv.sccs g hg _ hh i).2 h3
      exact absurd (List.mem_flatten.2 ⟨g, hg, h4⟩) (H2.inv.disj i hin)
  unfold St.leave at hgood ⊢
  by_cases heq : s2.low i = s2.num i
  · rw [if_pos heq] at hgood ⊢
    obtain ⟨hs1, hs2⟩ := split_at hin
    have hmem : ∀ {a}, a ∈ sortN (i :: behind_ s2.wait i) ↔ a = i ∨ a ∈ behind_ s2.wait i := fun {a} => by rw [sortN_mem, List.mem_cons]
    have hge : sortN (i :: behind_ s2.wait i) ∈ (s2.close w (ahead_ s2.wait i) (sortN (i :: behind_ s2.wait i)) i).ended := List.mem_append_right _ (by simp)
    have hscc := hgood.inv.sccs _ hge i (hmem.2 (.inl rfl))
    have hst := H2.inv.sorted
    rw [hs1, List.pairwise_append, List.pairwise_cons] at hst
    have hB : ∀ b ∈ behind_ s2.wait i, s2.num i < s2.num b := hst.2.1.1
    have hf : firstB C d0 i G.length = true := firstB_iff.2 fun k hk e => by
      cases hd : d0.met k
      · rfl
      · obtain ⟨h1, h2⟩ := (h0 k).1 hd
        have h3 := hlt k h1 h2
        have h4 := hK.num k h1
        have h5 := (hscc k).2 ((hC _ _ hil hk).1 e.symm)
        rcases hmem.1 h5 with h5 | h5
        · exact absurd h5 h2
        · have := hB k h5; omega
    refine ⟨⟨fun v => ?_, ?_⟩, rfl, ⟨fun _ _ => rfl, fun _ _ => rfl, fun _ h k => absurd h k, Nat.le_refl _⟩⟩
    · unfold dEnd
      rw [hf, hcon]
      exact hM.met v
    · unfold dEnd
      rw [hf, hcon]
      show d2.out ++ [C i] = (s2.ended ++ [sortN (i :: behind_ s2.wait i)]).map _
      rw [List.map_append, ← hM.out]
      have hne := hgood.inv.some_ _ hge
      have hh := headN_mem hne
      have hhl := hgood.lt _ ((hgood.inv.nums _).2 (.inr (List.mem_flatten.2 ⟨_, hge, hh⟩)))
      have : C (headN (sortN (i :: behind_ s2.wait i))) = C i := ((hC _ _ hil hhl).2 ((hscc _).1 hh)).symm
      simp [this]
  · rw [if_neg heq] at hgood ⊢
    obtain ⟨u, hu, hun, hur⟩ := H2.inv.lowIs i hiw
    obtain ⟨x, hx, hxn, hxr⟩ := H2.inv.toGray u hu
    have hll := H2.inv.lowLe i hiw
    have hul := H2.waitLt hu
    have hri := H2.inv.gray x hx i hin (by omega)
    have hne : u ≠ i := fun e => by subst e; omega
    have hsu : s.num u ≠ 0 := fun e => by
      have := hK.new u e ((H2.inv.nums u).2 (.inl hu))
      omega
    have hf : firstB C d0 i G.length = false := by
      cases hf : firstB C d0 i G.length
      · rfl
      · have h1 := firstB_iff.1 hf u hul ((hC _ _ hul hil).2 ⟨hxr.trans hri, hur⟩)
        rw [(h0 u).2 ⟨hsu, hne⟩] at h1; cases h1
    rw [hf]
    exact ⟨⟨hM.met, hM.out⟩, rfl, ⟨fun _ _ => rfl, fun _ _ => rfl, fun _ h k => absurd h k, Nat.le_refl _⟩⟩
def FromOk (G : List (List Nat)) (C : Nat → Nat) (m : Nat) : Prop := ∀ (s : St) (d0 : Ds) (w : List Nat) (i : Nat), Good G s → s.way = w ++ [i] → s.gone i = 0 → s.num i = s.met → s.num i ≠ 0 → (∀ v, s.num v ≠ 0 → v ≠ i → s.num v < s.num i) →
  (∀ v, d0.met v = true ↔ s.num v ≠ 0 ∧ v ≠ i) → d0.out = (s.ended.map fun g => C (headN g)) → unM G.length d0 ≤ m → ∃ t, (s.run G t).way = w ∧ Same2 C (s.run G t) (dfrom G C m d0 i) ∧ KeptS w s (s.run G t)
theorem edges_same {m : Nat} (hA : FromOk G C m) {w : List Nat} {i : Nat} : ∀ (es : List Nat) (s : St) (d : Ds), Good G s → s.way = w ++ [i] → (outs G i).drop (s.gone i) = es → Same2 C s d → unM G.length d ≤ m →
    ∃ t, (s.run G t).way = w ++ [i] ∧ (outs G i)[(s.run G t).gone i]? = none ∧ Same2 C (s.run G t) (es.foldl (fun d k => if d.met k then d else dfrom G C m d k) d) ∧ KeptS w s (s.run G t)
  | [], s, d, H, hw, hes, hM, hu => ⟨0, hw, by
      have := congrArg List.length hes
      rw [List.length_drop, List.length_nil] at this
      exact List.getElem?_eq_none (by show _ ≤ s.gone i; omega), hM, KeptS.refl _ _⟩
  | k :: es, s, d, H, hw, hes, hM, hu => by
    obtain ⟨e1, e2⟩ := last_way hw
    have hiw : i ∈ s.way := by rw [hw]; simp
    have hni : s.num i ≠ 0 := (H.inv.nums i).2 (.inl (H.inv.sub i hiw))
    have hk : (outs G i)[s.gone i]? = some k := by
      have : ((outs G i).drop (s.gone i))[0]? = some k := by rw [hes]; rfl
      rw [List.getElem?_drop, Nat.add_zero] at this; exact this
    have hes2 : (outs G i).drop (s.gone i + 1) = es := by
      rw [← List.drop_drop, hes]; rfl
    have hwn : ∀ v ∈ w, v ≠ i := fun v hv e => by
      subst e
      have := H.inv.wsorted
      rw [hw, List.pairwise_append] at this
      have := this.2.2 v hv v (by simp)
      omega
    have hstep : s.step G = if s.num k = 0 then (s.go i).meet k else if k ∈ s.wait then (s.go i).lower i (s.num k) else s.go i := by
      unfold St.step
      rw [e1]
      show (match (outs G i)[s.gone i]? with | some k => _ | none => _) = _
      rw [hk]
    have hgo : ∀ v ∈ w, setF s.gone i (s.gone i + 1) v = s.gone v := fun v hv => setF_other _ _ (hwn v hv)
    have hgoi : setF s.gone i (s.gone i + 1) i = s.gone i + 1 := setF_same ..
    by_cases h0 : s.num k = 0
    · rw [if_pos h0] at hstep
      have hg1 := H.step hG
      rw [hstep] at hg1
      have hki : k ≠ i := fun e => by subst e; exact hni h0
      have hd : d.met k = false := by
        cases h : d.met k
        · rfl
        · exact absurd h0 ((hM.met k).1 h)
      have hnum : ∀ v, v ≠ k → setF s.num k (s.met + 1) v = s.num v := fun v h => setF_other _ _ h
      obtain ⟨t1, a1, a2, a3⟩ := hA ((s.go i).meet k) d (w ++ [i]) k hg1 (by show s.way ++ [k] = _; rw [hw]) (by
          show setF s.gone i _ k = 0
          rw [setF_other _ _ hki]; exact H.inv.fresh k h0) (setF_same ..) (by show setF s.num k (s.met + 1) k ≠ 0; rw [setF_same]; omega)
        (fun v hv hvk => by
          show setF s.num k (s.met + 1) v < setF s.num k (s.met + 1) k
          rw [hnum v hvk, setF_same]
          have := H.inv.top v; omega)
        (fun v => by
          show _ ↔ setF s.num k (s.met + 1) v ≠ 0 ∧ v ≠ k
          rw [hM.met v]
          by_cases e : v = k
          · subst e; simp [h0]
          · rw [hnum v e]; simp [e]) hM.out hu
      have hgood2 := hg1.run hG t1
      generalize hs2 : ((s.go i).meet k).run G t1 = s2 at a1 a2 a3 hgood2
      have hgi : s2.gone i = s.gone i + 1 := by rw [a3.gone i (by simp)]; exact hgoi
      have hkk : KeptS w s s2 := by
        refine ⟨fun v hv => ?_, fun v hv => ?_, fun v hv hv2 => ?_, ?_⟩
        · rw [a3.gone v (List.mem_append_left _ hv)]; exact hgo v hv
        · have hvk : v ≠ k := fun e => by subst e; exact hv h0
          have : ((s.go i).meet k).num v = s.num v := hnum v hvk
          rw [a3.num v (by rw [this]; exact hv), this]
        · by_cases e : v = k
          · subst e
            have : ((s.go i).meet v).num v = s.met + 1 := setF_same ..
            rw [a3.num v (by rw [this]; omega), this]; omega
          · have : ((s.go i).meet k).num v = s.num v := hnum v e
            have h5 := a3.new v (by rw [this]; exact hv) hv2
            have : ((s.go i).meet k).met = s.met + 1 := rfl
            omega
        · have h5 := a3.top
          have : ((s.go i).meet k).met = s.met + 1 := rfl
          omega
      obtain ⟨t2, b1, b2, b3, b4⟩ := edges_same hA es s2 (dfrom G C m d k) hgood2 a1 (by rw [hgi]; exact hes2) a2 (Nat.le_trans (unM_le fun v hv => (a2.met v).2 (by
        have h5 := (hM.met v).1 hv
        rw [hkk.num v h5]; exact h5)) hu)
      have er : s.run G (1 + t1 + t2) = s2.run G t2 := by
        rw [St.run_add, St.run_add, ← hs2, ← hstep]; rfl
      refine ⟨1 + t1 + t2, by rw [er]; exact b1, by rw [er]; exact b2, ?_, by rw [er]; exact hkk.trans b4⟩
      rw [er, List.foldl_cons, if_neg (by rw [hd]; simp)]
      exact b3
    · have hd : d.met k = true := (hM.met k).2 h0
      rw [if_neg h0] at hstep
      have hg1 := H.step hG
      have hway : (s.step G).way = w ++ [i] := by rw [hstep]; split <;> exact hw
      have hgone : (s.step G).gone = setF s.gone i (s.gone i + 1) := by rw [hstep]; split <;> rfl
      have hnum : (s.step G).num = s.num := by rw [hstep]; split <;> rfl
      have hmet : (s.step G).met = s.met := by rw [hstep]; split <;> rfl
      have hend : (s.step G).ended = s.ended := by rw [hstep]; split <;> rfl
      obtain ⟨t2, b1, b2, b3, b4⟩ := edges_same hA es (s.step G) d hg1 hway (by rw [hgone, hgoi]; exact hes2) ⟨by rw [hnum]; exact hM.met, by rw [hend]; exact hM.out⟩ hu
      have er : s.run G (1 + t2) = (s.step G).run G t2 := by rw [St.run_add]; rfl
      refine ⟨1 + t2, by rw [er]; exact b1, by rw [er]; exact b2, ?_, by
        rw [er]
        exact KeptS.trans ⟨fun v hv => by rw [hgone]; exact hgo v hv, fun v _ => by rw [hnum], fun v h k => by rw [hnum] at k; exact absurd h k, by rw [hmet]; exact Nat.le_refl _⟩ b4⟩
      rw [er, List.foldl_cons, if_pos hd]
      exact b3
theorem from_same : ∀ m, FromOk G C m
  | 0 => fun s d0 w i H hw hg hi hi0 hlt h0 ho hu => by
    have hiw : i ∈ s.way := by rw [hw]; simp
    have hd : d0.met i = false := by
      cases h : d0.met i
      · rfl
      · exact absurd rfl ((h0 i).1 h).2
    have := unM_mark (H.wayLt hiw) hd
    omega
  | m + 1 => fun s d0 w i H hw hg hi hi0 hlt h0 ho hu => by
    have hiw : i ∈ s.way := by rw [hw]; simp
    have hd : d0.met i = false := by
      cases h : d0.met i
      · rfl
      · exact absurd rfl ((h0 i).1 h).2
    have hu2 := unM_mark (H.wayLt hiw) hd
    obtain ⟨t, b1, b2, b3, b4⟩ := edges_same hG hC (from_same m) (w := w) (i := i) (outs G i) s (d0.mark i) H hw (by rw [hg]; rfl) ⟨fun v => by
      rw [mark_met, h0 v]
      by_cases e : v = i
      · subst e; simp [hi0]
      · simp [e], ho⟩ (by omega)
    obtain ⟨c1, c2, c3⟩ := leave_same hG hC (H.run hG t) b1 b2 b3 b4 h0 hi hi0 hlt
    have er : s.run G (t + 1) = (s.run G t).step G := St.run_succ G t s
    exact ⟨t + 1, by rw [er]; exact c2, by rw [er]; exact c1, by rw [er]; exact b4.trans c3⟩
/-- All nodes, one behind the other. -/
def dTo (G : List (List Nat)) (C : Nat → Nat) : Nat → Ds
  | 0 => ⟨fun _ => false, []⟩
  | k + 1 => if (dTo G C k).met k then dTo G C k else dfrom G C G.length (dTo G C k) k
theorem to_same : ∀ k, k ≤ G.length → Same2 C (searchTo G k) (dTo G C k)
  | 0, _ => ⟨fun v => ⟨fun h => Bool.noConfusion (show false = true from h), fun h => absurd (show (searchTo G 0).num v = 0 from rfl) h⟩, rfl⟩
  | k + 1, hk => by
    have ih := to_same k (by omega)
    have HV := visitedTo hG k (by omega)
    have HN := visitedTo hG (k + 1) hk
    rw [searchTo_succ] at HN ⊢
    show Same2 C _ (if (dTo G C k).met k then _ else _)
    by_cases h0 : (searchTo G k).num k = 0
    · have hd : (dTo G C k).met k = false := by
        cases h : (dTo G C k).met k
        · rfl
        · exact absurd h0 ((ih.met k).1 h)
      rw [if_neg (by rw [hd]; simp)]
      have hnum : ∀ v, v ≠ k → setF (searchTo G k).num k ((searchTo G k).met + 1) v = (searchTo G k).num v := fun v h => setF_other _ _ h
      obtain ⟨t, a1, a2, _⟩ := from_same hG hC G.length ((searchTo G k).meet k) (dTo G C k) [] k (HV.good.meetRoot (by omega) HV.way h0) (by show (searchTo G k).way ++ [k] = _; rw [HV.way]) (HV.good.inv.fresh k h0) (setF_same ..) (by
          show setF _ k _ k ≠ 0
          rw [setF_same]; omega)
        (fun v hv hvk => by
          show setF _ k _ v < setF _ k _ k
          rw [hnum v hvk, setF_same]
          have := HV.good.inv.top v; omega)
        (fun v => by
          show _ ↔ setF _ k _ v ≠ 0 ∧ v ≠ k
          rw [ih.met v]
          by_cases e : v = k
          · subst e; simp [h0]
          · rw [hnum v e]; simp [e]) ih.out (by
          have := List.length_filter_le (fun v => !(dTo G C k).met v) (List.range G.length)
          rw [List.length_range] at this
          exact this)
      have hv : (searchTo G k).visit G k = ((searchTo G k).meet k).run G (((searchTo G k).meet k).left G) := by unfold St.visit; rw [if_pos h0]
      rw [hv] at HN ⊢
      rw [run_unique (HN.way) a1]
      exact a2
    · have hd : (dTo G C k).met k = true := (ih.met k).2 h0
      rw [if_pos hd]
      have hv : (searchTo G k).visit G k = searchTo G k := by unfold St.visit; rw [if_neg h0]
      rw [hv]; exact ih
end
/-- The document's order. -/
def docOrder (G : List (List Nat)) : List Nat := (dTo G (fun v => (docComps G).getD v 0) G.length).out
theorem docOrder_is {G : List (List Nat)} (hG : MayG G) : docOrder G = orderOf G := by
  unfold docOrder orderOf
  rw [docComps_is hG]
  refine (to_same hG (fun a b ha hb => ?_) G.length (Nat.le_refl _)).out
  rw [List.getD_eq_getElem?_getD, List.getD_eq_getElem?_getD, compsOf_at ha, compsOf_at hb]
  exact (parts_of (groupsOf_is hG)).eq_iff ha hb
end Go.Proofs.Ytadognaafgndnaa

/- Layer 28, plain: numbers laid group by group, the document's groups and their count, places in the order, the graph with its edges twice. No program in sight; no condition but what each says. -/
namespace Go.Proofs.Ytadognaafgndnaa

theorem head_at {l : List Nat} (h : 0 < l.length) : l[0] = headN l := by
  cases l with
  | nil => simp at h
  | cons a l => rfl
theorem orderOf_get {G : List (List Nat)} {i : Nat} (h : i < (orderOf G).length) (h2 : i < (groupsOf G).length) : (orderOf G)[i] = (compsOf G).getD (headN (groupsOf G)[i]) 0 := by simp [orderOf]
theorem turnsOf_get {G : List (List Nat)} {i : Nat} (h : i < (turnsOf G).length) (h2 : i < (sortG (groupsOf G)).length) : (turnsOf G)[i] = turnsG G (sortG (groupsOf G))[i] := by simp [turnsOf]
def putG (f : Nat → Nat) (k : Nat) (g : List Nat) : Nat → Nat := fun i => if i ∈ g then k else f i
def numTo (S : List (List Nat)) : Nat → Nat → Nat
  | 0 => fun _ => 0
  | k + 1 => putG (numTo S k) k (S.getD k [])
theorem numTo_is {G S : List (List Nat)} (H : Parts G S) {i : Nat} (hi : i < G.length) : ∀ k, k ≤ S.length → numTo S k i = if numOf S i < k then numOf S i else 0
  | 0, _ => by simp [numTo]
  | k + 1, hk => by
    have ih := numTo_is H hi k (by omega)
    obtain ⟨h1, h2⟩ := H.at_ hi
    have hk' : k < S.length := by omega
    show (if i ∈ S.getD k [] then k else numTo S k i) = _
    have e : S.getD k [] = S[k] := by rw [List.getD_eq_getElem?_getD, List.getElem?_eq_getElem hk']; rfl
    rw [e]
    by_cases hm : i ∈ S[k]
    · have := H.num hk' hm
      rw [if_pos hm, if_pos (by omega)]; omega
    · rw [if_neg hm, ih]
      have : numOf S i ≠ k := fun e => hm (by
        have h3 : S[numOf S i] = S[k] := by congr 1
        rw [← h3]; exact h2)
      split <;> split <;> omega
theorem numTo_all {G : List (List Nat)} (hG : MayG G) {i : Nat} (hi : i < G.length) : numTo (sortG (groupsOf G)) (sortG (groupsOf G)).length i = numOf (sortG (groupsOf G)) i := by
  have H := parts_of (groupsOf_is hG)
  rw [numTo_is H hi _ (Nat.le_refl _), if_pos (H.at_ hi).1]
theorem groups_len {G : List (List Nat)} (hG : MayG G) : (groupsOf G).length ≤ G.length ∧ ∀ g ∈ groupsOf G, g.length ≤ G.length ∧ ∀ a ∈ g, a < G.length := by
  have H := groupsOf_is hG
  have h1 := flat_len H.some_
  have h2 := nodup_le H.nodup fun v hv => (H.all v).1 hv
  have h3 : ∀ g ∈ groupsOf G, ∀ a ∈ g, a < G.length := fun g hg a ha => (H.all a).1 (List.mem_flatten.2 ⟨g, hg, ha⟩)
  exact ⟨by omega, fun g hg => ⟨nodup_le (nodup_of_flatten H.nodup hg) (h3 g hg), h3 g hg⟩⟩
/-- The document's groups. -/
def groupF (l : List Nat) (c : Nat) : List Nat := (List.range l.length).filter fun i => decide (l.getD i 0 = c)
theorem comps_getD {G : List (List Nat)} {i : Nat} (h : i < G.length) : (compsOf G).getD i 0 = numOf (sortG (groupsOf G)) i := by
  rw [List.getD_eq_getElem?_getD, compsOf_at h]; rfl
theorem groupF_is {G : List (List Nat)} (hG : MayG G) {c : Nat} (hc : c < (sortG (groupsOf G)).length) : groupF (compsOf G) c = (sortG (groupsOf G))[c] := by
  have H := parts_of (groupsOf_is hG)
  have hs := H.srt _ (List.getElem_mem hc)
  have hl : (List.range (compsOf G).length).Pairwise (· < ·) := List.pairwise_lt_range
  have h1 : (groupF (compsOf G) c).Pairwise (· < ·) := hl.filter _
  have nd : ∀ {l : List Nat}, l.Pairwise (· < ·) → l.Nodup := fun h => h.imp fun h e => by omega
  have hm : ∀ v, v ∈ groupF (compsOf G) c ↔ v ∈ (sortG (groupsOf G))[c] := fun v => by
    unfold groupF
    rw [List.mem_filter, List.mem_range, compsOf_length]
    constructor
    · rintro ⟨h2, h3⟩
      rw [comps_getD h2] at h3
      obtain ⟨h4, h5⟩ := H.at_ h2
      have h3 := of_decide_eq_true h3
      have : (sortG (groupsOf G))[numOf (sortG (groupsOf G)) v] = (sortG (groupsOf G))[c] := by congr 1
      rw [← this]; exact h5
    · intro h2
      have h3 := H.lt _ (List.getElem_mem hc) v h2
      exact ⟨h3, by rw [comps_getD h3, H.num hc h2]; simp⟩
  exact ((List.perm_ext_iff_of_nodup (nd h1) (nd hs)).2 hm).eq_of_pairwise (le := fun a b => a < b) (fun a b _ _ h1 h2 => absurd h1 (by omega)) h1 hs
/-- How many there are, as the document counts. -/
def countTo (l : List Nat) : Nat → Nat
  | 0 => 0
  | i + 1 => if countTo l i ≤ l.getD i 0 then l.getD i 0 + 1 else countTo l i
theorem countTo_is {G : List (List Nat)} (hG : MayG G) : ∀ i, i ≤ G.length → countTo (compsOf G) i = cntH (sortG (groupsOf G)) i
  | 0, _ => by rw [cntH_zero]; rfl
  | i + 1, hi => by
    have H := parts_of (groupsOf_is hG)
    have ih := countTo_is hG i (by omega)
    show (if countTo (compsOf G) i ≤ (compsOf G).getD i 0 then (compsOf G).getD i 0 + 1 else countTo (compsOf G) i) = _
    rw [ih, comps_getD (by omega)]
    rcases H.step (i := i) (by omega) with ⟨h1, h2, _⟩ | ⟨h1, h2, _⟩
    · rw [if_pos (by omega)]; omega
    · rw [if_neg (by omega)]; omega
theorem countTo_all {G : List (List Nat)} (hG : MayG G) : countTo (compsOf G) G.length = (sortG (groupsOf G)).length := by
  rw [countTo_is hG _ (Nat.le_refl _), (parts_of (groupsOf_is hG)).top]
/-- The order: each component once. -/
theorem orderOf_length (G : List (List Nat)) : (orderOf G).length = (sortG (groupsOf G)).length := by simp [orderOf, sortG_length]
theorem orderOf_at {G : List (List Nat)} (hG : MayG G) {j : Nat} (h : j < (groupsOf G).length) {a : Nat} (ha : a ∈ (groupsOf G)[j]) : (orderOf G)[j]? = some (numOf (sortG (groupsOf G)) a) := by
  have HI := groupsOf_is hG
  have H := parts_of HI
  have hm := List.getElem_mem h
  have hh := headN_mem (HI.some_ _ hm)
  have l1 := ((groups_len hG).2 _ hm).2
  unfold orderOf
  rw [List.getElem?_map, List.getElem?_eq_getElem h]
  show some ((compsOf G).getD _ 0) = _
  rw [comps_getD (l1 _ hh)]
  congr 1
  exact (H.eq_iff (l1 _ hh) (l1 _ ha)).2 ((HI.sccs _ hm _ hh a).1 ha)
theorem orderOf_lt {G : List (List Nat)} (hG : MayG G) {j : Nat} (h : j < (orderOf G).length) : (orderOf G)[j] < (orderOf G).length := by
  have HI := groupsOf_is hG
  have H := parts_of HI
  have hj : j < (groupsOf G).length := by rw [orderOf_length, sortG_length] at h; exact h
  have hm := List.getElem_mem hj
  have hh := headN_mem (HI.some_ _ hm)
  have e := orderOf_at hG hj hh
  rw [List.getElem?_eq_getElem h] at e
  rw [Option.some.inj e, orderOf_length]
  exact (H.at_ (((groups_len hG).2 _ hm).2 _ hh)).1
theorem flat_once {L : List (List Nat)} (h : L.flatten.Nodup) {i j a : Nat} (hi : i < L.length) (hj : j < L.length) (h1 : a ∈ L[i]) (h2 : a ∈ L[j]) : i = j := by
  induction L generalizing i j with
  | nil => simp at hi
  | cons g L ih =>
    rw [List.flatten_cons, List.nodup_append] at h
    obtain ⟨_, g2, g3⟩ := h
    match i, j with
    | 0, 0 => rfl
    | 0, j + 1 => exact absurd rfl (g3 a h1 a (List.mem_flatten.2 ⟨_, List.getElem_mem (by simpa using hj), h2⟩))
    | i + 1, 0 => exact absurd rfl (g3 a h2 a (List.mem_flatten.2 ⟨_, List.getElem_mem (by simpa using hi), h1⟩))
    | i + 1, j + 1 => rw [ih g2 (by simpa using hi) (by simpa using hj) h1 h2]
theorem orderOf_inj {G : List (List Nat)} (hG : MayG G) {i j : Nat} (hi : i < (orderOf G).length) (hj : j < (orderOf G).length) (e : (orderOf G)[i] = (orderOf G)[j]) : i = j := by
  have HI := groupsOf_is hG
  have H := parts_of HI
  have hi' : i < (groupsOf G).length := by rw [orderOf_length, sortG_length] at hi; exact hi
  have hj' : j < (groupsOf G).length := by rw [orderOf_length, sortG_length] at hj; exact hj
  have m1 := List.getElem_mem hi'
  have m2 := List.getElem_mem hj'
  have a1 := headN_mem (HI.some_ _ m1)
  have a2 := headN_mem (HI.some_ _ m2)
  have e1 := orderOf_at hG hi' a1
  have e2 := orderOf_at hG hj' a2
  rw [List.getElem?_eq_getElem hi] at e1
  rw [List.getElem?_eq_getElem hj] at e2
  rw [Option.some.inj e1, Option.some.inj e2] at e
  have h3 := (H.eq_iff (((groups_len hG).2 _ m1).2 _ a1) (((groups_len hG).2 _ m2).2 _ a2)).1 e
  exact flat_once HI.nodup hi' hj' ((HI.sccs _ m1 _ a1 _).2 h3) a2
/-- Where each component stands in the order; 0: not yet. -/
def placeTo (o : List Nat) : Nat → Nat → Nat
  | 0 => fun _ => 0
  | i + 1 => fun c => if c = o.getD i 0 then i + 1 else placeTo o i c
theorem placeTo_zero {o : List Nat} {c : Nat} : ∀ {i : Nat}, (∀ j, j < i → o.getD j 0 ≠ c) → placeTo o i c = 0
  | 0, _ => rfl
  | i + 1, h => by
    show (if c = o.getD i 0 then i + 1 else placeTo o i c) = 0
    rw [if_neg fun e => h i (by omega) e.symm]
    exact placeTo_zero fun j hj => h j (by omega)
theorem placeTo_at {o : List Nat} (hd : ∀ i j, i < o.length → j < o.length → o.getD i 0 = o.getD j 0 → i = j) {j : Nat} : ∀ {i : Nat}, i ≤ o.length → j < i → placeTo o i (o.getD j 0) = j + 1
  | 0, _, h => by omega
  | i + 1, hi, h => by
    show (if o.getD j 0 = o.getD i 0 then i + 1 else placeTo o i (o.getD j 0)) = j + 1
    by_cases e : o.getD j 0 = o.getD i 0
    · rw [if_pos e, hd j i (by omega) (by omega) e]
    · rw [if_neg e]
      exact placeTo_at hd (by omega) (by
        have : j ≠ i := fun e2 => e (by rw [e2])
        omega)
theorem getD_at {o : List Nat} {j : Nat} (h : j < o.length) : o.getD j 0 = o[j] := by
  rw [List.getD_eq_getElem?_getD, List.getElem?_eq_getElem h]; rfl
/-- An edge from one component to another one leads to one that stands ahead. -/
theorem order_ahead {G : List (List Nat)} (hG : MayG G) {a u : Nat} (he : edge G a u) (hn : numOf (sortG (groupsOf G)) a ≠ numOf (sortG (groupsOf G)) u) :
    placeTo (orderOf G) (orderOf G).length (numOf (sortG (groupsOf G)) u) < placeTo (orderOf G) (orderOf G).length (numOf (sortG (groupsOf G)) a) := by
  have HI := groupsOf_is hG
  obtain ⟨ha, hu⟩ := hG.edge he
  obtain ⟨g, hg, hag⟩ := List.mem_flatten.1 ((HI.all a).2 ha)
  obtain ⟨j, hj, rfl⟩ := List.mem_iff_getElem.1 hg
  obtain ⟨k, hk, hkj, huk⟩ := HI.ords.at_ hj hag he
  have e1 := orderOf_at hG hj hag
  have e2 := orderOf_at hG hk huk
  have hl : (orderOf G).length = (groupsOf G).length := by rw [orderOf_length, sortG_length]
  have hd : ∀ i j, i < (orderOf G).length → j < (orderOf G).length → (orderOf G).getD i 0 = (orderOf G).getD j 0 → i = j := fun i j hi hj e => orderOf_inj hG hi hj (by rw [← getD_at hi, ← getD_at hj]; exact e)
  have f1 : numOf (sortG (groupsOf G)) a = (orderOf G).getD j 0 := by rw [List.getD_eq_getElem?_getD, e1]; rfl
  have f2 : numOf (sortG (groupsOf G)) u = (orderOf G).getD k 0 := by rw [List.getD_eq_getElem?_getD, e2]; rfl
  have hjk : j ≠ k := fun e => by subst e; exact hn (f1.trans f2.symm)
  rw [f1, f2, placeTo_at hd (Nat.le_refl _) (by omega), placeTo_at hd (Nat.le_refl _) (by omega)]
  omega
/-- Each edge twice, in turned order. -/
def twiceL {α : Type} (l : List α) : List α := l.reverse.flatMap fun x => [x, x]
theorem twiceL_mem {α : Type} {l : List α} {x : α} : x ∈ twiceL l ↔ x ∈ l := by
  unfold twiceL
  simp
theorem flat2_length {α : Type} (l : List α) : (l.flatMap fun x => [x, x]).length = 2 * l.length := by
  induction l with
  | nil => rfl
  | cons a l ih => simp [ih]; omega
theorem flat2_at {α : Type} : ∀ {l : List α} {k : Nat} (_ : k < l.length), (l.flatMap fun x => [x, x])[2 * k]? = l[k]?
  | a :: l, 0, _ => by simp
  | a :: l, k + 1, h => by
    have h2 : k < l.length := by simpa using h
    rw [List.flatMap_cons]
    show ([a, a] ++ _)[2 * (k + 1)]? = _
    rw [List.getElem?_append_right (by simp; omega)]
    have : 2 * (k + 1) - [a, a].length = 2 * k := by simp; omega
    rw [this, flat2_at h2]; rfl
theorem twiceL_length {α : Type} (l : List α) : (twiceL l).length = 2 * l.length := by
  unfold twiceL; rw [flat2_length, List.length_reverse]
theorem twiceL_at {α : Type} {l : List α} {k : Nat} (h : k < l.length) : (twiceL l)[2 * (l.length - 1 - k)]? = l[k]? := by
  unfold twiceL
  rw [flat2_at (by rw [List.length_reverse]; omega), List.getElem?_reverse (by omega)]
  congr 1; omega
theorem rch_same {G G' : List (List Nat)} (h : ∀ a u, edge G a u ↔ edge G' a u) (a b : Nat) : Rch G a b ↔ Rch G' a b := by
  constructor
  · intro r
    induction r with
    | refl => exact .refl _
    | step e _ ih => exact .step ((h _ _).1 e) ih
  · intro r
    induction r with
    | refl => exact .refl _
    | step e _ ih => exact .step ((h _ _).2 e) ih
theorem outs_map {G : List (List Nat)} (f : List Nat → List Nat) (hf : f [] = []) (a : Nat) : outs (G.map f) a = f (outs G a) := by
  unfold outs
  rw [List.getD_eq_getElem?_getD, List.getD_eq_getElem?_getD, List.getElem?_map]
  cases G[a]? with
  | none => exact hf.symm
  | some l => rfl
theorem comps_twice {G : List (List Nat)} (hG : MayG G) : compsOf (G.map twiceL) = compsOf G := by
  have he : ∀ a u, edge G a u ↔ edge (G.map twiceL) a u := fun a u => by
    unfold edge
    rw [outs_map twiceL rfl, twiceL_mem]
  refine (comps_same hG ?_ (by simp) (rch_same he)).symm
  intro l hl k hk
  obtain ⟨m, hm, rfl⟩ := List.mem_map.1 hl
  rw [List.length_map]
  exact hG m hm k (twiceL_mem.1 hk)
/-- What the law asks of components that are in fact sound. -/
theorem meets_low {G : List (List Nat)} (hG : MayG G) {i : Nat} (hi : i < G.length) : numOf (sortG (groupsOf G)) i ≤ cntH (sortG (groupsOf G)) i ∧ cntH (sortG (groupsOf G)) (i + 1) = (if numOf (sortG (groupsOf G)) i = cntH (sortG (groupsOf G)) i then cntH (sortG (groupsOf G)) i + 1 else cntH (sortG (groupsOf G)) i) := by
  rcases (parts_of (groupsOf_is hG)).step hi with ⟨h1, h2, _⟩ | ⟨h1, h2, _⟩
  · rw [if_pos h1]; omega
  · rw [if_neg (by omega)]; omega
theorem turnsOf_at {G : List (List Nat)} (hG : MayG G) {i : Nat} (hi : i < G.length) : (turnsOf G)[numOf (sortG (groupsOf G)) i]? = some true ↔ Rch1 G i i := by
  have H := parts_of (groupsOf_is hG)
  obtain ⟨h1, h2⟩ := H.at_ hi
  unfold turnsOf
  rw [List.getElem?_map, List.getElem?_eq_getElem h1]
  rw [← H.turns (List.getElem_mem h1) h2]
  simp
theorem turnsOf_length (G : List (List Nat)) : (turnsOf G).length = (sortG (groupsOf G)).length := by simp [turnsOf]
/-- A way round. -/
def ring (n : Nat) : List (List Nat) := (List.range n).map fun i => [(i + 1) % n]
theorem ring_may {n : Nat} (hn : 0 < n) : MayG (ring n) := by
  intro l hl k hk
  obtain ⟨i, _, rfl⟩ := List.mem_map.1 hl
  rw [List.mem_singleton] at hk
  subst hk
  simpa [ring] using Nat.mod_lt _ hn
theorem ring_up {n : Nat} : ∀ {b a : Nat}, a ≤ b → b < n → Rch (ring n) a b
  | 0, a, h, _ => by
    have : a = 0 := by omega
    subst this; exact .refl _
  | b + 1, a, h, hb => by
    by_cases e : a = b + 1
    · subst e; exact .refl _
    · refine (ring_up (b := b) (a := a) (by omega) (by omega)).trans (.one ?_)
      unfold edge outs ring
      rw [List.getD_eq_getElem?_getD, List.getElem?_map, List.getElem?_range (by omega)]
      simp [Nat.mod_eq_of_lt hb]
theorem ring_all {n a b : Nat} (ha : a < n) (hb : b < n) : Rch (ring n) a b := by
  refine (ring_up (b := n - 1) (a := a) (by omega) (by omega)).trans (Rch.trans (.one ?_) (ring_up (b := b) (a := 0) (Nat.zero_le _) hb))
  unfold edge outs ring
  rw [List.getD_eq_getElem?_getD, List.getElem?_map, List.getElem?_range (by omega)]
  have : (n - 1 + 1) % n = 0 := by rw [show n - 1 + 1 = n by omega]; exact Nat.mod_self n
  simp [this]
theorem ring_comps {n a : Nat} (ha : a < n) : (compsOf (ring n))[a]? = some 0 := by
  have hn : 0 < n := by omega
  have hl : (ring n).length = n := by simp [ring]
  have hG := ring_may hn
  have H := parts_of (groupsOf_is hG)
  rw [compsOf_at (by omega)]
  have h0 : numOf (sortG (groupsOf (ring n))) 0 = 0 := by
    rcases H.step (i := 0) (by omega) with ⟨h1, _, _⟩ | ⟨h1, _, _⟩
    · rw [cntH_zero] at h1; exact h1
    · rw [cntH_zero] at h1; omega
  rw [← h0]
  congr 1
  exact (H.eq_iff (by omega) (by omega)).2 ⟨ring_all ha hn, ring_all hn ha⟩
end Go.Proofs.Ytadognaafgndnaa
