/- A ring of nodes from which nodes are taken, and to which they come back, plain. No program in sight; no condition but what each says. -/
import Derived.Sort.LotA
set_option linter.all false
set_option linter.unusedVariables false
set_option linter.unusedSimpArgs false
set_option linter.unnecessarySimpa false
/- A ring of nodes from which nodes are taken, and to which they come back, plain. No program in sight; no condition but what each says. -/
namespace Go.Proofs.Ytjomjlodmelnbaa

/-- Neighbours know each other. -/
def Links (nx pv : Nat → Nat) : List Nat → Prop
  | a :: b :: t => nx a = b ∧ pv b = a ∧ Links nx pv (b :: t)
  | _ => True
def upd (f : Nat → Nat) (a v : Nat) : Nat → Nat := fun x => if x = a then v else f x
theorem upd_same (f : Nat → Nat) (a v : Nat) : upd f a v a = v := if_pos rfl
theorem upd_other (f : Nat → Nat) {a v x : Nat} (h : x ≠ a) : upd f a v x = f x := if_neg h
theorem links_congr {nx pv nx' pv' : Nat → Nat} : ∀ (a : Nat) (l : List Nat), (∀ x ∈ (a :: l).dropLast, nx' x = nx x) → (∀ x ∈ l, pv' x = pv x) → Links nx pv (a :: l) → Links nx' pv' (a :: l)
  | _, [], _, _, _ => trivial
  | a, b :: t, h1, h2, h => by
    obtain ⟨e1, e2, e3⟩ := h
    refine ⟨(h1 a (by simp)).trans e1, (h2 b (by simp)).trans e2, links_congr b t (fun x hx => h1 x ?_) (fun x hx => h2 x (by simp [hx])) e3⟩
    rw [List.dropLast_cons_of_ne_nil (by simp)]
    exact List.mem_cons_of_mem _ hx
theorem links_split {nx pv : Nat → Nat} : ∀ (l1 : List Nat) (a b : Nat) (l2 : List Nat), Links nx pv (l1 ++ a :: b :: l2) ↔ Links nx pv (l1 ++ [a]) ∧ nx a = b ∧ pv b = a ∧ Links nx pv (b :: l2)
  | [], a, b, l2 => by simp [Links]
  | [c], a, b, l2 => by simp [Links]; constructor <;> (intro h; simp [h])
  | c :: d :: l1, a, b, l2 => by
    have := links_split (nx := nx) (pv := pv) (d :: l1) a b l2
    simp only [List.cons_append, Links] at this ⊢
    rw [this]
    constructor
    · rintro ⟨h1, h2, h3, h4⟩; exact ⟨⟨h1, h2, h3⟩, h4⟩
    · rintro ⟨⟨h1, h2, h3⟩, h4⟩; exact ⟨h1, h2, h3, h4⟩
/-- A node's neighbours in a ring: of the head and a list. -/
def Adj (h : Nat) (L : List Nat) (n p q : Nat) : Prop := ∃ A B l1 l2, L = l1 ++ n :: l2 ∧ h :: l1 = A ++ [p] ∧ l2 ++ [h] = q :: B
theorem snoc_of {h : Nat} (l : List Nat) : ∃ A p, h :: l = A ++ [p] := ⟨(h :: l).dropLast, (h :: l).getLast (by simp), (List.dropLast_concat_getLast _).symm⟩
theorem cons_of {h : Nat} : ∀ l : List Nat, ∃ q B, l ++ [h] = q :: B
  | [] => ⟨h, [], rfl⟩
  | a :: l => ⟨a, l ++ [h], rfl⟩
theorem adj_of {nx pv : Nat → Nat} {h : Nat} {L : List Nat} {n : Nat} (hr : Links nx pv (h :: L ++ [h])) (hn : n ∈ L) : Adj h L n (pv n) (nx n) := by
  obtain ⟨l1, l2, rfl⟩ := List.append_of_mem hn
  obtain ⟨A, p, hA⟩ := snoc_of (h := h) l1
  obtain ⟨q, B, hB⟩ := cons_of (h := h) l2
  have e : h :: (l1 ++ n :: l2) ++ [h] = A ++ p :: n :: (q :: B) := by
    have : h :: (l1 ++ n :: l2) ++ [h] = (h :: l1) ++ n :: (l2 ++ [h]) := by simp
    rw [this, hA, hB]; simp
  rw [e] at hr
  obtain ⟨_, _, h1, h2⟩ := (links_split _ _ _ _).1 hr
  obtain ⟨h3, _⟩ := h2
  rw [h1, h3]
  exact ⟨A, B, l1, l2, rfl, hA, hB⟩
theorem Adj.mem {h : Nat} {L : List Nat} {n p q : Nat} (ha : Adj h L n p q) : p ∈ h :: L ∧ q ∈ h :: L := by
  obtain ⟨A, B, l1, l2, rfl, h1, h2⟩ := ha
  have hp : p ∈ h :: l1 := by rw [h1]; simp
  have hq : q ∈ l2 ++ [h] := by rw [h2]; simp
  simp at hp hq ⊢
  constructor
  · rcases hp with h | h <;> simp [h]
  · rcases hq with h | h <;> simp [h]
theorem Adj.ne {h : Nat} {L : List Nat} {n p q : Nat} (ha : Adj h L n p q) (hd : (h :: L).Nodup) : p ≠ n ∧ q ≠ n := by
  obtain ⟨A, B, l1, l2, rfl, h1, h2⟩ := ha
  have hp : p ∈ h :: l1 := by rw [h1]; simp
  have hq : q ∈ l2 ++ [h] := by rw [h2]; simp
  simp only [List.nodup_cons, List.nodup_append, List.mem_append, List.mem_cons] at hd hp hq
  obtain ⟨g1, g2, ⟨g3, g4⟩, g5⟩ := hd
  constructor
  · rintro rfl
    rcases hp with rfl | hp
    · exact g1 (.inr (.inl rfl))
    · exact g5 _ hp _ (.inl rfl) rfl
  · rintro rfl
    rcases hq with hq | hq | hq
    · exact g3 hq
    · exact g1 (.inr (.inl hq.symm))
    · cases hq
/-- A node is taken out. -/
theorem links_out {nx pv : Nat → Nat} {h : Nat} {l1 l2 : List Nat} {n : Nat} (hd : (h :: (l1 ++ n :: l2)).Nodup) (hr : Links nx pv (h :: (l1 ++ n :: l2) ++ [h])) :
    Links (upd nx (pv n) (nx n)) (upd pv (nx n) (pv n)) (h :: (l1 ++ l2) ++ [h]) := by
  obtain ⟨A, p, hA⟩ := snoc_of (h := h) l1
  obtain ⟨q, B, hB⟩ := cons_of (h := h) l2
  have e : h :: (l1 ++ n :: l2) ++ [h] = A ++ p :: n :: (q :: B) := by
    have : h :: (l1 ++ n :: l2) ++ [h] = (h :: l1) ++ n :: (l2 ++ [h]) := by simp
    rw [this, hA, hB]; simp
  have e' : h :: (l1 ++ l2) ++ [h] = A ++ p :: q :: B := by
    have : h :: (l1 ++ l2) ++ [h] = (h :: l1) ++ (l2 ++ [h]) := by simp
    rw [this, hA, hB]; simp
  rw [e] at hr
  rw [e']
  obtain ⟨r1, r2, r3, r4⟩ := (links_split _ _ _ _).1 hr
  obtain ⟨r5, r6, r7⟩ := r4
  rw [r3, r5]
  have hp : p ∈ h :: l1 := by rw [hA]; simp
  have hq : q ∈ l2 ++ [h] := by rw [hB]; simp
  simp only [List.nodup_cons, List.nodup_append, List.mem_append, List.mem_cons] at hd hp hq
  obtain ⟨g1, g2, ⟨g3, g4⟩, g5⟩ := hd
  refine (links_split _ _ _ _).2 ⟨?_, upd_same _ _ _, upd_same _ _ _, ?_⟩
  · rw [← hA] at r1 ⊢
    refine links_congr h l1 (fun x hx => upd_other _ ?_) (fun x hx => upd_other _ ?_) r1
    · rintro rfl
      rw [hA, List.dropLast_concat] at hx
      have : (A ++ [x]).Nodup := by rw [← hA]; exact List.nodup_cons.2 ⟨fun h => g1 (.inl h), g2⟩
      exact (List.nodup_append.1 this).2.2 x hx x (by simp) rfl
    · rintro rfl
      rcases hq with hq | hq | hq
      · exact g5 x hx x (.inr hq) rfl
      · exact g1 (.inl (hq ▸ hx))
      · cases hq
  · refine links_congr q B (fun x hx => upd_other _ ?_) (fun x hx => upd_other _ ?_) r7
    · rintro rfl
      rw [← hB, List.dropLast_concat] at hx
      rcases hp with rfl | hp
      · exact g1 (.inr (.inr hx))
      · exact g5 _ hp _ (.inr hx) rfl
    · rintro rfl
      cases l2 with
      | nil => simp at hB; rw [hB.2] at hx; cases hx
      | cons c l2 =>
        simp only [List.cons_append, List.cons.injEq] at hB
        obtain ⟨rfl, rfl⟩ := hB
        rw [List.mem_append, List.mem_singleton] at hx
        rcases hx with hx | hx
        · exact (List.nodup_cons.1 g4).1 hx
        · exact g1 (.inr (.inr (by simp [hx])))
/-- A node comes back where it stood. -/
theorem links_back {nx pv : Nat → Nat} {h : Nat} {l1 l2 : List Nat} {n : Nat} (hd : (h :: (l1 ++ n :: l2)).Nodup) (hr : Links nx pv (h :: (l1 ++ l2) ++ [h]))
    {A B : List Nat} (hA : h :: l1 = A ++ [pv n]) (hB : l2 ++ [h] = nx n :: B) : Links (upd nx (pv n) n) (upd pv (nx n) n) (h :: (l1 ++ n :: l2) ++ [h]) := by
  have hn := Adj.ne (n := n) (p := pv n) (q := nx n) ⟨A, B, l1, l2, rfl, hA, hB⟩ hd
  generalize hpe : pv n = p at *
  generalize hqe : nx n = q at *
  have e : h :: (l1 ++ n :: l2) ++ [h] = A ++ p :: n :: (q :: B) := by
    have : h :: (l1 ++ n :: l2) ++ [h] = (h :: l1) ++ n :: (l2 ++ [h]) := by simp
    rw [this, hA, hB]; simp
  have e' : h :: (l1 ++ l2) ++ [h] = A ++ p :: q :: B := by
    have : h :: (l1 ++ l2) ++ [h] = (h :: l1) ++ (l2 ++ [h]) := by simp
    rw [this, hA, hB]; simp
  rw [e'] at hr
  rw [e]
  obtain ⟨r1, r2, r3, r7⟩ := (links_split _ _ _ _).1 hr
  have hp : p ∈ h :: l1 := by rw [hA]; simp
  have hq : q ∈ l2 ++ [h] := by rw [hB]; simp
  simp only [List.nodup_cons, List.nodup_append, List.mem_append, List.mem_cons] at hd hp hq
  obtain ⟨g1, g2, ⟨g3, g4⟩, g5⟩ := hd
  refine (links_split _ _ _ _).2 ⟨?_, upd_same _ _ _, (upd_other _ hn.2.symm).trans hpe, (upd_other _ hn.1.symm).trans hqe, upd_same _ _ _, ?_⟩
  · rw [← hA] at r1 ⊢
    refine links_congr h l1 (fun x hx => upd_other _ ?_) (fun x hx => upd_other _ ?_) r1
    · rintro rfl
      rw [hA, List.dropLast_concat] at hx
      have : (A ++ [x]).Nodup := by rw [← hA]; exact List.nodup_cons.2 ⟨fun h => g1 (.inl h), g2⟩
      exact (List.nodup_append.1 this).2.2 x hx x (by simp) rfl
    · rintro rfl
      rcases hq with hq | hq | hq
      · exact g5 x hx x (.inr hq) rfl
      · exact g1 (.inl (hq ▸ hx))
      · cases hq
  · refine links_congr q B (fun x hx => upd_other _ ?_) (fun x hx => upd_other _ ?_) r7
    · rintro rfl
      rw [← hB, List.dropLast_concat] at hx
      rcases hp with rfl | hp
      · exact g1 (.inr (.inr hx))
      · exact g5 _ hp _ (.inr hx) rfl
    · rintro rfl
      cases l2 with
      | nil => simp at hB; rw [hB.2] at hx; cases hx
      | cons c l2 =>
        simp only [List.cons_append, List.cons.injEq] at hB
        obtain ⟨rfl, rfl⟩ := hB
        rw [List.mem_append, List.mem_singleton] at hx
        rcases hx with hx | hx
        · exact (List.nodup_cons.1 g4).1 hx
        · exact g1 (.inr (.inr (by simp [hx])))
/-- What is left of all nodes, when some are taken out. -/
def left (all rem : List Nat) : List Nat := all.filter fun x => !rem.contains x
theorem mem_left {all rem : List Nat} {x : Nat} : x ∈ left all rem ↔ x ∈ all ∧ x ∉ rem := by
  unfold left; rw [List.mem_filter]; simp
theorem left_nil (all : List Nat) : left all [] = all := by unfold left; rw [List.filter_eq_self]; simp
theorem left_snoc {all rem l1 l2 : List Nat} {n : Nat} (hd : all.Nodup) (h : left all rem = l1 ++ n :: l2) : left all (rem ++ [n]) = l1 ++ l2 := by
  have e : left all (rem ++ [n]) = (left all rem).filter fun x => !(x == n) := by
    unfold left
    rw [List.filter_filter]
    refine List.filter_congr fun x _ => ?_
    rw [Bool.eq_iff_iff]
    simp [and_comm]
  have hl : (l1 ++ n :: l2).Nodup := h ▸ hd.filter _
  rw [e, h, List.filter_append, List.filter_cons]
  simp only [List.nodup_append, List.nodup_cons, List.mem_cons] at hl
  obtain ⟨_, ⟨h2, _⟩, h3⟩ := hl
  rw [List.filter_eq_self.2 fun x hx => by simp; exact fun e => h3 x hx n (.inl rfl) e, List.filter_eq_self.2 fun x hx => by simp; rintro rfl; exact h2 hx]
  simp
/-- A ring; and nodes that are out, each of which knows where it stood. -/
structure Dance (nx pv : Nat → Nat) (h : Nat) (all rem : List Nat) : Prop where
  nodup : (h :: all).Nodup
  ring : Links nx pv (h :: left all rem ++ [h])
  hist : ∀ r1 n r2, rem = r1 ++ n :: r2 → n ∈ left all r1 ∧ Adj h (left all r1) n (pv n) (nx n)
theorem Dance.leftNodup {nx pv : Nat → Nat} {h : Nat} {all rem : List Nat} (D : Dance nx pv h all rem) (r : List Nat) : (h :: left all r).Nodup := by
  have := List.nodup_cons.1 D.nodup
  exact List.nodup_cons.2 ⟨fun h => this.1 (mem_left.1 h).1, this.2.filter _⟩
theorem Dance.adj {nx pv : Nat → Nat} {h : Nat} {all rem : List Nat} (D : Dance nx pv h all rem) {n : Nat} (hn : n ∈ left all rem) : Adj h (left all rem) n (pv n) (nx n) := adj_of D.ring hn
theorem Dance.out {nx pv : Nat → Nat} {h : Nat} {all rem : List Nat} (D : Dance nx pv h all rem) {n : Nat} (hn : n ∈ left all rem) : Dance (upd nx (pv n) (nx n)) (upd pv (nx n) (pv n)) h all (rem ++ [n]) := by
  have ha := D.adj hn
  have hdd := D.leftNodup rem
  refine ⟨D.nodup, ?_, fun r1 m r2 he => ?_⟩
  · obtain ⟨l1, l2, hl⟩ := List.append_of_mem hn
    rw [left_snoc (List.nodup_cons.1 D.nodup).2 hl]
    have hr := D.ring
    rw [hl] at hr hdd
    exact links_out hdd hr
  · have hm := ha.mem
    have key : m ∈ rem → m ≠ pv n ∧ m ≠ nx n := fun hmr => by
      have : m ∉ h :: left all rem := by
        rw [List.mem_cons]
        rintro (rfl | h1)
        · have : m ∈ all := by
            obtain ⟨r1, r2, e⟩ := List.append_of_mem hmr
            exact (mem_left.1 (D.hist r1 m r2 e).1).1
          exact (List.nodup_cons.1 D.nodup).1 this
        · exact (mem_left.1 h1).2 hmr
      exact ⟨fun e => this (by rw [e]; exact hm.1), fun e => this (by rw [e]; exact hm.2)⟩
    rcases List.eq_nil_or_concat r2 with rfl | ⟨r3, x, rfl⟩
    · have e2 := List.append_inj' (show rem ++ [n] = r1 ++ [m] from he) rfl
      obtain ⟨rfl, h2⟩ := e2
      cases h2
      have hne := ha.ne hdd
      rw [upd_other _ hne.1.symm, upd_other _ hne.2.symm]
      exact ⟨hn, ha⟩
    · have e2 := List.append_inj' (show rem ++ [n] = (r1 ++ m :: r3) ++ [x] by simpa using he) rfl
      obtain ⟨rfl, _⟩ := e2
      obtain ⟨k1, k2⟩ := key (by simp)
      rw [upd_other _ k1, upd_other _ k2]
      exact D.hist r1 m r3 rfl
theorem Dance.back {nx pv : Nat → Nat} {h : Nat} {all rem : List Nat} {n : Nat} (D : Dance nx pv h all (rem ++ [n])) : Dance (upd nx (pv n) n) (upd pv (nx n) n) h all rem := by
  obtain ⟨hn, ha⟩ := D.hist rem n [] rfl
  have hdd := D.leftNodup rem
  have hm := ha.mem
  obtain ⟨A, B, l1, l2, hl, hA, hB⟩ := ha
  refine ⟨D.nodup, ?_, fun r1 m r2 he => ?_⟩
  · have hr := D.ring
    rw [left_snoc (List.nodup_cons.1 D.nodup).2 hl] at hr
    rw [hl] at hdd ⊢
    exact links_back hdd hr hA hB
  · have h1 := D.hist r1 m (r2 ++ [n]) (by rw [he]; simp)
    have hmr : m ∈ rem := by rw [he]; simp
    have : m ∉ h :: left all rem := by
      rw [List.mem_cons]
      rintro (rfl | h2)
      · exact (List.nodup_cons.1 D.nodup).1 (mem_left.1 h1.1).1
      · exact (mem_left.1 h2).2 hmr
    rw [upd_other _ (fun e => this (by rw [e]; exact hm.2)), upd_other _ (fun e => this (by rw [e]; exact hm.1))]
    exact h1
theorem Dance.start {nx pv : Nat → Nat} {h : Nat} (h1 : nx h = h) (h2 : pv h = h) : Dance nx pv h [] [] :=
  ⟨by simp, ⟨h1, h2, trivial⟩, fun r1 n r2 he => by simp at he⟩
/-- The last one knows the head. -/
theorem Dance.last {nx pv : Nat → Nat} {h : Nat} {all : List Nat} (D : Dance nx pv h all []) : nx (pv h) = h ∧ pv h ∈ h :: all := by
  obtain ⟨A, p, hA⟩ := snoc_of (h := h) all
  have hr := D.ring
  rw [left_nil] at hr
  have e : h :: all ++ [h] = A ++ p :: h :: [] := by rw [hA]; simp
  rw [e] at hr
  obtain ⟨_, r2, r3, _⟩ := (links_split _ _ _ _).1 hr
  rw [r3]
  exact ⟨r2, by rw [hA]; simp⟩
/-- A new node is linked at the end. -/
theorem Dance.link {nx pv : Nat → Nat} {h : Nat} {all : List Nat} (D : Dance nx pv h all []) {n : Nat} (hn : n ∉ h :: all) : nx (pv h) = h ∧ pv h ∈ h :: all ∧ Dance (upd (upd nx n h) (pv h) n) (upd (upd pv n (pv h)) h n) h (all ++ [n]) [] := by
  obtain ⟨A, p, hA⟩ := snoc_of (h := h) all
  have hr := D.ring
  rw [left_nil] at hr
  have e : h :: all ++ [h] = A ++ p :: h :: [] := by rw [hA]; simp
  rw [e] at hr
  obtain ⟨r1, r2, r3, _⟩ := (links_split _ _ _ _).1 hr
  rw [r3]
  have hp : p ∈ h :: all := by rw [hA]; simp
  have hpn : p ≠ n := fun e => hn (e ▸ hp)
  have hhn : h ≠ n := fun e => hn (by simp [e])
  refine ⟨r2, hp, ⟨?_, ?_, fun r1 n r2 he => by simp at he⟩⟩
  · have := D.nodup
    rw [← List.cons_append, List.nodup_append]
    exact ⟨this, by simp, fun a ha b hb => by rw [List.mem_singleton] at hb; subst hb; rintro rfl; exact hn ha⟩
  · rw [left_nil]
    have e' : h :: (all ++ [n]) ++ [h] = A ++ p :: n :: [h] := by
      rw [← List.cons_append, hA]; simp
    rw [e']
    refine (links_split _ _ _ _).2 ⟨?_, upd_same _ _ _, (upd_other _ hhn.symm).trans (upd_same _ _ _), (upd_other _ hpn.symm).trans (upd_same _ _ _), upd_same _ _ _, trivial⟩
    rw [← hA] at r1 ⊢
    refine links_congr h all (fun x hx => ?_) (fun x hx => ?_) r1
    · have hxm : x ∈ h :: all := List.dropLast_subset _ hx
      have hxp : x ≠ p := by
        rintro rfl
        rw [hA, List.dropLast_concat] at hx
        have : (A ++ [x]).Nodup := by rw [← hA]; exact D.nodup
        exact (List.nodup_append.1 this).2.2 x hx x (by simp) rfl
      rw [upd_other _ hxp, upd_other _ (fun e => hn (by rw [← e]; exact hxm))]
    · have hxm : x ∈ h :: all := List.mem_cons_of_mem _ hx
      have hxh : x ≠ h := by rintro rfl; exact (List.nodup_cons.1 D.nodup).1 hx
      rw [upd_other _ hxh, upd_other _ (fun e => hn (by rw [← e]; exact hxm))]
theorem Dance.mem {nx pv : Nat → Nat} {h : Nat} {all rem : List Nat} (D : Dance nx pv h all rem) {n : Nat} (hn : n ∈ left all rem) : pv n ∈ h :: all ∧ nx n ∈ h :: all := by
  have := (D.adj hn).mem
  have key : ∀ x, x ∈ h :: left all rem → x ∈ h :: all := fun x hx => by
    rcases List.mem_cons.1 hx with rfl | hx
    · simp
    · exact List.mem_cons_of_mem _ (mem_left.1 hx).1
  exact ⟨key _ this.1, key _ this.2⟩
end Go.Proofs.Ytjomjlodmelnbaa
