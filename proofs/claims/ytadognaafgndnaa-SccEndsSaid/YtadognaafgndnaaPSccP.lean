/- Layer 28, plain: Tarjan's search without calls of itself: what its state says, step by step. No program in sight; no condition but what each says. -/
set_option linter.all false
set_option linter.unusedVariables false
set_option linter.unusedSimpArgs false
set_option linter.unnecessarySimpa false
/- Layer 28, plain: Tarjan's search without calls of itself: what its state says, step by step. No program in sight; no condition but what each says. -/
namespace Go.Proofs.Ytadognaafgndnaa

def outs (G : List (List Nat)) (i : Nat) : List Nat := G.getD i []
def edge (G : List (List Nat)) (i k : Nat) : Prop := k ∈ outs G i
/-- Over none, one or more edges. -/
inductive Rch (G : List (List Nat)) : Nat → Nat → Prop
  | refl (a : Nat) : Rch G a a
  | step {a b c : Nat} : edge G a b → Rch G b c → Rch G a c
theorem Rch.trans {G : List (List Nat)} {a b c : Nat} (h : Rch G a b) (k : Rch G b c) : Rch G a c := by
  induction h with
  | refl => exact k
  | step e _ ih => exact .step e (ih k)
theorem Rch.one {G : List (List Nat)} {a b : Nat} (h : edge G a b) : Rch G a b := .step h (.refl b)
/-- What is closed under edges is closed under ways. -/
theorem Rch.closed {G : List (List Nat)} {S : Nat → Prop} (hs : ∀ a b, S a → edge G a b → S b) {a b : Nat} (h : Rch G a b) (ha : S a) : S b := by
  induction h with
  | refl => exact ha
  | step e _ ih => exact ih (hs _ _ ha e)
/-- The search's state. -/
structure St where
  num : Nat → Nat
  low : Nat → Nat
  gone : Nat → Nat
  way : List Nat
  wait : List Nat
  ended : List (List Nat)
  met : Nat
def setF (f : Nat → Nat) (i v : Nat) : Nat → Nat := fun j => if j = i then v else f j
theorem setF_same (f : Nat → Nat) (i v : Nat) : setF f i v i = v := if_pos rfl
theorem setF_other (f : Nat → Nat) {i j : Nat} (v : Nat) (h : j ≠ i) : setF f i v j = f j := if_neg h
def St.all (s : St) : List Nat := s.ended.flatten
/-- Edges that were gone. -/
def processed (G : List (List Nat)) (s : St) (v u : Nat) : Prop := (v ∉ s.way ∧ edge G v u) ∨ (v ∈ s.way ∧ u ∈ (outs G v).take (s.gone v))
theorem processed.edge {G : List (List Nat)} {s : St} {v u : Nat} (h : processed G s v u) : edge G v u := by
  rcases h with h | h
  · exact h.2
  · exact List.mem_of_mem_take h.2
/-- Components in the order in which they end: each edge leads to the same one, or to one that ended before. -/
inductive Ords (G : List (List Nat)) : List (List Nat) → Prop
  | nil : Ords G []
  | snoc {L : List (List Nat)} {g : List Nat} : Ords G L → (∀ a ∈ g, ∀ u, edge G a u → u ∈ L.flatten ∨ u ∈ g) → Ords G (L ++ [g])
structure Inv (G : List (List Nat)) (s : St) : Prop where
  fresh : ∀ v, s.num v = 0 → s.gone v = 0
  nums : ∀ v, s.num v ≠ 0 ↔ v ∈ s.wait ∨ v ∈ s.all
  sorted : s.wait.Pairwise fun a b => s.num a < s.num b
  wsorted : s.way.Pairwise fun a b => s.num a < s.num b
  sub : ∀ v ∈ s.way, v ∈ s.wait
  disj : ∀ v ∈ s.wait, v ∉ s.all
  top : ∀ v, s.num v ≤ s.met
  closed : ∀ v ∈ s.all, ∀ u, edge G v u → u ∈ s.all
  procMet : ∀ v ∈ s.wait, ∀ u, processed G s v u → s.num u ≠ 0
  gray : ∀ x ∈ s.way, ∀ y ∈ s.wait, s.num x ≤ s.num y → Rch G x y
  toGray : ∀ y ∈ s.wait, ∃ x ∈ s.way, s.num x ≤ s.num y ∧ Rch G y x
  lowLe : ∀ x ∈ s.way, s.low x ≤ s.num x
  lowIs : ∀ x ∈ s.way, ∃ u ∈ s.wait, s.num u = s.low x ∧ Rch G x u
  lowAll : ∀ x ∈ s.way, ∀ y ∈ s.wait, s.num x ≤ s.num y → (∀ z ∈ s.way, s.num z ≤ s.num y → s.num z ≤ s.num x) → ∀ u ∈ s.wait, processed G s y u → s.low x ≤ s.num u
  sccs : ∀ g ∈ s.ended, ∀ a ∈ g, ∀ b, b ∈ g ↔ Rch G a b ∧ Rch G b a
  some_ : ∀ g ∈ s.ended, g ≠ []
  nodup : s.all.Nodup
  ords : Ords G s.ended
theorem mem_flat_snoc {L : List (List Nat)} {g : List Nat} {v : Nat} : v ∈ (L ++ [g]).flatten ↔ v ∈ L.flatten ∨ v ∈ g := by simp
/-- A node is met. -/
def St.meet (s : St) (i : Nat) : St := { s with num := setF s.num i (s.met + 1), low := setF s.low i (s.met + 1), way := s.way ++ [i], wait := s.wait ++ [i], met := s.met + 1 }
/-- One more edge is gone. -/
def St.go (s : St) (i : Nat) : St := { s with gone := setF s.gone i (s.gone i + 1) }
theorem processed_go {G : List (List Nat)} {s : St} {i k v u : Nat} (hi : i ∈ s.way) (hk : (outs G i)[s.gone i]? = some k) (h : processed G (s.go i) v u) : processed G s v u ∨ (v = i ∧ u = k) := by
  rcases h with ⟨h1, h2⟩ | ⟨h1, h2⟩
  · exact .inl (.inl ⟨h1, h2⟩)
  · by_cases hv : v = i
    · subst hv
      have h3 : (s.go v).gone v = s.gone v + 1 := setF_same ..
      rw [h3] at h2
      obtain ⟨hl, he⟩ := List.getElem?_eq_some_iff.1 hk
      rw [List.take_succ_eq_append_getElem hl, List.mem_append, List.mem_singleton, he] at h2
      rcases h2 with h2 | h2
      · exact .inl (.inr ⟨h1, h2⟩)
      · exact .inr ⟨rfl, h2⟩
    · have h3 : (s.go i).gone v = s.gone v := setF_other _ _ hv
      rw [h3] at h2
      exact .inl (.inr ⟨h1, h2⟩)
/-- An edge to a node that was met. -/
theorem Inv.go {G : List (List Nat)} {s : St} (H : Inv G s) {i k : Nat} (hi : i ∈ s.way) (hk : (outs G i)[s.gone i]? = some k) (hm : s.num k ≠ 0) (hl : ∀ x ∈ s.way, s.num x ≤ s.num i → (∀ z ∈ s.way, s.num z ≤ s.num i → s.num z ≤ s.num x) → k ∈ s.wait → s.low x ≤ s.num k) : Inv G (s.go i) where
  fresh v hv := by
    show setF s.gone i _ v = 0
    by_cases h : v = i
    · subst h; exact absurd hv ((H.nums v).2 (.inl (H.sub v hi)))
    · rw [setF_other _ _ h]; exact H.fresh v hv
  nums := H.nums
  sorted := H.sorted
  wsorted := H.wsorted
  sub := H.sub
  disj := H.disj
  top := H.top
  closed := H.closed
  procMet v hv u hp := by
    rcases processed_go hi hk hp with h | ⟨rfl, rfl⟩
    · exact H.procMet v hv u h
    · exact hm
  gray := H.gray
  toGray := H.toGray
  lowLe := H.lowLe
  lowIs := H.lowIs
  lowAll x hx y hy hxy hz u hu hp := by
    rcases processed_go hi hk hp with h | ⟨rfl, rfl⟩
    · exact H.lowAll x hx y hy hxy hz u hu h
    · exact hl x hx hxy hz hu
  sccs := H.sccs
  some_ := H.some_
  nodup := H.nodup
  ords := H.ords
/-- The earliest node that one leads back to becomes an earlier one. -/
def St.lower (s : St) (i v : Nat) : St := { s with low := setF s.low i (min (s.low i) v) }
theorem Inv.lower {G : List (List Nat)} {s : St} (H : Inv G s) {i k : Nat} (hi : i ∈ s.way) (hk : k ∈ s.wait) (hr : Rch G i k) : Inv G (s.lower i (s.num k)) where
  fresh := H.fresh
  nums := H.nums
  sorted := H.sorted
  wsorted := H.wsorted
  sub := H.sub
  disj := H.disj
  top := H.top
  closed := H.closed
  procMet := H.procMet
  gray := H.gray
  toGray := H.toGray
  lowLe x hx := by
    show setF s.low i _ x ≤ s.num x
    by_cases h : x = i
    · subst h; rw [setF_same]; have := H.lowLe x hx; omega
    · rw [setF_other _ _ h]; exact H.lowLe x hx
  lowIs x hx := by
    show ∃ u ∈ s.wait, s.num u = setF s.low i _ x ∧ Rch G x u
    by_cases h : x = i
    · subst h
      rw [setF_same]
      by_cases h2 : s.low x ≤ s.num k
      · rw [Nat.min_eq_left h2]; exact H.lowIs x hx
      · rw [Nat.min_eq_right (by omega)]; exact ⟨k, hk, rfl, hr⟩
    · rw [setF_other _ _ h]; exact H.lowIs x hx
  lowAll x hx y hy hxy hz u hu hp := by
    show setF s.low i _ x ≤ s.num u
    have h0 := H.lowAll x hx y hy hxy hz u hu hp
    by_cases h : x = i
    · subst h; rw [setF_same]; omega
    · rw [setF_other _ _ h]; exact h0
  sccs := H.sccs
  some_ := H.some_
  nodup := H.nodup
  ords := H.ords
theorem Inv.wait_ne {G : List (List Nat)} {s : St} (H : Inv G s) {k v : Nat} (hk : s.num k = 0) (hv : v ∈ s.wait) : v ≠ k := fun e => by
  subst e; exact (H.nums v).2 (.inl hv) hk
/-- A node is met: from a node of the way, or the first one. -/
theorem Inv.meet {G : List (List Nat)} {s s0 : St} (H : Inv G s) {k : Nat} (e0 : ∃ g, s0 = { s with gone := g } ∧ g k = 0 ∧ ∀ v, s.num v = 0 → g v = 0) (hk : s.num k = 0) (hr : ∀ x ∈ s.way, Rch G x k)
    (hp : ∀ v ∈ s.wait, ∀ u, processed G s0 v u → processed G s v u ∨ u = k) : Inv G (s0.meet k) := by
  obtain ⟨g, rfl, hgk, hg0⟩ := e0
  have ne : ∀ v ∈ s.wait, v ≠ k := fun v hv => H.wait_ne hk hv
  have nk : k ∉ s.wait := fun h => ne k h rfl
  have na : k ∉ s.all := fun h => (H.nums k).2 (.inr h) hk
  have nw : ∀ v ∈ s.way, v ≠ k := fun v hv => ne v (H.sub v hv)
  have n' : ∀ v, v ≠ k → setF s.num k (s.met + 1) v = s.num v := fun v h => setF_other _ _ h
  have nn : setF s.num k (s.met + 1) k = s.met + 1 := setF_same ..
  have l' : ∀ v, v ≠ k → setF s.low k (s.met + 1) v = s.low v := fun v h => setF_other _ _ h
  have hmw : ∀ {v}, v ∈ s.wait ++ [k] → v ∈ s.wait ∨ v = k := fun {v} h => by simpa using h
  have hmy : ∀ {v}, v ∈ s.way ++ [k] → v ∈ s.way ∨ v = k := fun {v} h => by simpa using h
  have hpr : ∀ {v u}, v ∈ s.wait → processed G (St.meet { s with gone := g } k) v u → processed G s v u ∨ u = k := fun {v u} hv h => by
    refine hp v hv u ?_
    rcases h with ⟨h1, h2⟩ | ⟨h1, h2⟩
    · exact .inl ⟨fun h => h1 (List.mem_append_left _ h), h2⟩
    · exact .inr ⟨(hmy h1).resolve_right (ne v hv), h2⟩
  have hpk : ∀ {u}, ¬ processed G (St.meet { s with gone := g } k) k u := fun {u} h => by
    rcases h with ⟨h1, _⟩ | ⟨_, h2⟩
    · exact h1 (List.mem_append_right _ (by simp))
    · have h3 : (St.meet { s with gone := g } k).gone k = 0 := hgk
      rw [h3] at h2; simp at h2
  constructor
  · intro v hv
    have hv : setF s.num k (s.met + 1) v = 0 := hv
    have hvk : v ≠ k := fun e => by subst e; rw [nn] at hv; omega
    rw [n' v hvk] at hv
    exact hg0 v hv
  · intro v
    show setF s.num k (s.met + 1) v ≠ 0 ↔ v ∈ s.wait ++ [k] ∨ v ∈ s.all
    by_cases h : v = k
    · subst h; rw [nn]; simp
    · rw [n' v h, H.nums v]; simp [h]
  · show (s.wait ++ [k]).Pairwise fun a b => setF s.num k (s.met + 1) a < setF s.num k (s.met + 1) b
    rw [List.pairwise_append]
    refine ⟨H.sorted.imp_of_mem fun {a b} ha hb h => by rw [n' a (ne a ha), n' b (ne b hb)]; exact h, by simp, fun a ha b hb => ?_⟩
    rw [List.mem_singleton] at hb; subst hb
    rw [nn, n' a (ne a ha)]; have := H.top a; omega
  · show (s.way ++ [k]).Pairwise fun a b => setF s.num k (s.met + 1) a < setF s.num k (s.met + 1) b
    rw [List.pairwise_append]
    refine ⟨H.wsorted.imp_of_mem fun {a b} ha hb h => by rw [n' a (nw a ha), n' b (nw b hb)]; exact h, by simp, fun a ha b hb => ?_⟩
    rw [List.mem_singleton] at hb; subst hb
    rw [nn, n' a (nw a ha)]; have := H.top a; omega
  · intro v hv
    rcases hmy hv with h | h
    · exact List.mem_append_left _ (H.sub v h)
    · subst h; exact List.mem_append_right _ (by simp)
  · intro v hv
    rcases hmw hv with h | h
    · exact H.disj v h
    · subst h; exact na
  · intro v
    show setF s.num k (s.met + 1) v ≤ s.met + 1
    by_cases h : v = k
    · subst h; rw [nn]; omega
    · rw [n' v h]; have := H.top v; omega
  · exact H.closed
  · intro v hv u hu
    show setF s.num k (s.met + 1) u ≠ 0
    by_cases h : u = k
    · subst h; rw [nn]; omega
    · rw [n' u h]
      rcases hmw hv with h2 | h2
      · exact H.procMet v h2 u ((hpr h2 hu).resolve_right h)
      · subst h2; exact absurd hu hpk
  · intro x hx y hy hxy
    have hxy : setF s.num k (s.met + 1) x ≤ setF s.num k (s.met + 1) y := hxy
    rcases hmw hy with h | h
    · rcases hmy hx with h2 | h2
      · rw [n' x (nw x h2), n' y (ne y h)] at hxy
        exact H.gray x h2 y h hxy
      · subst h2
        rw [nn, n' y (ne y h)] at hxy
        have := H.top y; omega
    · subst h
      rcases hmy hx with h2 | h2
      · exact hr x h2
      · subst h2; exact .refl _
  · intro y hy
    rcases hmw hy with h | h
    · obtain ⟨x, h1, h2, h3⟩ := H.toGray y h
      refine ⟨x, List.mem_append_left _ h1, ?_, h3⟩
      show setF s.num k (s.met + 1) x ≤ setF s.num k (s.met + 1) y
      rw [n' x (nw x h1), n' y (ne y h)]; exact h2
    · subst h
      exact ⟨y, List.mem_append_right _ (by simp), Nat.le_refl _, .refl _⟩
  · intro x hx
    show setF s.low k (s.met + 1) x ≤ setF s.num k (s.met + 1) x
    rcases hmy hx with h | h
    · rw [n' x (nw x h), l' x (nw x h)]; exact H.lowLe x h
    · subst h; rw [nn, setF_same]; exact Nat.le_refl _
  · intro x hx
    show ∃ u ∈ s.wait ++ [k], setF s.num k (s.met + 1) u = setF s.low k (s.met + 1) x ∧ Rch G x u
    rcases hmy hx with h | h
    · obtain ⟨u, h1, h2, h3⟩ := H.lowIs x h
      exact ⟨u, List.mem_append_left _ h1, by rw [n' u (ne u h1), l' x (nw x h)]; exact h2, h3⟩
    · subst h
      exact ⟨x, List.mem_append_right _ (by simp), by rw [nn, setF_same], .refl _⟩
  · intro x hx y hy hxy hz u hu hpu
    show setF s.low k (s.met + 1) x ≤ setF s.num k (s.met + 1) u
    have hxy : setF s.num k (s.met + 1) x ≤ setF s.num k (s.met + 1) y := hxy
    rcases hmw hy with h | h
    · have hxk : x ≠ k := fun e => by
        subst e
        rw [nn, n' y (ne y h)] at hxy
        have := H.top y; omega
      have hxw := (hmy hx).resolve_right hxk
      rw [n' x hxk, n' y (ne y h)] at hxy
      rw [l' x hxk]
      by_cases huk : u = k
      · subst huk
        rw [nn]
        have := H.lowLe x hxw; have := H.top x; omega
      · rw [n' u huk]
        refine H.lowAll x hxw y h hxy (fun z hzw hzy => ?_) u ((hmw hu).resolve_right huk) ((hpr h hpu).resolve_right huk)
        have h5 := hz z (List.mem_append_left _ hzw)
        have h6 : setF s.num k (s.met + 1) z ≤ setF s.num k (s.met + 1) y → setF s.num k (s.met + 1) z ≤ setF s.num k (s.met + 1) x := h5
        rw [n' z (nw z hzw), n' y (ne y h), n' x hxk] at h6
        exact h6 hzy
    · subst h; exact absurd hpu hpk
  · exact H.sccs
  · exact H.some_
  · exact H.nodup
  · exact H.ords
/-- The last one of the way has the greatest number. -/
theorem Inv.last {G : List (List Nat)} {s : St} (H : Inv G s) {w : List Nat} {i : Nat} (hw : s.way = w ++ [i]) {x : Nat} (hx : x ∈ w) : s.num x < s.num i := by
  have := H.wsorted
  rw [hw, List.pairwise_append] at this
  exact this.2.2 x hx i (by simp)
theorem Inv.lastLe {G : List (List Nat)} {s : St} (H : Inv G s) {w : List Nat} {i : Nat} (hw : s.way = w ++ [i]) {x : Nat} (hx : x ∈ s.way) : s.num x ≤ s.num i := by
  rw [hw] at hx
  rcases List.mem_append.1 hx with h | h
  · exact Nat.le_of_lt (H.last hw h)
  · rw [List.mem_singleton] at h; subst h; exact Nat.le_refl _
/-- A new one, from the last one of the way. -/
theorem Inv.meetChild {G : List (List Nat)} {s : St} (H : Inv G s) {w : List Nat} {i k : Nat} (hw : s.way = w ++ [i]) (hk : (outs G i)[s.gone i]? = some k) (h0 : s.num k = 0) : Inv G ((s.go i).meet k) := by
  have hi : i ∈ s.way := by rw [hw]; simp
  have hni : s.num i ≠ 0 := (H.nums i).2 (.inl (H.sub i hi))
  have he : edge G i k := List.mem_of_getElem? hk
  refine H.meet ⟨_, rfl, ?_, fun v hv => ?_⟩ h0 (fun x hx => (H.gray x hx i (H.sub i hi) (H.lastLe hw hx)).trans (Rch.one he)) (fun v hv u hp => (processed_go hi hk hp).imp id And.right)
  · show setF s.gone i _ k = 0
    rw [setF_other _ _ (fun e => by subst e; exact hni h0)]; exact H.fresh k h0
  · show setF s.gone i _ v = 0
    rw [setF_other _ _ (fun e => by subst e; exact hni hv)]; exact H.fresh v hv
/-- The first one of a search. -/
theorem Inv.meetRoot {G : List (List Nat)} {s : St} (H : Inv G s) {k : Nat} (hw : s.way = []) (h0 : s.num k = 0) : Inv G (s.meet k) :=
  H.meet ⟨s.gone, rfl, H.fresh k h0, H.fresh⟩ h0 (fun x hx => by rw [hw] at hx; cases hx) (fun _ _ _ hp => .inl hp)
end Go.Proofs.Ytadognaafgndnaa

/- Layer 28, plain: a node is left: its component may end with it. No condition but what each says. -/
namespace Go.Proofs.Ytadognaafgndnaa

theorem sorted_inj {f : Nat → Nat} {l : List Nat} (h : l.Pairwise fun a b => f a < f b) {a b : Nat} (ha : a ∈ l) (hb : b ∈ l) (e : f a = f b) : a = b := by
  induction l with
  | nil => cases ha
  | cons x l ih =>
    rw [List.pairwise_cons] at h
    rcases List.mem_cons.1 ha with h1 | h1 <;> rcases List.mem_cons.1 hb with h2 | h2
    · rw [h1, h2]
    · subst h1; have := h.1 b h2; omega
    · subst h2; have := h.1 a h1; omega
    · exact ih h.2 h1 h2
/-- What the node ahead learns. -/
def lowUp (s : St) (w : List Nat) (i : Nat) : Nat → Nat := match w.getLast? with
  | some p => setF s.low p (min (s.low p) (s.low i))
  | none => s.low
/-- The last one is left, its component goes on. -/
def St.up (s : St) (w : List Nat) (i : Nat) : St := { s with low := lowUp s w i, way := w }
/-- .. its component ends with it. -/
def St.close (s : St) (w A g : List Nat) (i : Nat) : St := { s with low := lowUp s w i, way := w, wait := A, ended := s.ended ++ [g] }
theorem lowUp_le (s : St) (w : List Nat) (i x : Nat) : lowUp s w i x ≤ s.low x := by
  unfold lowUp
  cases w.getLast? with
  | none => exact Nat.le_refl _
  | some p =>
    show setF s.low p _ x ≤ _
    by_cases h : x = p
    · subst h; rw [setF_same]; exact Nat.min_le_left _ _
    · rw [setF_other _ _ h]; exact Nat.le_refl _
theorem lowUp_last {s : St} {w : List Nat} {p i : Nat} (h : w.getLast? = some p) : lowUp s w i p = min (s.low p) (s.low i) := by
  unfold lowUp
  rw [h]; exact setF_same ..
theorem lowUp_other {s : St} {w : List Nat} {p i x : Nat} (h : w.getLast? = some p) (hx : x ≠ p) : lowUp s w i x = s.low x := by
  unfold lowUp
  rw [h]; exact setF_other _ _ hx
section
variable {G : List (List Nat)} {s : St} (H : Inv G s) {w : List Nat} {i : Nat} (hw : s.way = w ++ [i]) (hd : ∀ u, edge G i u → u ∈ (outs G i).take (s.gone i))
include H hw hd
theorem Inv.procUp {v u : Nat} (hp : (v ∉ w ∧ edge G v u) ∨ (v ∈ w ∧ u ∈ (outs G v).take (s.gone v))) : processed G s v u := by
  rcases hp with ⟨h1, h2⟩ | ⟨h1, h2⟩
  · by_cases h : v = i
    · subst h; exact .inr ⟨by rw [hw]; simp, hd u h2⟩
    · exact .inl ⟨by rw [hw]; simp [h1, h], h2⟩
  · exact .inr ⟨by rw [hw]; simp [h1], h2⟩
theorem Inv.up (hne : s.low i ≠ s.num i) : Inv G (s.up w i) := by
  have hiw : i ∈ s.way := by rw [hw]; simp
  have hin := H.sub i hiw
  have hlt : s.low i < s.num i := by have := H.lowLe i hiw; omega
  have inw : ∀ x ∈ w, x ∈ s.way := fun x hx => by rw [hw]; simp [hx]
  obtain ⟨u0, hu0, hu0n, hu0r⟩ := H.lowIs i hiw
  obtain ⟨x0, hx0, hx0n, hx0r⟩ := H.toGray u0 hu0
  have hx0w : x0 ∈ w := by
    rw [hw] at hx0
    rcases List.mem_append.1 hx0 with h | h
    · exact h
    · rw [List.mem_singleton] at h; subst h; omega
  obtain ⟨p, hp⟩ : ∃ p, w.getLast? = some p := by
    cases h : w.getLast? with
    | none => rw [List.getLast?_eq_none_iff.1 h] at hx0w; cases hx0w
    | some p => exact ⟨p, rfl⟩
  obtain ⟨w', rfl⟩ : ∃ w', w = w' ++ [p] := by
    rcases List.eq_nil_or_concat w with rfl | ⟨w', q, rfl⟩
    · simp at hp
    · simp at hp; subst hp; exact ⟨w', by simp⟩
  have hpw : p ∈ w' ++ [p] := by simp
  have hpr := fun {v u} (h : processed G (s.up (w' ++ [p]) i) v u) => H.procUp hw hd (v := v) (u := u) h
  constructor
  · exact H.fresh
  · exact H.nums
  · exact H.sorted
  · have := H.wsorted
    rw [hw, List.pairwise_append] at this
    exact this.1
  · exact fun v hv => H.sub v (inw v hv)
  · exact H.disj
  · exact H.top
  · exact H.closed
  · exact fun v hv u hu => H.procMet v hv u (hpr hu)
  · exact fun x hx y hy hxy => H.gray x (inw x hx) y hy hxy
  · intro y hy
    obtain ⟨x, h1, h2, h3⟩ := H.toGray y hy
    rw [hw] at h1
    rcases List.mem_append.1 h1 with h | h
    · exact ⟨x, h, h2, h3⟩
    · rw [List.mem_singleton] at h; subst h
      exact ⟨x0, hx0w, by show s.num x0 ≤ s.num y; omega, h3.trans (hu0r.trans hx0r)⟩
  · exact fun x hx => Nat.le_trans (lowUp_le ..) (H.lowLe x (inw x hx))
  · intro x hx
    show ∃ u ∈ s.wait, s.num u = lowUp s (w' ++ [p]) i x ∧ Rch G x u
    by_cases h : x = p
    · subst h
      rw [lowUp_last hp]
      by_cases h2 : s.low x ≤ s.low i
      · rw [Nat.min_eq_left h2]; exact H.lowIs x (inw x hx)
      · rw [Nat.min_eq_right (by omega)]
        exact ⟨u0, hu0, hu0n, (H.gray x (inw x hx) i hin (H.lastLe hw (inw x hx))).trans hu0r⟩
    · rw [lowUp_other hp h]; exact H.lowIs x (inw x hx)
  · intro x hx y hy hxy hz u hu hpu
    show lowUp s (w' ++ [p]) i x ≤ s.num u
    by_cases hiy : s.num i ≤ s.num y
    · have h1 := H.lowAll i hiw y hy hiy (fun z hz' _ => H.lastLe hw hz') u hu (hpr hpu)
      have h2 : s.num p ≤ s.num x := hz p hpw (Nat.le_trans (Nat.le_of_lt (H.last hw hpw)) hiy)
      have h3 : x = p := by
        rcases List.mem_append.1 hx with h | h
        · have := H.wsorted
          rw [hw, List.pairwise_append, List.pairwise_append] at this
          have := this.1.2.2 x h p (by simp)
          omega
        · simpa using h
      subst h3
      rw [lowUp_last hp]
      exact Nat.le_trans (Nat.min_le_right _ _) h1
    · refine Nat.le_trans (lowUp_le ..) (H.lowAll x (inw x hx) y hy hxy (fun z hz' hzy => ?_) u hu (hpr hpu))
      rw [hw] at hz'
      rcases List.mem_append.1 hz' with h | h
      · exact hz z h hzy
      · rw [List.mem_singleton] at h; subst h; exact absurd hzy hiy
  · exact H.sccs
  · exact H.some_
  · exact H.nodup
  · exact H.ords
theorem Inv.close (hne : s.low i = s.num i) {A B g : List Nat} (hW : s.wait = A ++ i :: B) (hg : g.Perm (i :: B)) : Inv G (s.close w A g i) := by
  have hiw : i ∈ s.way := by rw [hw]; simp
  have hin := H.sub i hiw
  have inw : ∀ x ∈ w, x ∈ s.way := fun x hx => by rw [hw]; simp [hx]
  have hst := H.sorted
  rw [hW, List.pairwise_append, List.pairwise_cons] at hst
  have hA : ∀ a ∈ A, s.num a < s.num i := fun a ha => hst.2.2 a ha i (by simp)
  have hB : ∀ b ∈ B, s.num i < s.num b := hst.2.1.1
  have hmg : ∀ {v}, v ∈ g ↔ v = i ∨ v ∈ B := fun {v} => by rw [hg.mem_iff, List.mem_cons]
  have hmw : ∀ {v}, v ∈ s.wait ↔ v ∈ A ∨ v ∈ g := fun {v} => by rw [hW, List.mem_append, List.mem_cons, hmg]
  have hgi : ∀ v ∈ g, s.num i ≤ s.num v := fun v hv => by
    rcases hmg.1 hv with h | h
    · subst h; exact Nat.le_refl _
    · exact Nat.le_of_lt (hB v h)
  have hgw : ∀ v ∈ g, v ∈ s.wait := fun v hv => hmw.2 (.inr hv)
  have hAw : ∀ v ∈ A, v ∈ s.wait := fun v hv => hmw.2 (.inl hv)
  have hwA : ∀ v ∈ w, v ∈ A := fun v hv => (hmw.1 (H.sub v (inw v hv))).resolve_right fun h => by
    have := hgi v h; have := H.last hw hv; omega
  have hpr := fun {v u} (h : processed G (s.close w A g i) v u) => H.procUp hw hd (v := v) (u := u) h
  have hgout : ∀ v ∈ g, ∀ u, edge G v u → u ∈ s.all ∨ u ∈ g := fun v hv u he => by
    have hp : processed G s v u := by
      rcases hmg.1 hv with h | h
      · subst h; exact .inr ⟨hiw, hd u he⟩
      · exact .inl ⟨fun hvw => by have := H.lastLe hw hvw; have := hB v h; omega, he⟩
    have hm := H.procMet v (hgw v hv) u hp
    rcases (H.nums u).1 hm with h | h
    · have h1 := H.lowAll i hiw v (hgw v hv) (hgi v hv) (fun z hz' _ => H.lastLe hw hz') u h hp
      refine .inr ((hmw.1 h).resolve_left fun ha => ?_)
      have := hA u ha; omega
    · exact .inl h
  have hall : ∀ {v}, v ∈ (s.close w A g i).all ↔ v ∈ s.all ∨ v ∈ g := fun {v} => mem_flat_snoc
  have hgr : ∀ a ∈ g, Rch G i a := fun a ha => H.gray i hiw a (hgw a ha) (hgi a ha)
  have hrg : ∀ a ∈ g, Rch G a i := fun a ha => by
    obtain ⟨x, h1, h2, h3⟩ := H.toGray a (hgw a ha)
    exact h3.trans (H.gray x h1 i hin (H.lastLe hw h1))
  have hlw : ∀ x ∈ w, lowUp s w i x = s.low x := fun x hx => by
    cases hl : w.getLast? with
    | none => unfold lowUp; rw [hl]
    | some p =>
      by_cases h : x = p
      · subst h
        rw [lowUp_last hl, hne]
        have := H.lowLe x (inw x hx); have := H.last hw hx
        exact Nat.min_eq_left (by omega)
      · exact lowUp_other hl h
  constructor
  · exact H.fresh
  · intro v
    rw [hall]
    show s.num v ≠ 0 ↔ v ∈ A ∨ v ∈ s.all ∨ v ∈ g
    rw [H.nums v, hmw]
    constructor
    · rintro ((h | h) | h)
      · exact .inl h
      · exact .inr (.inr h)
      · exact .inr (.inl h)
    · rintro (h | h | h)
      · exact .inl (.inl h)
      · exact .inr h
      · exact .inl (.inr h)
  · exact hst.1
  · have := H.wsorted
    rw [hw, List.pairwise_append] at this
    exact this.1
  · exact hwA
  · intro v hv
    rw [hall]
    rintro (h | h)
    · exact H.disj v (hAw v hv) h
    · have := hgi v h; have := hA v hv; omega
  · exact H.top
  · intro v hv u he
    rw [hall] at hv ⊢
    rcases hv with h | h
    · exact .inl (H.closed v h u he)
    · exact hgout v h u he
  · exact fun v hv u hu => H.procMet v (hAw v hv) u (hpr hu)
  · exact fun x hx y hy hxy => H.gray x (inw x hx) y (hAw y hy) hxy
  · intro y hy
    obtain ⟨x, h1, h2, h3⟩ := H.toGray y (hAw y hy)
    rw [hw] at h1
    rcases List.mem_append.1 h1 with h | h
    · exact ⟨x, h, h2, h3⟩
    · rw [List.mem_singleton] at h; subst h
      have := hA y hy; omega
  · exact fun x hx => Nat.le_trans (lowUp_le ..) (H.lowLe x (inw x hx))
  · intro x hx
    show ∃ u ∈ A, s.num u = lowUp s w i x ∧ Rch G x u
    rw [hlw x hx]
    obtain ⟨u, h1, h2, h3⟩ := H.lowIs x (inw x hx)
    refine ⟨u, (hmw.1 h1).resolve_right fun h => ?_, h2, h3⟩
    have := hgi u h; have := H.lowLe x (inw x hx); have := H.last hw hx; omega
  · intro x hx y hy hxy hz u hu hpu
    show lowUp s w i x ≤ s.num u
    rw [hlw x hx]
    refine H.lowAll x (inw x hx) y (hAw y hy) hxy (fun z hz' hzy => ?_) u (hAw u hu) (hpr hpu)
    rw [hw] at hz'
    rcases List.mem_append.1 hz' with h | h
    · exact hz z h hzy
    · rw [List.mem_singleton] at h; subst h
      have := hA y hy
      have hzy : s.num z ≤ s.num y := hzy
      omega
  · intro c hc a ha b
    rcases List.mem_append.1 hc with h | h
    · exact H.sccs c h a ha b
    · rw [List.mem_singleton] at h; subst h
      constructor
      · exact fun hb => ⟨(hrg a ha).trans (hgr b hb), (hrg b hb).trans (hgr a ha)⟩
      · rintro ⟨h1, h2⟩
        have h3 : b ∈ s.all ∨ b ∈ c := h1.closed (S := fun v => v ∈ s.all ∨ v ∈ c) (fun v u hv he => by
          rcases hv with h | h
          · exact .inl (H.closed v h u he)
          · exact hgout v h u he) (.inr ha)
        refine h3.resolve_left fun h4 => ?_
        have h5 : a ∈ s.all := h2.closed (S := fun v => v ∈ s.all) (fun v u hv he => H.closed v hv u he) h4
        exact H.disj a (hgw a ha) h5
  · intro c hc
    rcases List.mem_append.1 hc with h | h
    · exact H.some_ c h
    · rw [List.mem_singleton] at h; subst h
      intro e; have := hmg.2 (.inl rfl); rw [e] at this; cases this
  · show (s.ended ++ [g]).flatten.Nodup
    rw [List.flatten_append, List.nodup_append]
    refine ⟨H.nodup, ?_, fun a ha b hb e => ?_⟩
    · simp only [List.flatten_cons, List.flatten_nil, List.append_nil]
      rw [hg.nodup_iff]
      have h1 : s.wait.Nodup := H.sorted.imp fun {a b} h e => by subst e; omega
      rw [hW, List.nodup_append] at h1
      exact h1.2.1
    · simp only [List.flatten_cons, List.flatten_nil, List.append_nil] at hb
      subst e
      exact H.disj a (hgw a hb) ha
  · exact .snoc H.ords fun a ha u he => hgout a ha u he
end
end Go.Proofs.Ytadognaafgndnaa

/- Layer 28, plain: Tarjan's search as a machine: its steps keep what its state says; it ends. No program in sight; no condition but what each says. -/
namespace Go.Proofs.Ytadognaafgndnaa

/-- Insertion, structural: it reckons. -/
def insN (a : Nat) : List Nat → List Nat
  | [] => [a]
  | b :: l => if a ≤ b then a :: b :: l else b :: insN a l
def sortN : List Nat → List Nat
  | [] => []
  | a :: l => insN a (sortN l)
theorem insN_perm (a : Nat) : ∀ l, (insN a l).Perm (a :: l)
  | [] => .refl _
  | b :: l => by
    show (if a ≤ b then a :: b :: l else b :: insN a l).Perm _
    split
    · exact .refl _
    · exact ((insN_perm a l).cons b).trans (.swap a b l)
theorem sortN_perm : ∀ l, (sortN l).Perm l
  | [] => .refl _
  | a :: l => (insN_perm a _).trans ((sortN_perm l).cons a)
theorem insN_sorted (a : Nat) : ∀ {l}, l.Pairwise (· ≤ ·) → (insN a l).Pairwise (· ≤ ·)
  | [], _ => by simp [insN]
  | b :: l, h => by
    obtain ⟨h1, h2⟩ := List.pairwise_cons.1 h
    show (if a ≤ b then a :: b :: l else b :: insN a l).Pairwise (· ≤ ·)
    split
    · rename_i hab
      refine List.pairwise_cons.2 ⟨fun c hc => ?_, h⟩
      rcases List.mem_cons.1 hc with rfl | hc
      · exact hab
      · exact Nat.le_trans hab (h1 c hc)
    · rename_i hab
      refine List.pairwise_cons.2 ⟨fun c hc => ?_, insN_sorted a h2⟩
      rcases List.mem_cons.1 ((insN_perm a l).mem_iff.1 hc) with rfl | hc
      · omega
      · exact h1 c hc
theorem sortN_sorted : ∀ l, (sortN l).Pairwise (· ≤ ·)
  | [] => .nil
  | a :: l => insN_sorted a (sortN_sorted l)
theorem sortN_length (l : List Nat) : (sortN l).length = l.length := (sortN_perm l).length_eq
theorem sortN_mem {l : List Nat} {a : Nat} : a ∈ sortN l ↔ a ∈ l := (sortN_perm l).mem_iff
theorem nodup_le : ∀ {n : Nat} {l : List Nat}, l.Nodup → (∀ i ∈ l, i < n) → l.length ≤ n
  | 0, l, _, h => by
    cases l with
    | nil => exact Nat.le_refl _
    | cons a l => exact absurd (h a List.mem_cons_self) (by omega)
  | n + 1, l, hn, h => by
    have h1 : (l.erase n).length ≤ n := nodup_le (hn.erase n) fun i hi => by
      have h2 := (hn.mem_erase_iff.1 hi)
      have := h i h2.2
      have := h2.1
      omega
    have h2 := List.length_erase (a := n) (l := l)
    split at h2 <;> omega

/-- What waits ahead of one, and from it on. -/
def ahead_ (l : List Nat) (i : Nat) : List Nat := l.takeWhile fun a => a != i
def behind_ (l : List Nat) (i : Nat) : List Nat := (l.dropWhile fun a => a != i).tail
theorem split_at {l : List Nat} {i : Nat} (h : i ∈ l) : l = ahead_ l i ++ i :: behind_ l i ∧ i ∉ ahead_ l i := by
  induction l with
  | nil => cases h
  | cons a l ih =>
    unfold ahead_ behind_ at *
    by_cases e : a = i
    · subst e
      simp
    · have h2 : i ∈ l := by
        rcases List.mem_cons.1 h with h | h
        · exact absurd h.symm e
        · exact h
      obtain ⟨g1, g2⟩ := ih h2
      have hb : (a != i) = true := by simpa using e
      rw [List.takeWhile_cons, List.dropWhile_cons, if_pos hb, if_pos hb, List.cons_append, ← g1]
      refine ⟨rfl, fun h => ?_⟩
      rcases List.mem_cons.1 h with h | h
      · exact e h.symm
      · exact g2 h
def St.leave (s : St) (w : List Nat) (i : Nat) : St := if s.low i = s.num i then s.close w (ahead_ s.wait i) (sortN (i :: behind_ s.wait i)) i else s.up w i
def St.step (G : List (List Nat)) (s : St) : St := match s.way.getLast? with
  | none => s
  | some i => match (outs G i)[s.gone i]? with
    | some k => if s.num k = 0 then (s.go i).meet k else if k ∈ s.wait then (s.go i).lower i (s.num k) else s.go i
    | none => s.leave s.way.dropLast i
def St.run (G : List (List Nat)) : Nat → St → St
  | 0, s => s
  | m + 1, s => (s.step G).run G m
theorem St.run_add (G : List (List Nat)) (a b : Nat) (s : St) : s.run G (a + b) = (s.run G a).run G b := by
  induction a generalizing s with
  | zero => rw [Nat.zero_add]; rfl
  | succ a ih => rw [Nat.succ_add]; exact ih (s.step G)
theorem St.run_succ (G : List (List Nat)) (a : Nat) (s : St) : s.run G (a + 1) = (s.run G a).step G := St.run_add G a 1 s
theorem St.step_done {G : List (List Nat)} {s : St} (h : s.way = []) : s.step G = s := by unfold St.step; rw [h]; rfl
theorem St.run_done {G : List (List Nat)} {s : St} (h : s.way = []) (m : Nat) : s.run G m = s := by
  induction m with
  | zero => rfl
  | succ m ih => show (s.step G).run G m = s; rw [St.step_done h]; exact ih
theorem last_way {s : St} {w : List Nat} {i : Nat} (h : s.way = w ++ [i]) : s.way.getLast? = some i ∧ s.way.dropLast = w := by rw [h]; simp
theorem way_split {s : St} (h : s.way ≠ []) : ∃ w i, s.way = w ++ [i] := ⟨_, _, (List.dropLast_concat_getLast h).symm⟩

/-- A graph that may be. -/
def MayG (G : List (List Nat)) : Prop := ∀ l ∈ G, ∀ k ∈ l, k < G.length
theorem MayG.edge {G : List (List Nat)} (h : MayG G) {i k : Nat} (e : edge G i k) : i < G.length ∧ k < G.length := by
  unfold Proofs.Ytadognaafgndnaa.edge outs at e
  by_cases hi : i < G.length
  · rw [List.getD_eq_getElem?_getD, List.getElem?_eq_getElem hi] at e
    exact ⟨hi, h _ (List.getElem_mem hi) k e⟩
  · rw [List.getD_eq_getElem?_getD, List.getElem?_eq_none (by omega)] at e
    cases e
structure Good (G : List (List Nat)) (s : St) : Prop where
  inv : Inv G s
  lt : ∀ v, s.num v ≠ 0 → v < G.length
  cnt : s.met = s.wait.length + s.all.length
  srt : ∀ g ∈ s.ended, g.Pairwise (· ≤ ·)
theorem Good.waitLt {G : List (List Nat)} {s : St} (H : Good G s) {v : Nat} (hv : v ∈ s.wait) : v < G.length := H.lt v ((H.inv.nums v).2 (.inl hv))
theorem Good.wayLt {G : List (List Nat)} {s : St} (H : Good G s) {v : Nat} (hv : v ∈ s.way) : v < G.length := H.waitLt (H.inv.sub v hv)
theorem Good.waitLen {G : List (List Nat)} {s : St} (H : Good G s) : s.wait.length ≤ G.length :=
  nodup_le (H.inv.sorted.imp fun {a b} h e => by subst e; omega) fun v hv => H.waitLt hv
theorem Good.wayLen {G : List (List Nat)} {s : St} (H : Good G s) : s.way.length ≤ G.length :=
  nodup_le (H.inv.wsorted.imp fun {a b} h e => by subst e; omega) fun v hv => H.wayLt hv
theorem flat_len : ∀ {L : List (List Nat)}, (∀ g ∈ L, g ≠ []) → L.length ≤ L.flatten.length
  | [], _ => Nat.le_refl _
  | g :: L, h => by
    have h1 := flat_len (L := L) fun g hg => h g (List.mem_cons_of_mem _ hg)
    have h2 : 0 < g.length := List.length_pos_iff.2 (h g List.mem_cons_self)
    rw [List.flatten_cons, List.length_append, List.length_cons]
    omega
theorem Good.endedLen {G : List (List Nat)} {s : St} (H : Good G s) : s.ended.length ≤ G.length :=
  Nat.le_trans (flat_len H.inv.some_) (nodup_le H.inv.nodup fun v hv => H.lt v ((H.inv.nums v).2 (.inr hv)))
theorem Good.metLe {G : List (List Nat)} {s : St} (H : Good G s) : s.met ≤ 2 * G.length := by
  have h1 := H.waitLen
  have h2 : s.all.length ≤ G.length := nodup_le H.inv.nodup fun v hv => H.lt v ((H.inv.nums v).2 (.inr hv))
  have h3 := H.cnt
  omega
theorem Good.step {G : List (List Nat)} (hG : MayG G) {s : St} (H : Good G s) : Good G (s.step G) := by
  by_cases hw : s.way = []
  · rw [St.step_done hw]; exact H
  obtain ⟨w, i, hw⟩ := way_split hw
  obtain ⟨e1, e2⟩ := last_way hw
  have hi : i ∈ s.way := by rw [hw]; simp
  have hnm : ∀ {k x v : Nat}, setF s.num k x v ≠ 0 → k < G.length → v < G.length := fun {k x v} h hk => by
    by_cases e : v = k
    · subst e; exact hk
    · rw [setF_other _ _ e] at h; exact H.lt v h
  unfold St.step
  rw [e1]
  show Good G (match (outs G i)[s.gone i]? with | some k => _ | none => _)
  cases hk : (outs G i)[s.gone i]? with
  | none =>
    have hd : ∀ u, edge G i u → u ∈ (outs G i).take (s.gone i) := fun u hu => by
      rw [List.take_of_length_le (List.getElem?_eq_none_iff.1 hk)]; exact hu
    show Good G (s.leave s.way.dropLast i)
    rw [e2]
    unfold St.leave
    split
    · rename_i h
      refine ⟨H.inv.close hw hd h (split_at (H.inv.sub i hi)).1 (sortN_perm _), H.lt, ?_, fun g hg => by
        rcases List.mem_append.1 hg with hg | hg
        · exact H.srt g hg
        · rw [List.mem_singleton] at hg; subst hg; exact sortN_sorted _⟩
      have h1 := congrArg List.length (split_at (H.inv.sub i hi)).1
      rw [List.length_append, List.length_cons] at h1
      have h2 := H.cnt
      show s.met = (ahead_ s.wait i).length + (s.ended ++ [sortN (i :: behind_ s.wait i)]).flatten.length
      rw [List.flatten_append, List.length_append, List.flatten_singleton, sortN_length, List.length_cons]
      have h3 : s.all.length = s.ended.flatten.length := rfl
      omega
    · rename_i h
      exact ⟨H.inv.up hw hd h, H.lt, H.cnt, H.srt⟩
  | some k =>
    have hik : edge G i k := List.mem_of_getElem? hk
    obtain ⟨_, hkn⟩ := hG.edge hik
    show Good G (if s.num k = 0 then _ else _)
    split
    · rename_i h
      refine ⟨H.inv.meetChild hw hk h, fun v hv => hnm hv hkn, ?_, H.srt⟩
      show s.met + 1 = (s.wait ++ [k]).length + s.all.length
      rw [List.length_append, List.length_singleton, H.cnt]; omega
    · rename_i h
      have hx : ∀ x ∈ s.way, (∀ z ∈ s.way, s.num z ≤ s.num i → s.num z ≤ s.num x) → x = i := fun x hx hz =>
        sorted_inj H.inv.wsorted hx hi (Nat.le_antisymm (H.inv.lastLe hw hx) (hz i hi (Nat.le_refl _)))
      split
      · rename_i h2
        have h3 := H.inv.lower hi h2 (.one hik)
        have h4 : Inv G ((s.lower i (s.num k)).go i) := h3.go hi hk h fun x hx' _ hz _ => by
          have e := hx x hx' hz
          subst e
          show setF s.low x _ x ≤ s.num k
          rw [setF_same]; exact Nat.min_le_right _ _
        exact ⟨h4, H.lt, H.cnt, H.srt⟩
      · rename_i h2
        exact ⟨H.inv.go hi hk h fun x _ _ _ h => absurd h h2, H.lt, H.cnt, H.srt⟩
theorem Good.run {G : List (List Nat)} (hG : MayG G) : ∀ (m : Nat) {s : St}, Good G s → Good G (s.run G m)
  | 0, _, H => H
  | m + 1, _, H => Good.run hG m (H.step hG)
theorem Good.meetRoot {G : List (List Nat)} {s : St} (H : Good G s) {k : Nat} (hk : k < G.length) (hw : s.way = []) (h0 : s.num k = 0) : Good G (s.meet k) := by
  refine ⟨H.inv.meetRoot hw h0, fun v hv => ?_, ?_, H.srt⟩
  · have hv : setF s.num k (s.met + 1) v ≠ 0 := hv
    by_cases e : v = k
    · subst e; exact hk
    · rw [setF_other _ _ e] at hv; exact H.lt v hv
  · show s.met + 1 = (s.wait ++ [k]).length + s.all.length
    rw [List.length_append, List.length_singleton, H.cnt]; omega
/-- Which ones wait. -/
def St.wf (s : St) : Nat → Bool := fun j => decide (j ∈ s.wait)
theorem wf_meet (s : St) (i : Nat) : (s.meet i).wf = fun j => if j = i then true else s.wf j := by
  funext j
  show decide (j ∈ s.wait ++ [i]) = _
  by_cases h : j = i
  · rw [if_pos h]; simp [h]
  · rw [if_neg h]; simp [h, St.wf]
theorem wf_close {G : List (List Nat)} {s : St} (H : Good G s) {w A B g : List Nat} {i : Nat} (hW : s.wait = A ++ i :: B) : (s.close w A g i).wf = fun j => if j ∈ i :: B then false else s.wf j := by
  funext j
  show decide (j ∈ A) = _
  have hn : s.wait.Nodup := H.inv.sorted.imp fun {a b} h e => by subst e; omega
  rw [hW] at hn
  obtain ⟨_, _, h3⟩ := List.nodup_append.1 hn
  by_cases h : j ∈ i :: B
  · rw [if_pos h]
    have : j ∉ A := fun ha => h3 j ha j h rfl
    simpa using this
  · rw [if_neg h]
    unfold St.wf
    rw [hW]
    simp only [List.mem_append, h, or_false]
/-- How much is left to do. -/
def leftOf (G : List (List Nat)) (s : St) : Nat := ((List.range G.length).map fun v => (outs G v).length - s.gone v).sum
def St.left (G : List (List Nat)) (s : St) : Nat := 2 * leftOf G s + s.way.length
theorem sum_lower {f g : Nat → Nat} {i : Nat} : ∀ {n : Nat}, i < n → (∀ v, v ≠ i → f v = g v) → f i + 1 = g i → ((List.range n).map f).sum + 1 = ((List.range n).map g).sum
  | n + 1, hi, h, e => by
    rw [List.range_succ, List.map_append, List.map_append, List.sum_append, List.sum_append]
    simp only [List.map_cons, List.map_nil, List.sum_cons, List.sum_nil]
    by_cases hn : i = n
    · subst hn
      have : (List.range i).map f = (List.range i).map g := List.map_congr_left fun v hv => h v (by have := List.mem_range.1 hv; omega)
      rw [this]; omega
    · have h1 := sum_lower (n := n) (by omega) h e
      have := h n (by omega)
      omega
theorem leftOf_go {G : List (List Nat)} {s : St} {i k : Nat} (hi : i < G.length) (hk : (outs G i)[s.gone i]? = some k) : leftOf G (s.go i) + 1 = leftOf G s := by
  refine sum_lower hi (fun v hv => ?_) ?_
  · show _ - setF s.gone i _ v = _
    rw [setF_other _ _ hv]
  · show _ - setF s.gone i _ i + 1 = _
    rw [setF_same]
    have := (List.getElem?_eq_some_iff.1 hk).1
    omega
theorem St.left_step {G : List (List Nat)} (hG : MayG G) {s : St} (H : Good G s) (hw : s.way ≠ []) : (s.step G).left G < s.left G := by
  obtain ⟨w, i, hw⟩ := way_split hw
  obtain ⟨e1, e2⟩ := last_way hw
  have hi : i ∈ s.way := by rw [hw]; simp
  have hl : s.way.length = w.length + 1 := by rw [hw]; simp
  have hin := H.wayLt hi
  unfold St.step
  rw [e1]
  show St.left G (match (outs G i)[s.gone i]? with | some k => _ | none => _) < _
  cases hk : (outs G i)[s.gone i]? with
  | none =>
    show St.left G (s.leave s.way.dropLast i) < _
    rw [e2]
    have hll : ∀ b A g, leftOf G (s.close b A g i) = leftOf G s ∧ leftOf G (s.up b i) = leftOf G s := fun _ _ _ => ⟨rfl, rfl⟩
    unfold St.leave St.left
    split
    · show 2 * leftOf G s + w.length < _; omega
    · show 2 * leftOf G s + w.length < _; omega
  | some k =>
    have h1 := leftOf_go hin hk
    show St.left G (if s.num k = 0 then _ else _) < _
    unfold St.left
    split
    · show 2 * leftOf G (s.go i) + (s.way ++ [k]).length < _
      rw [List.length_append, List.length_singleton]; omega
    · split
      · show 2 * leftOf G (s.go i) + s.way.length < _; omega
      · show 2 * leftOf G (s.go i) + s.way.length < _; omega
theorem St.run_ends {G : List (List Nat)} (hG : MayG G) : ∀ (m : Nat) {s : St}, Good G s → s.left G ≤ m → (s.run G m).way = []
  | 0, s, H, h => by
    have h2 : s.way.length = 0 := by unfold St.left at h; omega
    exact List.length_eq_zero_iff.1 h2
  | m + 1, s, H, h => by
    by_cases hw : s.way = []
    · rw [St.run_done hw]; exact hw
    · exact St.run_ends hG m (H.step hG) (by have := St.left_step hG H hw; omega)
end Go.Proofs.Ytadognaafgndnaa

/- Layer 28, plain: the components of a graph, in the order in which they end. No program in sight; no condition but what each says. -/
namespace Go.Proofs.Ytadognaafgndnaa

def St.zero : St := { num := fun _ => 0, low := fun _ => 0, gone := fun _ => 0, way := [], wait := [], ended := [], met := 0 }
theorem Good.zero (G : List (List Nat)) : Good G St.zero := by
  refine ⟨⟨fun v _ => rfl, ?_, .nil, .nil, ?_, ?_, fun v => Nat.le_refl 0, ?_, ?_, ?_, ?_, ?_, ?_, ?_, ?_, ?_, .nil, .nil⟩, ?_, rfl, ?_⟩
  · intro v
    constructor
    · intro h; exact absurd rfl h
    · rintro (h | h) <;> cases h
  all_goals (intro v h; first | cases h | exact absurd rfl h)
/-- One node is visited, if it was not met. -/
def St.visit (G : List (List Nat)) (s : St) (i : Nat) : St := if s.num i = 0 then (s.meet i).run G ((s.meet i).left G) else s
def searchTo (G : List (List Nat)) (k : Nat) : St := (List.range k).foldl (St.visit G) St.zero
theorem searchTo_succ (G : List (List Nat)) (k : Nat) : searchTo G (k + 1) = (searchTo G k).visit G k := by
  unfold searchTo; rw [List.range_succ, List.foldl_append]; rfl
theorem run_unique {G : List (List Nat)} {s : St} {a b : Nat} (ha : (s.run G a).way = []) (hb : (s.run G b).way = []) : s.run G a = s.run G b := by
  rcases Nat.le_total a b with h | h
  · obtain ⟨d, rfl⟩ := Nat.exists_eq_add_of_le h
    rw [St.run_add, St.run_done ha]
  · obtain ⟨d, rfl⟩ := Nat.exists_eq_add_of_le h
    rw [St.run_add, St.run_done hb]
/-- What the number of a node was, it stays. -/
theorem step_num {G : List (List Nat)} (s : St) (v : Nat) (h : s.num v ≠ 0) : (s.step G).num v ≠ 0 := by
  unfold St.step
  cases s.way.getLast? with
  | none => exact h
  | some i =>
    show (St.num (match (outs G i)[s.gone i]? with | some k => _ | none => _) v) ≠ 0
    cases (outs G i)[s.gone i]? with
    | none =>
      show (s.leave _ i).num v ≠ 0
      unfold St.leave
      split <;> exact h
    | some k =>
      show (St.num (if s.num k = 0 then _ else _) v) ≠ 0
      split
      · show setF s.num k (s.met + 1) v ≠ 0
        by_cases e : v = k
        · subst e; rw [setF_same]; omega
        · rw [setF_other _ _ e]; exact h
      · split <;> exact h
theorem run_num {G : List (List Nat)} (m : Nat) (s : St) (v : Nat) (h : s.num v ≠ 0) : (s.run G m).num v ≠ 0 := by
  induction m generalizing s with
  | zero => exact h
  | succ m ih => exact ih _ (step_num s v h)
structure Visited (G : List (List Nat)) (s : St) (k : Nat) : Prop where
  good : Good G s
  way : s.way = []
  met : ∀ v, v < k → s.num v ≠ 0
theorem Visited.next {G : List (List Nat)} (hG : MayG G) {s : St} {k : Nat} (H : Visited G s k) (hk : k < G.length) : Visited G (s.visit G k) (k + 1) := by
  unfold St.visit
  by_cases h : s.num k = 0
  · rw [if_pos h]
    have hD := H.good.meetRoot hk H.way h
    refine ⟨hD.run hG _, St.run_ends hG _ hD (Nat.le_refl _), fun v hv => run_num _ _ _ ?_⟩
    show setF s.num k (s.met + 1) v ≠ 0
    by_cases e : v = k
    · subst e; rw [setF_same]; omega
    · rw [setF_other _ _ e]; exact H.met v (by omega)
  · rw [if_neg h]
    refine ⟨H.good, H.way, fun v hv => ?_⟩
    by_cases e : v = k
    · subst e; exact h
    · exact H.met v (by omega)
theorem visitedTo {G : List (List Nat)} (hG : MayG G) : ∀ k, k ≤ G.length → Visited G (searchTo G k) k
  | 0, _ => ⟨Good.zero G, rfl, fun v hv => absurd hv (Nat.not_lt_zero v)⟩
  | k + 1, h => by
    rw [searchTo_succ]
    exact (visitedTo hG k (by omega)).next hG (by omega)
/-- The components, in the order in which they end. -/
def groupsOf (G : List (List Nat)) : List (List Nat) := (searchTo G G.length).ended
/-- Nothing waits when the way is empty. -/
theorem Good.noWait {G : List (List Nat)} {s : St} (H : Good G s) (hw : s.way = []) : s.wait = [] := by
  cases h : s.wait with
  | nil => rfl
  | cons a l =>
    obtain ⟨x, hx, _⟩ := H.inv.toGray a (by rw [h]; exact List.mem_cons_self)
    rw [hw] at hx; cases hx
/-- What components are. -/
structure IsGroups (G : List (List Nat)) (L : List (List Nat)) : Prop where
  sccs : ∀ g ∈ L, ∀ a ∈ g, ∀ b, b ∈ g ↔ Rch G a b ∧ Rch G b a
  some_ : ∀ g ∈ L, g ≠ []
  nodup : L.flatten.Nodup
  all : ∀ v, v ∈ L.flatten ↔ v < G.length
  ords : Ords G L
  srt : ∀ g ∈ L, g.Pairwise (· ≤ ·)
theorem groupsOf_is {G : List (List Nat)} (hG : MayG G) : IsGroups G (groupsOf G) := by
  have H := visitedTo hG G.length (Nat.le_refl _)
  have hw := H.good.noWait H.way
  refine ⟨H.good.inv.sccs, H.good.inv.some_, H.good.inv.nodup, fun v => ?_, H.good.inv.ords, H.good.srt⟩
  constructor
  · intro h
    exact H.good.lt v ((H.good.inv.nums v).2 (.inr h))
  · intro h
    rcases (H.good.inv.nums v).1 (H.met v h) with h | h
    · rw [hw] at h; cases h
    · exact h
example : groupsOf [[1], [2], [0], [2]] = [[0, 1, 2], [3]] := by decide
example : groupsOf [[2], [0], [3], [2]] = [[2, 3], [0], [1]] := by decide
end Go.Proofs.Ytadognaafgndnaa

/- Layer 28, plain: components sorted by their least nodes. No program in sight; no condition but what each says. -/
namespace Go.Proofs.Ytadognaafgndnaa

def headN (l : List Nat) : Nat := l.headD 0
def insG (a : List Nat) : List (List Nat) → List (List Nat)
  | [] => [a]
  | b :: l => if headN a ≤ headN b then a :: b :: l else b :: insG a l
def sortG : List (List Nat) → List (List Nat)
  | [] => []
  | a :: l => insG a (sortG l)
theorem insG_perm (a : List Nat) : ∀ l, (insG a l).Perm (a :: l)
  | [] => .refl _
  | b :: l => by
    show (if headN a ≤ headN b then a :: b :: l else b :: insG a l).Perm _
    split
    · exact .refl _
    · exact ((insG_perm a l).cons b).trans (.swap a b l)
theorem sortG_perm : ∀ l, (sortG l).Perm l
  | [] => .refl _
  | a :: l => (insG_perm a _).trans ((sortG_perm l).cons a)
theorem insG_sorted (a : List Nat) : ∀ {l : List (List Nat)}, l.Pairwise (fun x y => headN x ≤ headN y) → (insG a l).Pairwise (fun x y => headN x ≤ headN y)
  | [], _ => by simp [insG]
  | b :: l, h => by
    obtain ⟨h1, h2⟩ := List.pairwise_cons.1 h
    show (if headN a ≤ headN b then a :: b :: l else b :: insG a l).Pairwise _
    split
    · rename_i hab
      refine List.pairwise_cons.2 ⟨fun c hc => ?_, h⟩
      rcases List.mem_cons.1 hc with rfl | hc
      · exact hab
      · exact Nat.le_trans hab (h1 c hc)
    · rename_i hab
      refine List.pairwise_cons.2 ⟨fun c hc => ?_, insG_sorted a h2⟩
      rcases List.mem_cons.1 ((insG_perm a l).mem_iff.1 hc) with rfl | hc
      · omega
      · exact h1 c hc
theorem sortG_sorted : ∀ l, (sortG l).Pairwise (fun x y => headN x ≤ headN y)
  | [] => .nil
  | a :: l => insG_sorted a (sortG_sorted l)
theorem sortG_length (l : List (List Nat)) : (sortG l).length = l.length := (sortG_perm l).length_eq
theorem sortG_mem {l : List (List Nat)} {a : List Nat} : a ∈ sortG l ↔ a ∈ l := (sortG_perm l).mem_iff
theorem headN_mem {l : List Nat} (h : l ≠ []) : headN l ∈ l := by
  cases l with
  | nil => exact absurd rfl h
  | cons a l => exact List.mem_cons_self
/-- Heads of groups that share nothing differ. -/
theorem heads_ne : ∀ {L : List (List Nat)}, L.flatten.Nodup → (∀ g ∈ L, g ≠ []) → L.Pairwise fun x y => headN x ≠ headN y
  | [], _, _ => .nil
  | g :: L, h, hn => by
    rw [List.flatten_cons, List.nodup_append] at h
    obtain ⟨_, h2, h3⟩ := h
    refine List.pairwise_cons.2 ⟨fun y hy e => ?_, heads_ne h2 fun g hg => hn g (List.mem_cons_of_mem _ hg)⟩
    refine h3 _ (headN_mem (hn g List.mem_cons_self)) _ ?_ rfl
    rw [e]
    exact List.mem_flatten.2 ⟨y, hy, headN_mem (hn y (List.mem_cons_of_mem _ hy))⟩
theorem strict_of {L : List (List Nat)} (h : L.Pairwise fun x y => headN x ≤ headN y) (hn : L.Pairwise fun x y => headN x ≠ headN y) : L.Pairwise fun x y => headN x < headN y :=
  (h.and hn).imp fun h => Nat.lt_of_le_of_ne h.1 h.2
/-- A permutation that is sorted by heads is the sorted one. -/
theorem sortG_unique {L M : List (List Nat)} (hd : L.flatten.Nodup) (hn : ∀ g ∈ L, g ≠ []) (hp : M.Perm L) (hs : M.Pairwise fun x y => headN x ≤ headN y) : M = sortG L := by
  have hne := heads_ne hd hn
  have sym : ∀ {x y : List Nat}, headN x ≠ headN y → headN y ≠ headN x := fun h e => h e.symm
  have h1 := strict_of hs ((hp.pairwise_iff sym).2 hne)
  have h2 := strict_of (sortG_sorted L) (((sortG_perm L).pairwise_iff sym).2 hne)
  exact (hp.trans (sortG_perm L).symm).eq_of_pairwise (le := fun x y => headN x < headN y) (fun a b _ _ h1 h2 => absurd h1 (by omega)) h1 h2
/-- Each node's group's place. -/
def numOf (L : List (List Nat)) (i : Nat) : Nat := L.findIdx fun g => g.contains i
def compsOf (G : List (List Nat)) : List Nat := (List.range G.length).map (numOf (sortG (groupsOf G)))
def orderOf (G : List (List Nat)) : List Nat := (groupsOf G).map fun g => (compsOf G).getD (headN g) 0
example : compsOf [[1], [2], [0], [2]] = [0, 0, 0, 1] := by decide
example : orderOf [[2], [0], [3], [2]] = [2, 0, 1] := by decide
end Go.Proofs.Ytadognaafgndnaa
