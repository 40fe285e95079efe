/- slices.Index, slices.Clone, slices.Sort at ints in memory of one's own: their contracts in the words of these texts. No condition but bounds. -/
import Derived.Test.YtadognaafgndnaaPSccM
import Derived.Test.YtadognaafgndnaaPSccP
import Derived.Test.YtadognaafgndnaaPShelf
import Derived.Sort.OwnSortedInts
set_option linter.all false
set_option linter.unusedVariables false
set_option linter.unusedSimpArgs false
set_option linter.unnecessarySimpa false
/- slices.Index, slices.Clone, slices.Sort at ints in memory of one's own: their contracts in the words of these texts. No condition but bounds. -/
namespace Go.Proofs.Ytadognaafgndnaa
open Go.RowKit Go.Sort Go.Shelf

def intZ (l : List Nat) : List Int := l.map fun n : Nat => (n : Int)
theorem intZ_v (l : List Nat) : (intZ l).map (Value.int .i64) = l.map intV := by simp [intZ, intV]
theorem mergeSort_ints (l : List Nat) : (intZ l).mergeSort (fun x y => decide (x ≤ y)) = intZ (sortN l) := by
  have hp : ((intZ l).mergeSort (fun x y => decide (x ≤ y))).Perm (intZ (sortN l)) := (List.mergeSort_perm _ _).trans ((sortN_perm l).symm.map _)
  refine hp.eq_of_pairwise (le := fun a b : Int => a ≤ b) (fun a b _ _ h1 h2 => Int.le_antisymm h1 h2) ?_ ?_
  · have h := List.pairwise_mergeSort (le := fun x y : Int => decide (x ≤ y)) (fun a b c h1 h2 => by simp at *; omega) (fun a b => by simp; omega) (intZ l)
    exact h.imp fun h => by simpa using h
  · have h := sortN_sorted l
    unfold intZ
    rw [List.pairwise_map]
    exact h.imp fun h => by omega
/-- The index of the first one. -/
theorem idxOf_ints {A B : List Nat} {i : Nat} (h : i ∉ A) : Lib.idxOf (intZ (A ++ i :: B)) (i : Int) = (A.length : Int) := by
  have hlen : (intZ (A ++ i :: B)).length = A.length + (B.length + 1) := by simp [intZ]
  have h2 := Lib.idxOf_hit (intZ (A ++ i :: B)) (intZ (A ++ i :: B)).length A.length (i : Int) (by omega) (Nat.le_refl _) (by simp [intZ]) (fun j hj => by
    have hj' : j < (A ++ i :: B).length := by simp; omega
    have e : (intZ (A ++ i :: B)).getD j 0 = ((A[j] : Nat) : Int) := by
      simp only [intZ, List.map_append]
      rw [List.getD, List.getElem?_append_left (by simpa using hj), List.getElem?_map, List.getElem?_eq_getElem hj]; rfl
    rw [e]
    intro e2
    have e3 : A[j] = i := by omega
    exact h (e3 ▸ List.getElem_mem hj))
  rwa [List.take_length] at h2
theorem index_c {w : World} {base : Nat} {v : Value} {L A B : List Nat} {i : Nat} (h : w.ownsRow base 3 1 v L.length (L.map intV)) (hL : L = A ++ i :: B) (hi : i ∉ A) (hb : L.length ≤ 5864062014640) :
    Calls Try.prog 37 #[v, .int .i64 (i : Nat)] w fun e w' => e = .returned (.int .i64 (A.length : Nat)) ∧ w' = w := by
  obtain ⟨a, c, rfl, _, h3⟩ := ints_form h
  have hl : 0 < L.length := by rw [hL, List.length_append, List.length_cons]; omega
  obtain ⟨g, rfl, _⟩ := h3 0 hl
  have h4 := Try.slices_Index_int g 0 L.length c (intZ L) (i : Int) w (by simp [intZ]) (by omega) (fun j hj => by
    have hj' : j < L.length := by simpa [intZ] using hj
    obtain ⟨g', e, h5⟩ := h3 j hj'
    cases e
    rw [Nat.zero_add, h5]; simp [intZ, intV, hj'])
  refine h4.mono ?_
  rintro e w' ⟨rfl, rfl⟩
  refine ⟨?_, rfl⟩
  rw [List.take_of_length_le (by simp [intZ]), hL, idxOf_ints hi]
theorem clone_c {w : World} {g k c : Nat} {M : List Nat} (h : ∀ j (hj : j < M.length), w.cell? ⟨g, k + j, none⟩ = some (intV M[j])) (hb : M.length ≤ 5864062014640) :
    Calls Try.prog 53 #[.slice (some ⟨g, k, none⟩) M.length c] w fun e w' => ∃ v, e = .returned v ∧ w'.ownsRow w.heap.size 3 1 v M.length (M.map intV) ∧ Fr w w' := by
  have h4 := Try.slices_Clone_int g k M.length c (intZ M) w (by simp [intZ]) (by omega) (fun j hj => by
    have hj' : j < M.length := by simpa [intZ] using hj
    rw [h j hj']; simp [intZ, intV, hj'])
  refine h4.mono ?_
  rintro e w' ⟨v, rfl, h5, _, h6⟩
  rw [List.take_of_length_le (by simp [intZ]), intZ_v] at h5
  exact ⟨v, rfl, h5, h6⟩
theorem sort_c {w : World} {base : Nat} {v : Value} {M : List Nat} (h : w.ownsRow base 3 1 v M.length (M.map intV)) (hb : M.length ≤ 5864062014640) (h0 : 0 < M.length) :
    Calls Try.prog 54 #[v] w fun e w' => e = .returned (.tuple #[]) ∧ w'.ownsRow base 3 1 v M.length ((sortN M).map intV) ∧ Chg (fun b => v.ownBlock = some b) w w' := by
  rcases h.2 with h1 | ⟨g, cap, cur, hv, hg, hbk, hn, hcap, hsz, htk⟩
  · exfalso; obtain ⟨_, h2⟩ := h1; simp_all
  subst hv
  have hlt : g < w.heap.size := World.ownsRow.lt h g rfl |>.2
  have hH : Holds (Value.int .i64) w g 0 (intZ M).toArray := holds_of_blockI hbk (by rw [intZ_v]; rw [Nat.mul_one] at htk; simpa [intZ] using htk)
  have hlen : (intZ M).length = M.length := by simp [intZ]
  have h4 := Try.slices_Sort_int g 0 cap (intZ M) w hH hlt (by omega)
  rw [hlen] at h4
  refine h4.mono ?_
  rintro e w' ⟨rfl, n, os, rfl⟩
  rw [mergeSort_ints]
  refine ⟨rfl, ?_, ?_⟩
  · have h5 := ownsRow_sortedI (n := n) (os := os) (ss := intZ M) (ts := intZ (sortN M)) (by simp [intZ, sortN_length]) hg hbk (by omega) hcap hsz
    rw [hlen, intZ_v] at h5
    exact h5
  · have h5 := grownBy_sortedI (w := w) (g := g) (n := n) (os := os) (intZ (sortN M)).toArray
    exact ⟨h5.os, h5.tape, h5.output, h5.size, fun k hk hne => h5.block k hk fun e => hne e.symm⟩
end Go.Proofs.Ytadognaafgndnaa

/- Layer 28: a component ends, in memory. No condition but what each says. -/
namespace Go.Proofs.Ytadognaafgndnaa
open Go.RowKit

/-- One more component. -/
theorem Mem.endedTo {w0 w w5 : World} {x : MB} {vG : Value} {n : Nat} {s : St} {wf : Nat → Bool} (H : Mem w0 w x vG n s wf) {v gv : Value} {g : List Nat} (hg : w.ownsRow w0.heap.size 3 1 gv g.length (g.map intV)) (hgn : ∀ b, gv.ownBlock = some b → ∀ i, x.ob i ≠ some b)
    (k : Chg (fun b => x.ve.ownBlock = some b) w w5) (hO : w5.ownsRow w0.heap.size 25 1 v (s.ended.length + 1) (x.gs ++ [gv])) (hat : ∀ b, v.ownBlock = some b → x.ve.ownBlock = some b ∨ w.heap.size ≤ b) :
    Mem w0 (w5.setCell ⟨x.q, 4, none⟩ v) { x with ve := v, gs := x.gs ++ [gv] } vG n { s with ended := s.ended ++ [g] } wf := by
  have hvq : v.ownBlock ≠ some x.q := fun e => by
    rcases hat _ e with h | h
    · have := H.inj 4 0 _ h rfl; omega
    · have := (H.ge (i := 0) rfl).2; omega
  have k2 : Chg (fun b => b = x.q) w5 (w5.setCell ⟨x.q, 4, none⟩ v) := (Chg.refl (fun b => b = x.q) w5).set (p := ⟨x.q, 4, none⟩) (.inr rfl) _
  have kk : Chg (fun b => ∃ i, (i = 4 ∨ i = 0) ∧ x.ob i = some b) w (w5.setCell ⟨x.q, 4, none⟩ v) := (k.mono fun b _ hb => ⟨4, .inl rfl, hb⟩).trans (k2.mono fun b _ hb => ⟨0, .inr rfl, by rw [hb]; rfl⟩)
  have K := H.kept (S := fun i => i = 4 ∨ i = 0) (w' := w5.setCell ⟨x.q, 4, none⟩ v) kk
  have hq : x.ve.ownBlock ≠ some x.q := fun e => by have := H.inj 4 0 _ e rfl; omega
  have cc : ∀ {o u}, Cel w x.q o u → o ≠ 4 → Cel (w5.setCell ⟨x.q, 4, none⟩ v) x.q o u := fun {o u} h ho => (h.chg k hq).keepSet (.inr ho) v
  have hg2 : (w5.setCell ⟨x.q, 4, none⟩ v).ownsRow w0.heap.size 3 1 gv g.length (g.map intV) := ownsRow_kept2 hg fun b hb => kk.block b (World.ownsRow.lt hg b hb).2 fun ⟨i, _, h⟩ => hgn b hb i h
  refine ⟨K.frm, cc H.c0 (by omega), cc H.c1 (by omega), cc H.c2 (by omega), cc H.c3 (by omega), (H.c4.chg k hq).set v, cc H.c5 (by omega),
    fun i hi => K.nod (H.n0 i hi) (by omega), fun i hi => K.nod (H.n1 i hi) (by omega), fun i hi => K.nod (H.n2 i hi) (by omega), fun i hi => K.nod (H.n3 i hi) (by omega),
    K.way (by omega), K.wait (by omega), ?_, ?_, ?_, ?_, H.geq, H.gen, K.ltn⟩
  · show (w5.setCell ⟨x.q, 4, none⟩ v).ownsRow _ _ 1 v (s.ended ++ [g]).length (x.gs ++ [gv])
    rw [List.length_append, List.length_singleton]
    exact ownsRow_kept2 hO fun g hg => k2.block g (World.ownsRow.lt hO g hg).2 fun e => hvq (by rw [← e]; exact hg)
  · show (x.gs ++ [gv]).length = (s.ended ++ [g]).length
    rw [List.length_append, List.length_append, H.glen]; rfl
  · intro j h h'
    have h : j < (x.gs ++ [gv]).length := h
    have h' : j < (s.ended ++ [g]).length := h'
    show (w5.setCell ⟨x.q, 4, none⟩ v).ownsRow _ _ 1 (x.gs ++ [gv])[j] (s.ended ++ [g])[j].length ((s.ended ++ [g])[j].map intV)
    by_cases hj : j < x.gs.length
    · have hj' : j < s.ended.length := by rw [← H.glen]; exact hj
      rw [List.getElem_append_left hj, List.getElem_append_left hj']
      exact K.grp (fun j => by show ¬ (j + 5 = 4 ∨ j + 5 = 0); omega) j hj hj'
    · have e1 : j = x.gs.length := by rw [List.length_append, List.length_singleton] at h; omega
      have e2 : j = s.ended.length := by rw [e1]; exact H.glen
      have e3 : (x.gs ++ [gv])[j] = gv := by subst e1; simp
      have e4 : (s.ended ++ [g])[j] = g := by simp [e2]
      rw [e3, e4]; exact hg2
  · have ob' : ∀ i b, MB.ob { x with ve := v, gs := x.gs ++ [gv] } i = some b → (i ≠ 4 ∧ i ≠ x.gs.length + 5 ∧ x.ob i = some b) ∨ (i = 4 ∧ v.ownBlock = some b) ∨ (i = x.gs.length + 5 ∧ gv.ownBlock = some b) := fun i b hb => by
      match i, hb with
      | 0, hb => exact .inl ⟨by omega, by omega, hb⟩
      | 1, hb => exact .inl ⟨by omega, by omega, hb⟩
      | 2, hb => exact .inl ⟨by omega, by omega, hb⟩
      | 3, hb => exact .inl ⟨by omega, by omega, hb⟩
      | 4, hb => exact .inr (.inl ⟨rfl, hb⟩)
      | j + 5, hb =>
        have hb : ((x.gs ++ [gv])[j]?).bind Value.ownBlock = some b := hb
        by_cases hj : j < x.gs.length
        · rw [List.getElem?_append_left hj] at hb
          exact .inl ⟨by omega, by omega, hb⟩
        · by_cases hj2 : j = x.gs.length
          · subst hj2
            rw [List.getElem?_append_right (Nat.le_refl _)] at hb
            simp at hb
            exact .inr (.inr ⟨rfl, hb⟩)
          · rw [List.getElem?_eq_none (by simp; omega)] at hb
            cases hb
    have hx4 : ∀ j b, j ≠ 4 → v.ownBlock = some b → x.ob j ≠ some b := fun j b hj hb e => by
      rcases hat b hb with h | h
      · exact hj (H.inj j 4 b e h)
      · have := (H.ge e).2; omega
    have hvg : ∀ b, v.ownBlock = some b → gv.ownBlock ≠ some b := fun b hb e => by
      rcases hat b hb with h | h
      · exact hgn b e 4 h
      · have := (World.ownsRow.lt hg b e).2; omega
    intro i j b hi hj
    rcases ob' i b hi with ⟨i1, _, i2⟩ | ⟨i1, i2⟩ | ⟨i1, i2⟩ <;> rcases ob' j b hj with ⟨j1, _, j2⟩ | ⟨j1, j2⟩ | ⟨j1, j2⟩
    · exact H.inj i j b i2 j2
    · exact absurd i2 (hx4 i b i1 j2)
    · exact absurd i2 (hgn b j2 i)
    · exact absurd j2 (hx4 j b j1 i2)
    · omega
    · exact absurd j2 (hvg b i2)
    · exact absurd j2 (hgn b i2 j)
    · exact absurd i2 (hvg b j2)
    · omega
/-- Those that wait, from a place on. -/
theorem Mem.waitAt {w0 w : World} {x : MB} {vG : Value} {n : Nat} {s : St} {wf : Nat → Bool} (H : Mem w0 w x vG n s wf) {A M : List Nat} (hW : s.wait = A ++ M) (hM : 0 < M.length) :
    ∃ g c, x.vt = .slice (some ⟨g, 0, none⟩) (A.length + M.length) c ∧ A.length + M.length ≤ c ∧ (∀ j (hj : j < M.length), w.cell? ⟨g, A.length + j, none⟩ = some (intV M[j])) ∧ w.ownsRow w0.heap.size 3 1 (.slice (some ⟨g, 0, none⟩) A.length c) A.length (A.map intV) := by
  obtain ⟨a, c, h1, h2, h3⟩ := ints_form H.wait
  have hl : s.wait.length = A.length + M.length := by rw [hW, List.length_append]
  obtain ⟨g, rfl, _⟩ := h3 A.length (by omega)
  rw [hl] at h1 h2
  refine ⟨g, c, h1, h2, fun j hj => ?_, ?_⟩
  · obtain ⟨g', e, h4⟩ := h3 (A.length + j) (by omega)
    cases e
    have e5 : s.wait[A.length + j]'(by omega) = M[j] := by simp [hW]
    rw [e5] at h4; exact h4
  · have h5 := H.wait
    rw [h1, hl, hW, List.map_append] at h5
    have h6 := ownsRow_first (xs := A.map intV) (n := M.length) (ys := M.map intV) (by rw [List.length_map]; exact h5)
    rwa [List.length_map] at h6
/-- A block of neither is written. -/
theorem Mem.apart {w0 w w' : World} {x : MB} {vG : Value} {n : Nat} {s : St} {wf : Nat → Bool} (H : Mem w0 w x vG n s wf) {S : Nat → Prop} (k : Chg S w w') (hS : ∀ b, S b → (∀ i, x.ob i ≠ some b) ∧ w0.heap.size ≤ b) : Mem w0 w' x vG n s wf := by
  have z0 : ¬ S x.q := fun h => (hS _ h).1 0 rfl
  have z1 : ¬ S x.gn := fun h => (hS _ h).1 1 rfl
  refine ⟨k.fr H.frm fun b hb => (hS b hb).2, H.c0.chg k z0, H.c1.chg k z0, H.c2.chg k z0, H.c3.chg k z0, H.c4.chg k z0, H.c5.chg k z0, fun i hi => (H.n0 i hi).chg k z1, fun i hi => (H.n1 i hi).chg k z1, fun i hi => (H.n2 i hi).chg k z1, fun i hi => (H.n3 i hi).chg k z1,
    ownsRow_kept2 H.way fun g hg => k.block g (World.ownsRow.lt H.way g hg).2 fun h => (hS _ h).1 2 hg, ownsRow_kept2 H.wait fun g hg => k.block g (World.ownsRow.lt H.wait g hg).2 fun h => (hS _ h).1 3 hg,
    ownsRow_kept2 H.ended fun g hg => k.block g (World.ownsRow.lt H.ended g hg).2 fun h => (hS _ h).1 4 hg, H.glen, fun j h h' => ownsRow_kept2 (H.grp j h h') fun g hg => k.block g (World.ownsRow.lt (H.grp j h h') g hg).2 fun h3 => (hS _ h3).1 (j + 5) ?_, H.inj, H.geq, H.gen, Nat.lt_of_lt_of_le H.ltn k.size⟩
  show (x.gs[j]?).bind Value.ownBlock = some g
  rw [List.getElem?_eq_getElem h]; exact hg
theorem vals_form {w : World} {base n : Nat} {e : TypeId} {v : Value} {xs : List Value} (h : w.ownsRow base e 1 v n xs) : ∃ a c, v = .slice a n c := by
  rcases h.2 with ⟨h1, h2⟩ | ⟨g, cap, cur, h1, _⟩
  · exact ⟨none, 0, by rw [h1, h2]⟩
  · exact ⟨_, _, h1⟩
theorem Try.infoSl : (Try.prog.info? 25).map (fun i => (i.zero, i.size, i.bytes)) = some (some (.slice none 0 0), 1, 24) := by kernel_rfl
set_option maxHeartbeats 1000000 in
/-- One slice more. -/
theorem wpList_appendVal {base : Nat} {w : World} {ops : Array Oper} {rest : List Oper} {o : Oper} {a : Act} {Q : Exit → Act → World → Prop} (hgd : o.guard = none) (s x : Operand)
    (ho : o.op = .call { callee := .builtin .append, args := #[s, x], argTypes := #[22, 22] }) (v : Value) (L : List Value) (hs : a.eval s = v) (hown : w.ownsRow base 25 1 v L.length L) (f : base ≤ w.heap.size)
    (b c : Nat) (p : Value) (hp : p.oneCell' = true) (hx : a.eval x = .slice (some ⟨b, 0, none⟩) 1 c) (hy : w.cell? ⟨b, 0, none⟩ = some p) (hn : L.length ≤ 5864062014640)
    (h : ∀ va vn vc w', w'.ownsRow base 25 1 (.slice va vn vc) (L.length + 1) (L ++ [p]) → Chg (fun b => v.ownBlock = some b) w w' → (∀ g, (Value.slice va vn vc).ownBlock = some g → v.ownBlock = some g ∨ g = w.heap.size) → wpList Try.prog ops Q rest (a.put o.dst (.slice va vn vc)) w') : wpList Try.prog ops Q (o :: rest) a w := by
  obtain ⟨i0, hi0, hz0, hz1, hz2⟩ := info_parts Try.infoSl
  refine wpList_append_lies _ hgd s x 22 ho base 25 i0 _ 1 24 Try.underlying22 hi0 hz0 hz1 hz2 rfl (by omega) v L.length L hs hown ⟨b, 0, none⟩ 1 c [p] hx rfl (fun j u hj => ?_) (fun u hu => by rw [List.mem_singleton] at hu; subst hu; exact hp) (by omega) (by unfold maxLen; omega) (by omega) f w.heap.size rfl ?_
  · rw [WideShapes.add_plain, Nat.zero_add]
    cases j with
    | zero => simp at hj; subst hj; exact hy
    | succ j => simp at hj
  · intro g cap w' hown' hgrow hat hlt
    refine h _ _ _ w' ?_ ?_ (fun g' he => by simp [Value.ownBlock] at he; subst he; exact hat)
    · simpa using hown'
    · exact ⟨hgrow.os, hgrow.tape, hgrow.output, hgrow.size, fun k hk hne => hgrow.block k hk (fun e => hne e.symm)⟩
end Go.Proofs.Ytadognaafgndnaa

/- scc.search.leave where a component ends: its walk. No condition but that the search lies there, and bounds. -/
namespace Go.Proofs.Ytadognaafgndnaa
open Go.RowKit
attribute [local go_sem] Oper.semAt_some

def close_post (w0 : World) (x : MB) (vG : Value) (n : Nat) (s : St) (wf : Nat → Bool) (wv A B : List Nat) (i : Nat) (e : Ending) (w' : World) : Prop :=
  e = .returned (.tuple #[]) ∧ ∃ vw vt ve gv, Mem w0 w' { x with vw := vw, vt := vt, ve := ve, gs := x.gs ++ [gv] } vG n (s.close wv A (sortN (i :: B)) i) (fun j => if j ∈ i :: B then false else wf j)
set_option maxRecDepth 100000 in
set_option maxHeartbeats 8000000 in
theorem leaveEnd_c {w0 w : World} {x : MB} {vG : Value} {n : Nat} {s : St} {wf : Nat → Bool} (H : Mem w0 w x vG n s wf) {wv : List Nat} {i : Nat} (hw : s.way = wv ++ [i]) (hi : ∀ v ∈ s.way, v < n) (hv : ∀ v ∈ s.wait, v < n) (hn : n ≤ 5864062014640) (h1 : s.way.length ≤ 5864062014640) (h2 : s.wait.length ≤ 5864062014640) (h3 : s.ended.length ≤ 5864062014640) (heq : s.low i = s.num i) {A B : List Nat} (hW : s.wait = A ++ i :: B) (hA : i ∉ A) {w2 : List Nat} {p : Nat} (hwv : wv = w2 ++ [p]) :
    Calls Try.prog 41 #[Pt x.q] w fun e w' => close_post w0 x vG n s wf wv A B i e w' := by
  have hin : i < n := hi i (by rw [hw]; simp)
  have HQ := Lib.hid heq
  clear heq
  have hpn : p < n := hi p (by rw [hw, hwv]; simp)
  have hwp : (0 : Int) < (wv.length : Int) := by rw [hwv, List.length_append, List.length_singleton]; omega
  have HWV := Lib.hid hwv
  clear hwv
  obtain ⟨g, c, hvw, hgc, hcl, hfirst⟩ := H.lastWay hw
  have c2 := H.c2.1
  rw [hvw] at c2
  have lq := H.c2.lt
  have lg := lt_of_cell hcl
  simp only at lg
  have hwl : wv.length + 1 ≤ 5864062014640 := by rw [hw] at h1; simpa using h1
  have HH := Lib.hid H
  clear H hfirst
  go_enter Try.func41, Try.ntmps41
  go_wp2_with fail
  go_quiet (fail)
  clear c2 hcl lq lg
  refine gen_w fun W1 hW1 => ?_
  have HA : Hid (Mem w0 W1 x vG n s wf) := by rw [hW1]; exact HH.out.fr ((Fr.refl w).drewN nq)
  clear hW1 HH
  have c2 := HA.out.c2.1
  rw [hvw] at c2
  have e2 := FrW.cell c2
  have lq : x.q < W1.heap.size := HA.out.c2.lt
  have lz : ∀ z : FrW W1, x.q < z.val.heap.size := fun z => Nat.lt_of_lt_of_le lq z.fr.size
  have hcc : wv.length ≤ c := by omega
  go_wp2_with fail
  refine wp_region_frt 14 (by kernel_rfl) (by kernel_rfl) ?_
  simp only [List.take_succ_cons, List.take_zero]
  repeat (go_big_quiet_step (fail))
  refine wpQuiet_nil ?_
  rintro w5 ⟨⟨_, hf5⟩, rfl⟩
  simp only [List.drop_succ_cons, List.drop_zero]
  have HB := Lib.hid (HA.out.fr hf5)
  clear c2 e2 lq lz hf5 HA
  obtain ⟨g', c', hvw', _, _, hfirst⟩ := HB.out.lastWay hw
  rw [hvw] at hvw'
  cases hvw'
  have HC := Lib.hid (HB.out.wayTo (v := .slice (some ⟨g, 0, none⟩) wv.length c) (L := wv) (Chg.refl _ w5) hfirst (fun g' hg => .inl (by rw [hvw]; exact hg)))
  have c2 := HB.out.c2.1
  have f2 := HB.out.c2.2
  have lq := HB.out.c2.lt
  have c1 := HC.out.c1.1
  have hx : (w5.setCell ⟨x.q, 2, none⟩ (.slice (some ⟨g, 0, none⟩) wv.length c)).rangeAt x.gn (i * 4) [.int .i64 (s.num i : Nat), .int .i64 (s.low i : Nat), .bool (wf i), .int .i64 (s.gone i : Nat)] := node_at HC.out hin
  have c1 : (w5.setCell ⟨x.q, 2, none⟩ (.slice (some ⟨g, 0, none⟩) wv.length c)).cell? ⟨x.q, 1, none⟩ = some (.slice (some ⟨x.gn, 0, none⟩) n n) := c1
  have lgn : x.gn < (w5.setCell ⟨x.q, 2, none⟩ (.slice (some ⟨g, 0, none⟩) wv.length c)).heap.size := HC.out.ltn
  clear hfirst
  go_wp2_with (first | ((with_reducible refine wpList_here (.load 59 (.tmp 40)) rfl ?_); refine wpList_load_midW 59 (.tmp 40) rfl x.gn (i * 4) rfl _ _ hx Try.underlying59 rfl Try.infoNode rfl ?_) | ((with_reducible refine wpList_here (.store 59 (.tmp 3) (.tmp 41)) rfl ?_); refine wpList_store_new 59 (.tmp 3) (.tmp 41) rfl _ #[.int .i64 (s.num i : Nat), .int .i64 (s.low i : Nat), .bool (wf i), .int .i64 (s.gone i : Nat)] _ rfl rfl rfl Try.infoNode rfl (by simp [Value.oneCell']) rfl rfl ?_))
  refine gen_w fun W6 hW6 => ?_
  have HD : Hid (Mem w0 W6 { x with vw := .slice (some ⟨g, 0, none⟩) wv.length c } vG n { s with way := wv } wf) := by rw [hW6]; exact HC.out.fr ((Fr.refl _).alloc _)
  have hB : BoxAt W6 w5.heap.size #[.int .i64 (s.num i : Nat), .int .i64 (s.low i : Nat), .bool (wf i), .int .i64 (s.gone i : Nat)] 59 := by rw [hW6]; exact BoxAt.new' _ _ _ _ (by simp)
  have hgb : x.gn ≠ w5.heap.size := by have h9 : x.gn < w5.heap.size := HB.out.ltn; omega
  generalize w5.heap.size = bx at hB hgb ⊢
  clear hW6 HC HB c1 c2 f2 lq hx lgn
  obtain ⟨g3, c3, hv3, _, hcl, _⟩ := HD.out.lastWay (wv := w2) (i := p) HWV.out
  have hwl2 : wv.length = w2.length + 1 := by rw [HWV.out]; simp
  have hv3 : (Value.slice (some ⟨g, 0, none⟩) wv.length c) = .slice (some ⟨g3, 0, none⟩) (w2.length + 1) c3 := hv3
  simp only [Value.slice.injEq, Option.some.injEq, Addr.mk.injEq, and_true] at hv3
  obtain ⟨rfl, _, rfl⟩ := hv3
  have hjn : (wv.length : Int) - 1 = (w2.length : Int) := by omega
  have hw2 : w2.length < wv.length := by omega
  have c1 : W6.cell? ⟨x.q, 1, none⟩ = some (.slice (some ⟨x.gn, 0, none⟩) n n) := HD.out.c1.1
  have c2 : W6.cell? ⟨x.q, 2, none⟩ = some (.slice (some ⟨g, 0, none⟩) wv.length c) := HD.out.c2.1
  have lq : x.q < W6.heap.size := HD.out.c1.lt
  have lg := lt_of_cell hcl
  simp only at lg
  clear hwl2
  go_quiet (fail)
  refine gen_w fun W7 hW7 => ?_
  have HD7 : Hid (Mem w0 W7 { x with vw := .slice (some ⟨g, 0, none⟩) wv.length c } vG n { s with way := wv } wf) := by rw [hW7]; exact HD.out.fr ((Fr.refl _).drewN _)
  have hB7 : BoxAt W7 bx #[.int .i64 (s.num i : Nat), .int .i64 (s.low i : Nat), .bool (wf i), .int .i64 (s.gone i : Nat)] 59 := by rw [hW7]; exact hB.drewN _
  have HB7 := Lib.hid hB7
  have hlp : W7.cell? ⟨x.gn, p * 4 + 1, none⟩ = some (.int .i64 (s.low p : Nat)) := (HD7.out.n1 p hpn).1
  have k1 : W7.cell? ⟨bx, 1, none⟩ = some (.int .i64 (s.low i : Nat)) := hB7.at 1 rfl
  have e1 := FrW.cell hlp
  have e2 := FrW.cell k1
  have lgn : x.gn < W7.heap.size := HD7.out.ltn
  have lbx := hB7.lt
  have t1 : ∀ z : FrW W7, x.gn < z.val.heap.size := fun z => Nat.lt_of_lt_of_le lgn z.fr.size
  have t2 : ∀ z : FrW W7, bx < z.val.heap.size := fun z => Nat.lt_of_lt_of_le lbx z.fr.size
  have hmin : min ((s.low p : Nat) : Int) ((s.low i : Nat) : Int) = ((min (s.low p) (s.low i) : Nat) : Int) := by omega
  clear hW7 HD hB c1 c2 lq lg hcl hB7
  go_wp2_with fail
  refine wp_region_frt 13 (by kernel_rfl) (by kernel_rfl) ?_
  simp only [List.take_succ_cons, List.take_zero]
  repeat (go_big_quiet_step (fail))
  refine wpQuiet_nil ?_
  rintro w8 ⟨⟨_, hf8⟩, rfl⟩
  simp only [List.drop_succ_cons, List.drop_zero]
  have hif : (if s.low i < s.low p then ((s.low i : Nat) : Int) else ((s.low p : Nat) : Int)) = ((min (s.low p) (s.low i) : Nat) : Int) := by split <;> omega
  try rw [hif]
  clear hif hmin
  have HD8 := Lib.hid (HD7.out.fr hf8)
  have hB8 := HB7.out.fr hf8
  have HE := Lib.hid (HD8.out.lowTo p (min (s.low p) (s.low i)))
  have hB9 := hB8.set (p := ⟨x.gn, p * 4 + 1, none⟩) hgb (.int .i64 ((min (s.low p) (s.low i) : Nat) : Int))
  have k0 := hB9.at 0 rfl
  have k1 := hB9.at 1 rfl
  have lb9 := hB9.lt
  have hl8 : w8.cell? ⟨x.gn, p * 4 + 1, none⟩ = some (.int .i64 (s.low p : Nat)) := (HD8.out.n1 p hpn).1
  have fl8 : w8.frozen? ⟨x.gn, p * 4 + 1, none⟩ = false := (HD8.out.n1 p hpn).2
  have lg8 : x.gn < w8.heap.size := HD8.out.ltn
  have HEQ : Hid (St.up s wv i = { s with way := wv, low := setF s.low p (min (s.low p) (s.low i)) }) := Lib.hid (by unfold St.up lowUp; rw [HWV.out]; simp)
  clear e1 e2 t1 t2 hlp lgn lbx hf8 HD7 HD8 hB8 hB9 HB7
  have HE2 : Hid (Mem w0 (w8.setCell ⟨x.gn, p * 4 + 1, none⟩ (.int .i64 ((min (s.low p) (s.low i) : Nat) : Int))) { x with vw := .slice (some ⟨g, 0, none⟩) wv.length c } vG n (St.up s wv i) wf) := by rw [HEQ.out]; exact HE.out
  clear HE
  obtain ⟨gt, tc, hvt, htc, hct, hfT⟩ := HE2.out.waitAt (A := A) (M := i :: B) hW (by simp)
  have hvt : x.vt = .slice (some ⟨gt, 0, none⟩) (A.length + (i :: B).length) tc := hvt
  have HVT := Lib.hid hvt
  have c3 : (w8.setCell ⟨x.gn, p * 4 + 1, none⟩ (.int .i64 ((min (s.low p) (s.low i) : Nat) : Int))).cell? ⟨x.q, 3, none⟩ = some x.vt := HE2.out.c3.1
  rw [hvt] at c3
  have lq : x.q < (w8.setCell ⟨x.gn, p * 4 + 1, none⟩ (.int .i64 ((min (s.low p) (s.low i) : Nat) : Int))).heap.size := HE2.out.c3.lt
  have hIX : Calls Try.prog 37 #[x.vt, .int .i64 (i : Nat)] (w8.setCell ⟨x.gn, p * 4 + 1, none⟩ (.int .i64 ((min (s.low p) (s.low i) : Nat) : Int))) fun e w' => e = .returned (.int .i64 (A.length : Nat)) ∧ w' = w8.setCell ⟨x.gn, p * 4 + 1, none⟩ (.int .i64 ((min (s.low p) (s.low i) : Nat) : Int)) := index_c HE2.out.wait hW hA h2
  rw [hvt] at hIX
  have HIX := Lib.hid hIX
  have HCT := Lib.hid hct
  have HFT := Lib.hid hfT
  have hzz : (((s.low i : Nat) : Int) != ((s.num i : Nat) : Int)) = false := by rw [HQ.out]; simp
  clear hvt hct hfT hIX
  go_wp2_with fail
  refine HIX.out.mono ?_
  rintro e w9 ⟨rfl, rfl⟩
  clear HIX
  have hlt : A.length + (i :: B).length ≤ 5864062014640 := by rw [hW, List.length_append] at h2; exact h2
  have hAl : A.length < A.length + (i :: B).length := by simp
  go_wp2_with fail
  have hcl := clone_c (w := w8.setCell ⟨x.gn, p * 4 + 1, none⟩ (.int .i64 ((min (s.low p) (s.low i) : Nat) : Int))) (g := gt) (k := A.length) (M := i :: B) (c := tc - A.length) HCT.out (by omega)
  refine hcl.mono ?_
  rintro e w10 ⟨vg, rfl, hO10, hf10⟩
  clear hcl
  have hrow : 0 < (i :: B).length := by simp
  have hMn : ∀ a ∈ i :: B, a < n := fun a ha => hv a (by rw [hW]; exact List.mem_append_right _ ha)
  have hMl : (i :: B).length ≤ 5864062014640 := by omega
  have HM := Lib.hid (HE2.out.fr hf10)
  obtain ⟨ga, gc, rfl, hgc, hgx⟩ := ints_form hO10
  obtain ⟨gb, rfl, _⟩ := hgx 0 hrow
  have hgb0 := World.ownsRow.lt hO10 gb rfl
  have HGB : Hid (∀ j, MB.ob { x with vw := .slice (some ⟨g, 0, none⟩) wv.length c } j ≠ some gb) := fun j e => by
    have h9 := (HE2.out.ge e).2
    have h8 := hgb0.1
    omega
  have HG0 := Lib.hid (ownsRow_base hO10 HE2.out.frm.size)
  have HGX : Hid (∀ k (hk : k < (i :: B).length), w10.cell? ⟨gb, k, none⟩ = some (intV (i :: B)[k])) := fun k hk => by
    obtain ⟨g', e, h⟩ := hgx k hk
    cases e; exact h
  have HMM : Hid (∀ a, a ∈ i :: B ↔ a = i ∨ a ∈ B) := fun a => List.mem_cons
  have hlg : gb < w10.heap.size := hgb0.2
  generalize hM : i :: B = M at hO10 hgc hgx HGX HG0 hMn hMl hrow hlt hAl ⊢
  have HMQ := Lib.hid hM
  clear hM hgx hO10 hf10 hgb0
  go_wp2_with fail
  go_loopw [100] (fun vk wr => ∃ k : Nat, k ≤ M.length ∧ vk = .int .i64 k ∧ Hid (Mem w0 wr { x with vw := .slice (some ⟨g, 0, none⟩) wv.length c } vG n (St.up s wv i) (fun j => if j ∈ M.take k then false else wf j) ∧ Chg (fun b => b = x.gn) w10 wr)) (fun vk _ => M.length - (intOf vk).toNat)
  case atStart => exact ⟨0, Nat.zero_le _, rfl, ⟨by simpa using HM.out, Chg.refl _ _⟩⟩
  case round =>
    obtain ⟨k, hk, rfl, HR⟩ := hrel
    by_cases hkt : k < M.length
    · have hgn : gb ≠ x.gn := fun e => HGB.out 1 (by rw [e]; rfl)
      have hc := HR.out.2.keep (HGX.out k hkt) (by exact hgn)
      have lg := lt_of_cell hc
      simp only at lg
      unfold intV at hc
      have hjn := hMn M[k] (List.getElem_mem hkt)
      have HJ : Hid (M.take (k + 1) = M.take k ++ [M[k]]) := Lib.hid (List.take_succ_eq_append_getElem hkt)
      generalize M[k] = j at hc hjn HJ
      have HW := Lib.hid (HR.out.1.waitsTo j false)
      have c1 : wr.cell? ⟨x.q, 1, none⟩ = some (.slice (some ⟨x.gn, 0, none⟩) n n) := HR.out.1.c1.1
      have lq : x.q < wr.heap.size := HR.out.1.c1.lt
      have cj := (HR.out.1.n2 j hjn).1
      have fj := (HR.out.1.n2 j hjn).2
      have lgn : x.gn < wr.heap.size := HR.out.1.ltn
      clear hgn
      go_wp2_with fail
      go_roundw
      case rel =>
        refine ⟨k + 1, by omega, by go_num, ⟨?_, HR.out.2.set (p := ⟨x.gn, j * 4 + 2, none⟩) (.inr rfl) _⟩⟩
        have hfe : (fun a => if a ∈ M.take (k + 1) then false else wf a) = fun a => if a = j then false else if a ∈ M.take k then false else wf a := by
          funext a
          rw [HJ.out]
          by_cases h : a = j
          · rw [if_pos h, if_pos (by simp [h])]
          · rw [if_neg h]; simp [h]
        rw [hfe]; exact HW.out
      case measure => first | (simp [intOf]; done) | (simp [intOf]; omega)
    · obtain rfl : k = M.length := by omega
      have hR := HR.out.1
      rw [List.take_length] at hR
      have HRM := Lib.hid hR
      have HRC := Lib.hid HR.out.2
      obtain ⟨gt2, tc2, hvt2, htc2, hct2, hfT2⟩ := hR.waitAt (A := A) (M := i :: B) hW (by simp)
      have hvt2 : x.vt = .slice (some ⟨gt2, 0, none⟩) (A.length + (i :: B).length) tc2 := hvt2
      rw [HVT.out] at hvt2
      cases hvt2
      have HW2 := Lib.hid (hR.waitTo (v := .slice (some ⟨gt, 0, none⟩) A.length tc) (L := A) (Chg.refl _ wr) hfT2 (fun b hb => .inl (by show x.vt.ownBlock = some b; rw [HVT.out]; exact hb)))
      have c3 : wr.cell? ⟨x.q, 3, none⟩ = some x.vt := hR.c3.1
      have f3 : wr.frozen? ⟨x.q, 3, none⟩ = false := hR.c3.2
      rw [HVT.out] at c3
      have lq : x.q < wr.heap.size := hR.c3.lt
      have hAt : A.length ≤ tc := by omega
      have hql : gb ≠ x.q := fun e => HGB.out 0 (by rw [e]; rfl)
      have hqn : gb ≠ x.gn := fun e => HGB.out 1 (by rw [e]; rfl)
      have HCH : Hid (Chg (fun b => b = x.gn ∨ b = x.q) w10 (wr.setCell ⟨x.q, 3, none⟩ (.slice (some ⟨gt, 0, none⟩) A.length tc))) := Lib.hid (Chg.set (S := fun b => b = x.gn ∨ b = x.q) (HR.out.2.mono fun b _ hb => Or.inl hb) (p := ⟨x.q, 3, none⟩) (.inr (.inr rfl)) _)
      have HG2 : Hid ((wr.setCell ⟨x.q, 3, none⟩ (.slice (some ⟨gt, 0, none⟩) A.length tc)).ownsRow w0.heap.size 3 1 (.slice (some ⟨gb, 0, none⟩) M.length gc) M.length (M.map intV)) := ownsRow_kept2 HG0.out fun b hb => HCH.out.block b (World.ownsRow.lt HG0.out b hb).2 (by cases hb; exact fun e => e.elim hqn hql)
      clear hR hct2 hfT2 HR HM
      go_wp2_with fail
      refine (sort_c HG2.out hMl (by omega)).mono ?_
      rintro e w12 ⟨rfl, hso, hsc⟩
      have HGB2 : Hid (∀ j, MB.ob { x with vw := .slice (some ⟨g, 0, none⟩) wv.length c, vt := .slice (some ⟨gt, 0, none⟩) A.length tc } j ≠ some gb) := Lib.hid (fun j => by
        match j with
        | 0 => exact HGB.out 0
        | 1 => exact HGB.out 1
        | 2 => exact HGB.out 2
        | 3 => intro e; exact HGB.out 3 (by show x.vt.ownBlock = _; rw [HVT.out]; exact e)
        | 4 => exact HGB.out 4
        | j + 5 => exact HGB.out (j + 5))
      have hgb2 := (World.ownsRow.lt HG0.out gb rfl).1
      have HM12 := Lib.hid (HW2.out.apart hsc (fun b hb => by
        cases hb
        exact ⟨HGB2.out, hgb2⟩))
      have HG12 : Hid (w12.ownsRow w0.heap.size 3 1 (.slice (some ⟨gb, 0, none⟩) M.length gc) (sortN M).length ((sortN M).map intV)) := Lib.hid (by rw [sortN_length]; exact hso)
      obtain ⟨ea, ec, hve⟩ := vals_form HM12.out.ended
      have hve : x.ve = .slice ea s.ended.length ec := hve
      have hgl : x.gs.length = s.ended.length := HM12.out.glen
      have c4 : w12.cell? ⟨x.q, 4, none⟩ = some x.ve := HM12.out.c4.1
      rw [hve, ← hgl] at c4
      have lq : x.q < w12.heap.size := HM12.out.c4.lt
      have hown : (w12.alloc (.cells #[.slice (some ⟨gb, 0, none⟩) M.length gc] 25)).ownsRow w0.heap.size 25 1 x.ve s.ended.length x.gs := HM12.out.ended.alloc (.cells #[.slice (some ⟨gb, 0, none⟩) M.length gc] 25)
      rw [hve, ← hgl] at hown
      have hy : (w12.alloc (.cells #[.slice (some ⟨gb, 0, none⟩) M.length gc] 25)).cell? ⟨w12.heap.size, 0, none⟩ = some (.slice (some ⟨gb, 0, none⟩) M.length gc) := (BoxAt.new' w12 #[.slice (some ⟨gb, 0, none⟩) M.length gc] 25 _ (by simp)).at 0 rfl
      have hsz := (HM12.out.frm.alloc (.cells #[.slice (some ⟨gb, 0, none⟩) M.length gc] 25)).size
      have hg3 : x.gs.length ≤ 5864062014640 := by omega
      have HVE := Lib.hid hve
      have HGL := Lib.hid hgl
      clear hso hsc hve hgl HG2 HW2 hgb2
      go_wp2_with (at_builtin; refine wpList_appendVal (base := w0.heap.size) rfl (.tmp 128) (.tmp 130) rfl (.slice ea x.gs.length ec) x.gs rfl hown hsz w12.heap.size 1 (.slice (some ⟨gb, 0, none⟩) M.length gc) rfl rfl hy hg3 ?_)
      intro va vn vc w13 hO13 hch13 hat13
      have hk13 : Chg (fun b => x.ve.ownBlock = some b) w12 w13 := by rw [HVE.out, ← HGL.out]; exact ((Fr.refl w12).alloc _).chg.trans hch13
      have hq4 : ¬ x.ve.ownBlock = some x.q := fun e => by have := HM12.out.inj 4 0 _ e rfl; omega
      have HM14 := Lib.hid (HM12.out.endedTo HG12.out (fun b hb => by cases hb; exact HGB2.out) hk13 (v := .slice va vn vc) (by
        show w13.ownsRow w0.heap.size 25 1 (.slice va vn vc) (s.ended.length + 1) (x.gs ++ [_])
        rw [← HGL.out]; exact hO13) (fun b hb => by
        show x.ve.ownBlock = some b ∨ _
        rw [HVE.out, ← HGL.out]; exact (hat13 b hb).imp id fun e => by omega))
      have hc4 := HM12.out.c4.chg hk13 hq4
      have c4 : w13.cell? ⟨x.q, 4, none⟩ = some x.ve := hc4.1
      have f4 : w13.frozen? ⟨x.q, 4, none⟩ = false := hc4.2
      rw [HVE.out, ← HGL.out] at c4
      have lq : x.q < w13.heap.size := hc4.lt
      clear hO13 hch13 hat13 hk13 hq4 hc4 hown hy hsz HM12
      go_wp2_with fail
      refine bodyPost_end (results_none rfl _ _ _) rfl ?_
      unfold close_post
      rw [HMQ.out]
      exact ⟨rfl, _, _, _, _, HM14.out⟩
set_option maxRecDepth 100000 in
set_option maxHeartbeats 8000000 in
theorem leaveEnd0_c {w0 w : World} {x : MB} {vG : Value} {n : Nat} {s : St} {wf : Nat → Bool} (H : Mem w0 w x vG n s wf) {wv : List Nat} {i : Nat} (hw : s.way = wv ++ [i]) (hi : ∀ v ∈ s.way, v < n) (hv : ∀ v ∈ s.wait, v < n) (hn : n ≤ 5864062014640) (h1 : s.way.length ≤ 5864062014640) (h2 : s.wait.length ≤ 5864062014640) (h3 : s.ended.length ≤ 5864062014640) (heq : s.low i = s.num i) {A B : List Nat} (hW : s.wait = A ++ i :: B) (hA : i ∉ A) (hwv : wv = []) :
    Calls Try.prog 41 #[Pt x.q] w fun e w' => close_post w0 x vG n s wf wv A B i e w' := by
  have hin : i < n := hi i (by rw [hw]; simp)
  have HQ := Lib.hid heq
  clear heq
  have hwz1 : decide ((wv.length : Int) > 0) = false := by rw [hwv]; rfl
  have hwz2 : decide (0 < wv.length) = false := by rw [hwv]; rfl
  have hwz3 : ¬ 0 < wv.length := by rw [hwv]; exact Nat.lt_irrefl 0
  have HWV := Lib.hid hwv
  clear hwv
  obtain ⟨g, c, hvw, hgc, hcl, hfirst⟩ := H.lastWay hw
  have c2 := H.c2.1
  rw [hvw] at c2
  have lq := H.c2.lt
  have lg := lt_of_cell hcl
  simp only at lg
  have hwl : wv.length + 1 ≤ 5864062014640 := by rw [hw] at h1; simpa using h1
  have HH := Lib.hid H
  clear H hfirst
  go_enter Try.func41, Try.ntmps41
  go_wp2_with fail
  go_quiet (fail)
  clear c2 hcl lq lg
  refine gen_w fun W1 hW1 => ?_
  have HA : Hid (Mem w0 W1 x vG n s wf) := by rw [hW1]; exact HH.out.fr ((Fr.refl w).drewN nq)
  clear hW1 HH
  have c2 := HA.out.c2.1
  rw [hvw] at c2
  have e2 := FrW.cell c2
  have lq : x.q < W1.heap.size := HA.out.c2.lt
  have lz : ∀ z : FrW W1, x.q < z.val.heap.size := fun z => Nat.lt_of_lt_of_le lq z.fr.size
  have hcc : wv.length ≤ c := by omega
  go_wp2_with fail
  refine wp_region_frt 14 (by kernel_rfl) (by kernel_rfl) ?_
  simp only [List.take_succ_cons, List.take_zero]
  repeat (go_big_quiet_step (fail))
  refine wpQuiet_nil ?_
  rintro w5 ⟨⟨_, hf5⟩, rfl⟩
  simp only [List.drop_succ_cons, List.drop_zero]
  have HB := Lib.hid (HA.out.fr hf5)
  clear c2 e2 lq lz hf5 HA
  obtain ⟨g', c', hvw', _, _, hfirst⟩ := HB.out.lastWay hw
  rw [hvw] at hvw'
  cases hvw'
  have HC := Lib.hid (HB.out.wayTo (v := .slice (some ⟨g, 0, none⟩) wv.length c) (L := wv) (Chg.refl _ w5) hfirst (fun g' hg => .inl (by rw [hvw]; exact hg)))
  have c2 := HB.out.c2.1
  have f2 := HB.out.c2.2
  have lq := HB.out.c2.lt
  have c1 := HC.out.c1.1
  have hx : (w5.setCell ⟨x.q, 2, none⟩ (.slice (some ⟨g, 0, none⟩) wv.length c)).rangeAt x.gn (i * 4) [.int .i64 (s.num i : Nat), .int .i64 (s.low i : Nat), .bool (wf i), .int .i64 (s.gone i : Nat)] := node_at HC.out hin
  have c1 : (w5.setCell ⟨x.q, 2, none⟩ (.slice (some ⟨g, 0, none⟩) wv.length c)).cell? ⟨x.q, 1, none⟩ = some (.slice (some ⟨x.gn, 0, none⟩) n n) := c1
  have lgn : x.gn < (w5.setCell ⟨x.q, 2, none⟩ (.slice (some ⟨g, 0, none⟩) wv.length c)).heap.size := HC.out.ltn
  clear hfirst
  have hBN : BoxAt ((w5.setCell ⟨x.q, 2, none⟩ (.slice (some ⟨g, 0, none⟩) wv.length c)).alloc (.cells #[.int .i64 (s.num i : Nat), .int .i64 (s.low i : Nat), .bool (wf i), .int .i64 (s.gone i : Nat)] 59)) w5.heap.size #[.int .i64 (s.num i : Nat), .int .i64 (s.low i : Nat), .bool (wf i), .int .i64 (s.gone i : Nat)] 59 := BoxAt.new' _ _ _ _ (by simp)
  have k0 := hBN.at 0 rfl
  have k1 := hBN.at 1 rfl
  have lbn := hBN.lt
  have HE := Lib.hid (HC.out.fr ((Fr.refl _).alloc (.cells #[.int .i64 (s.num i : Nat), .int .i64 (s.low i : Nat), .bool (wf i), .int .i64 (s.gone i : Nat)] 59)))
  have HEQ : Hid (St.up s wv i = { s with way := wv }) := Lib.hid (by unfold St.up lowUp; rw [HWV.out]; simp)
  clear hBN
  have HE2 : Hid (Mem w0 (((w5.setCell ⟨x.q, 2, none⟩ (.slice (some ⟨g, 0, none⟩) wv.length c)).alloc (.cells #[.int .i64 (s.num i : Nat), .int .i64 (s.low i : Nat), .bool (wf i), .int .i64 (s.gone i : Nat)] 59))) { x with vw := .slice (some ⟨g, 0, none⟩) wv.length c } vG n (St.up s wv i) wf) := by rw [HEQ.out]; exact HE.out
  clear HE
  obtain ⟨gt, tc, hvt, htc, hct, hfT⟩ := HE2.out.waitAt (A := A) (M := i :: B) hW (by simp)
  have hvt : x.vt = .slice (some ⟨gt, 0, none⟩) (A.length + (i :: B).length) tc := hvt
  have HVT := Lib.hid hvt
  have c3 : (((w5.setCell ⟨x.q, 2, none⟩ (.slice (some ⟨g, 0, none⟩) wv.length c)).alloc (.cells #[.int .i64 (s.num i : Nat), .int .i64 (s.low i : Nat), .bool (wf i), .int .i64 (s.gone i : Nat)] 59))).cell? ⟨x.q, 3, none⟩ = some x.vt := HE2.out.c3.1
  rw [hvt] at c3
  have lq : x.q < (((w5.setCell ⟨x.q, 2, none⟩ (.slice (some ⟨g, 0, none⟩) wv.length c)).alloc (.cells #[.int .i64 (s.num i : Nat), .int .i64 (s.low i : Nat), .bool (wf i), .int .i64 (s.gone i : Nat)] 59))).heap.size := HE2.out.c3.lt
  have hIX : Calls Try.prog 37 #[x.vt, .int .i64 (i : Nat)] (((w5.setCell ⟨x.q, 2, none⟩ (.slice (some ⟨g, 0, none⟩) wv.length c)).alloc (.cells #[.int .i64 (s.num i : Nat), .int .i64 (s.low i : Nat), .bool (wf i), .int .i64 (s.gone i : Nat)] 59))) fun e w' => e = .returned (.int .i64 (A.length : Nat)) ∧ w' = ((w5.setCell ⟨x.q, 2, none⟩ (.slice (some ⟨g, 0, none⟩) wv.length c)).alloc (.cells #[.int .i64 (s.num i : Nat), .int .i64 (s.low i : Nat), .bool (wf i), .int .i64 (s.gone i : Nat)] 59)) := index_c HE2.out.wait hW hA h2
  rw [hvt] at hIX
  have HIX := Lib.hid hIX
  have HCT := Lib.hid hct
  have HFT := Lib.hid hfT
  have hzz : (((s.low i : Nat) : Int) != ((s.num i : Nat) : Int)) = false := by rw [HQ.out]; simp
  clear hvt hct hfT hIX
  go_wp2_with (first | ((with_reducible refine wpList_here (.load 59 (.tmp 40)) rfl ?_); refine wpList_load_midW 59 (.tmp 40) rfl x.gn (i * 4) rfl _ _ hx Try.underlying59 rfl Try.infoNode rfl ?_) | ((with_reducible refine wpList_here (.store 59 (.tmp 3) (.tmp 41)) rfl ?_); refine wpList_store_new 59 (.tmp 3) (.tmp 41) rfl _ #[.int .i64 (s.num i : Nat), .int .i64 (s.low i : Nat), .bool (wf i), .int .i64 (s.gone i : Nat)] _ rfl rfl rfl Try.infoNode rfl (by simp [Value.oneCell']) rfl rfl ?_))
  refine HIX.out.mono ?_
  rintro e w9 ⟨rfl, rfl⟩
  clear HIX
  have hlt : A.length + (i :: B).length ≤ 5864062014640 := by rw [hW, List.length_append] at h2; exact h2
  have hAl : A.length < A.length + (i :: B).length := by simp
  go_wp2_with fail
  have hcl := clone_c (w := ((w5.setCell ⟨x.q, 2, none⟩ (.slice (some ⟨g, 0, none⟩) wv.length c)).alloc (.cells #[.int .i64 (s.num i : Nat), .int .i64 (s.low i : Nat), .bool (wf i), .int .i64 (s.gone i : Nat)] 59))) (g := gt) (k := A.length) (M := i :: B) (c := tc - A.length) HCT.out (by omega)
  refine hcl.mono ?_
  rintro e w10 ⟨vg, rfl, hO10, hf10⟩
  clear hcl
  have hrow : 0 < (i :: B).length := by simp
  have hMn : ∀ a ∈ i :: B, a < n := fun a ha => hv a (by rw [hW]; exact List.mem_append_right _ ha)
  have hMl : (i :: B).length ≤ 5864062014640 := by omega
  have HM := Lib.hid (HE2.out.fr hf10)
  obtain ⟨ga, gc, rfl, hgc, hgx⟩ := ints_form hO10
  obtain ⟨gb, rfl, _⟩ := hgx 0 hrow
  have hgb0 := World.ownsRow.lt hO10 gb rfl
  have HGB : Hid (∀ j, MB.ob { x with vw := .slice (some ⟨g, 0, none⟩) wv.length c } j ≠ some gb) := fun j e => by
    have h9 := (HE2.out.ge e).2
    have h8 := hgb0.1
    omega
  have HG0 := Lib.hid (ownsRow_base hO10 HE2.out.frm.size)
  have HGX : Hid (∀ k (hk : k < (i :: B).length), w10.cell? ⟨gb, k, none⟩ = some (intV (i :: B)[k])) := fun k hk => by
    obtain ⟨g', e, h⟩ := hgx k hk
    cases e; exact h
  have HMM : Hid (∀ a, a ∈ i :: B ↔ a = i ∨ a ∈ B) := fun a => List.mem_cons
  have hlg : gb < w10.heap.size := hgb0.2
  generalize hM : i :: B = M at hO10 hgc hgx HGX HG0 hMn hMl hrow hlt hAl ⊢
  have HMQ := Lib.hid hM
  clear hM hgx hO10 hf10 hgb0
  go_wp2_with fail
  go_loopw [100] (fun vk wr => ∃ k : Nat, k ≤ M.length ∧ vk = .int .i64 k ∧ Hid (Mem w0 wr { x with vw := .slice (some ⟨g, 0, none⟩) wv.length c } vG n (St.up s wv i) (fun j => if j ∈ M.take k then false else wf j) ∧ Chg (fun b => b = x.gn) w10 wr)) (fun vk _ => M.length - (intOf vk).toNat)
  case atStart => exact ⟨0, Nat.zero_le _, rfl, ⟨by simpa using HM.out, Chg.refl _ _⟩⟩
  case round =>
    obtain ⟨k, hk, rfl, HR⟩ := hrel
    by_cases hkt : k < M.length
    · have hgn : gb ≠ x.gn := fun e => HGB.out 1 (by rw [e]; rfl)
      have hc := HR.out.2.keep (HGX.out k hkt) (by exact hgn)
      have lg := lt_of_cell hc
      simp only at lg
      unfold intV at hc
      have hjn := hMn M[k] (List.getElem_mem hkt)
      have HJ : Hid (M.take (k + 1) = M.take k ++ [M[k]]) := Lib.hid (List.take_succ_eq_append_getElem hkt)
      generalize M[k] = j at hc hjn HJ
      have HW := Lib.hid (HR.out.1.waitsTo j false)
      have c1 : wr.cell? ⟨x.q, 1, none⟩ = some (.slice (some ⟨x.gn, 0, none⟩) n n) := HR.out.1.c1.1
      have lq : x.q < wr.heap.size := HR.out.1.c1.lt
      have cj := (HR.out.1.n2 j hjn).1
      have fj := (HR.out.1.n2 j hjn).2
      have lgn : x.gn < wr.heap.size := HR.out.1.ltn
      clear hgn
      go_wp2_with fail
      go_roundw
      case rel =>
        refine ⟨k + 1, by omega, by go_num, ⟨?_, HR.out.2.set (p := ⟨x.gn, j * 4 + 2, none⟩) (.inr rfl) _⟩⟩
        have hfe : (fun a => if a ∈ M.take (k + 1) then false else wf a) = fun a => if a = j then false else if a ∈ M.take k then false else wf a := by
          funext a
          rw [HJ.out]
          by_cases h : a = j
          · rw [if_pos h, if_pos (by simp [h])]
          · rw [if_neg h]; simp [h]
        rw [hfe]; exact HW.out
      case measure => first | (simp [intOf]; done) | (simp [intOf]; omega)
    · obtain rfl : k = M.length := by omega
      have hR := HR.out.1
      rw [List.take_length] at hR
      have HRM := Lib.hid hR
      have HRC := Lib.hid HR.out.2
      obtain ⟨gt2, tc2, hvt2, htc2, hct2, hfT2⟩ := hR.waitAt (A := A) (M := i :: B) hW (by simp)
      have hvt2 : x.vt = .slice (some ⟨gt2, 0, none⟩) (A.length + (i :: B).length) tc2 := hvt2
      rw [HVT.out] at hvt2
      cases hvt2
      have HW2 := Lib.hid (hR.waitTo (v := .slice (some ⟨gt, 0, none⟩) A.length tc) (L := A) (Chg.refl _ wr) hfT2 (fun b hb => .inl (by show x.vt.ownBlock = some b; rw [HVT.out]; exact hb)))
      have c3 : wr.cell? ⟨x.q, 3, none⟩ = some x.vt := hR.c3.1
      have f3 : wr.frozen? ⟨x.q, 3, none⟩ = false := hR.c3.2
      rw [HVT.out] at c3
      have lq : x.q < wr.heap.size := hR.c3.lt
      have hAt : A.length ≤ tc := by omega
      have hql : gb ≠ x.q := fun e => HGB.out 0 (by rw [e]; rfl)
      have hqn : gb ≠ x.gn := fun e => HGB.out 1 (by rw [e]; rfl)
      have HCH : Hid (Chg (fun b => b = x.gn ∨ b = x.q) w10 (wr.setCell ⟨x.q, 3, none⟩ (.slice (some ⟨gt, 0, none⟩) A.length tc))) := Lib.hid (Chg.set (S := fun b => b = x.gn ∨ b = x.q) (HR.out.2.mono fun b _ hb => Or.inl hb) (p := ⟨x.q, 3, none⟩) (.inr (.inr rfl)) _)
      have HG2 : Hid ((wr.setCell ⟨x.q, 3, none⟩ (.slice (some ⟨gt, 0, none⟩) A.length tc)).ownsRow w0.heap.size 3 1 (.slice (some ⟨gb, 0, none⟩) M.length gc) M.length (M.map intV)) := ownsRow_kept2 HG0.out fun b hb => HCH.out.block b (World.ownsRow.lt HG0.out b hb).2 (by cases hb; exact fun e => e.elim hqn hql)
      clear hR hct2 hfT2 HR HM
      go_wp2_with fail
      refine (sort_c HG2.out hMl (by omega)).mono ?_
      rintro e w12 ⟨rfl, hso, hsc⟩
      have HGB2 : Hid (∀ j, MB.ob { x with vw := .slice (some ⟨g, 0, none⟩) wv.length c, vt := .slice (some ⟨gt, 0, none⟩) A.length tc } j ≠ some gb) := Lib.hid (fun j => by
        match j with
        | 0 => exact HGB.out 0
        | 1 => exact HGB.out 1
        | 2 => exact HGB.out 2
        | 3 => intro e; exact HGB.out 3 (by show x.vt.ownBlock = _; rw [HVT.out]; exact e)
        | 4 => exact HGB.out 4
        | j + 5 => exact HGB.out (j + 5))
      have hgb2 := (World.ownsRow.lt HG0.out gb rfl).1
      have HM12 := Lib.hid (HW2.out.apart hsc (fun b hb => by
        cases hb
        exact ⟨HGB2.out, hgb2⟩))
      have HG12 : Hid (w12.ownsRow w0.heap.size 3 1 (.slice (some ⟨gb, 0, none⟩) M.length gc) (sortN M).length ((sortN M).map intV)) := Lib.hid (by rw [sortN_length]; exact hso)
      obtain ⟨ea, ec, hve⟩ := vals_form HM12.out.ended
      have hve : x.ve = .slice ea s.ended.length ec := hve
      have hgl : x.gs.length = s.ended.length := HM12.out.glen
      have c4 : w12.cell? ⟨x.q, 4, none⟩ = some x.ve := HM12.out.c4.1
      rw [hve, ← hgl] at c4
      have lq : x.q < w12.heap.size := HM12.out.c4.lt
      have hown : (w12.alloc (.cells #[.slice (some ⟨gb, 0, none⟩) M.length gc] 25)).ownsRow w0.heap.size 25 1 x.ve s.ended.length x.gs := HM12.out.ended.alloc (.cells #[.slice (some ⟨gb, 0, none⟩) M.length gc] 25)
      rw [hve, ← hgl] at hown
      have hy : (w12.alloc (.cells #[.slice (some ⟨gb, 0, none⟩) M.length gc] 25)).cell? ⟨w12.heap.size, 0, none⟩ = some (.slice (some ⟨gb, 0, none⟩) M.length gc) := (BoxAt.new' w12 #[.slice (some ⟨gb, 0, none⟩) M.length gc] 25 _ (by simp)).at 0 rfl
      have hsz := (HM12.out.frm.alloc (.cells #[.slice (some ⟨gb, 0, none⟩) M.length gc] 25)).size
      have hg3 : x.gs.length ≤ 5864062014640 := by omega
      have HVE := Lib.hid hve
      have HGL := Lib.hid hgl
      clear hso hsc hve hgl HG2 HW2 hgb2
      go_wp2_with (at_builtin; refine wpList_appendVal (base := w0.heap.size) rfl (.tmp 128) (.tmp 130) rfl (.slice ea x.gs.length ec) x.gs rfl hown hsz w12.heap.size 1 (.slice (some ⟨gb, 0, none⟩) M.length gc) rfl rfl hy hg3 ?_)
      intro va vn vc w13 hO13 hch13 hat13
      have hk13 : Chg (fun b => x.ve.ownBlock = some b) w12 w13 := by rw [HVE.out, ← HGL.out]; exact ((Fr.refl w12).alloc _).chg.trans hch13
      have hq4 : ¬ x.ve.ownBlock = some x.q := fun e => by have := HM12.out.inj 4 0 _ e rfl; omega
      have HM14 := Lib.hid (HM12.out.endedTo HG12.out (fun b hb => by cases hb; exact HGB2.out) hk13 (v := .slice va vn vc) (by
        show w13.ownsRow w0.heap.size 25 1 (.slice va vn vc) (s.ended.length + 1) (x.gs ++ [_])
        rw [← HGL.out]; exact hO13) (fun b hb => by
        show x.ve.ownBlock = some b ∨ _
        rw [HVE.out, ← HGL.out]; exact (hat13 b hb).imp id fun e => by omega))
      have hc4 := HM12.out.c4.chg hk13 hq4
      have c4 : w13.cell? ⟨x.q, 4, none⟩ = some x.ve := hc4.1
      have f4 : w13.frozen? ⟨x.q, 4, none⟩ = false := hc4.2
      rw [HVE.out, ← HGL.out] at c4
      have lq : x.q < w13.heap.size := hc4.lt
      clear hO13 hch13 hat13 hk13 hq4 hc4 hown hy hsz HM12
      go_wp2_with fail
      refine bodyPost_end (results_none rfl _ _ _) rfl ?_
      unfold close_post
      rw [HMQ.out]
      exact ⟨rfl, _, _, _, _, HM14.out⟩
end Go.Proofs.Ytadognaafgndnaa
