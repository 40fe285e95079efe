/- Layer 28: rows of numbers of a call's own, in memory: one more row, another block written. No condition but what each says. -/
import Derived.Test.YtadognaafgndnaaPSccRd
import Derived.Test.YtadognaafgndnaaPSccLib
set_option linter.all false
set_option linter.unusedVariables false
set_option linter.unusedSimpArgs false
set_option linter.unnecessarySimpa false
/- Layer 28: rows of numbers of a call's own, in memory: one more row, another block written. No condition but what each says. -/
namespace Go.Proofs.Ytadognaafgndnaa
open Go.RowKit
attribute [local go_sem] Oper.semAt_some

def zV (z : Int) : Value := .int .i64 z
/-- The blocks of rows. -/
def rowOb (ve : Value) (gs : List Value) : Nat → Option Nat
  | 0 => ve.ownBlock
  | j + 1 => (gs[j]?).bind Value.ownBlock
structure RowsAt (w0 w : World) (ve : Value) (gs : List Value) (L : List (List Int)) : Prop where
  frm : Fr w0 w
  row : w.ownsRow w0.heap.size 25 1 ve L.length gs
  glen : gs.length = L.length
  grp : ∀ j (h : j < gs.length) (h' : j < L.length), w.ownsRow w0.heap.size 3 1 gs[j] L[j].length (L[j].map zV)
  inj : ∀ i j g, rowOb ve gs i = some g → rowOb ve gs j = some g → i = j
theorem RowsAt.nil (w : World) : RowsAt w w (.slice none 0 0) [] [] := by
  refine ⟨Fr.refl w, World.ownsRow_nil _ _ _ _, rfl, fun j h => absurd h (Nat.not_lt_zero j), fun i j g hi _ => ?_⟩
  match i, hi with
  | 0, hi => cases hi
  | i + 1, hi => cases hi
theorem RowsAt.ge {w0 w : World} {ve : Value} {gs : List Value} {L : List (List Int)} (H : RowsAt w0 w ve gs L) {i g : Nat} (h : rowOb ve gs i = some g) : w0.heap.size ≤ g ∧ g < w.heap.size := by
  match i, h with
  | 0, h => exact World.ownsRow.lt H.row g h
  | j + 1, h =>
    have h : (gs[j]?).bind Value.ownBlock = some g := h
    cases hj : gs[j]? with
    | none => rw [hj] at h; cases h
    | some v =>
      rw [hj] at h
      obtain ⟨hl, rfl⟩ := List.getElem?_eq_some_iff.1 hj
      exact World.ownsRow.lt (H.grp j hl (by rw [← H.glen]; exact hl)) g h
/-- A block of neither is written. -/
theorem RowsAt.apart {w0 w w' : World} {ve : Value} {gs : List Value} {L : List (List Int)} (H : RowsAt w0 w ve gs L) {S : Nat → Prop} (k : Chg S w w') (hS : ∀ b, S b → (∀ i, rowOb ve gs i ≠ some b) ∧ w0.heap.size ≤ b) : RowsAt w0 w' ve gs L := by
  refine ⟨k.fr H.frm fun b hb => (hS b hb).2, ownsRow_kept2 H.row fun g hg => k.block g (World.ownsRow.lt H.row g hg).2 fun h => (hS _ h).1 0 hg, H.glen, fun j h h' => ownsRow_kept2 (H.grp j h h') fun g hg => k.block g (World.ownsRow.lt (H.grp j h h') g hg).2 fun h3 => (hS _ h3).1 (j + 1) ?_, H.inj⟩
  show (gs[j]?).bind Value.ownBlock = some g
  rw [List.getElem?_eq_getElem h]; exact hg
theorem RowsAt.fr {w0 w w' : World} {ve : Value} {gs : List Value} {L : List (List Int)} (H : RowsAt w0 w ve gs L) (f : Fr w w') : RowsAt w0 w' ve gs L := H.apart (S := fun _ => False) f.chg fun _ h => h.elim
/-- One more row. -/
theorem RowsAt.snoc {w0 w w5 : World} {ve : Value} {gs : List Value} {L : List (List Int)} (H : RowsAt w0 w ve gs L) {v gv : Value} {g : List Int} (hg : w.ownsRow w0.heap.size 3 1 gv g.length (g.map zV)) (hgn : ∀ b, gv.ownBlock = some b → ∀ i, rowOb ve gs i ≠ some b)
    (k : Chg (fun b => ve.ownBlock = some b) w w5) (hO : w5.ownsRow w0.heap.size 25 1 v (gs.length + 1) (gs ++ [gv])) (hat : ∀ b, v.ownBlock = some b → ve.ownBlock = some b ∨ w.heap.size ≤ b) : RowsAt w0 w5 v (gs ++ [gv]) (L ++ [g]) := by
  have hne : ∀ j b, rowOb ve gs (j + 1) = some b → ve.ownBlock ≠ some b := fun j b h e => by have := H.inj 0 (j + 1) b e h; omega
  refine ⟨k.fr H.frm fun b hb => (H.ge (i := 0) hb).1, by rw [List.length_append, List.length_singleton, ← H.glen]; exact hO, by rw [List.length_append, List.length_append, H.glen]; rfl, ?_, ?_⟩
  · intro j h h'
    by_cases hj : j < gs.length
    · have hj' : j < L.length := by rw [← H.glen]; exact hj
      rw [List.getElem_append_left hj, List.getElem_append_left hj']
      refine ownsRow_kept2 (H.grp j hj hj') fun b hb => k.block b (World.ownsRow.lt (H.grp j hj hj') b hb).2 (hne j b ?_)
      show (gs[j]?).bind Value.ownBlock = some b
      rw [List.getElem?_eq_getElem hj]; exact hb
    · have e1 : j = gs.length := by rw [List.length_append, List.length_singleton] at h; omega
      have e2 : j = L.length := by rw [e1]; exact H.glen
      have e3 : (gs ++ [gv])[j] = gv := by subst e1; simp
      have e4 : (L ++ [g])[j] = g := by simp [e2]
      rw [e3, e4]
      exact ownsRow_kept2 hg fun b hb => k.block b (World.ownsRow.lt hg b hb).2 fun e => hgn b hb 0 e
  · have ob' : ∀ i b, rowOb v (gs ++ [gv]) i = some b → (i ≠ 0 ∧ i ≠ gs.length + 1 ∧ rowOb ve gs i = some b) ∨ (i = 0 ∧ v.ownBlock = some b) ∨ (i = gs.length + 1 ∧ gv.ownBlock = some b) := fun i b hb => by
      match i, hb with
      | 0, hb => exact .inr (.inl ⟨rfl, hb⟩)
      | j + 1, hb =>
        have hb : ((gs ++ [gv])[j]?).bind Value.ownBlock = some b := hb
        by_cases hj : j < gs.length
        · rw [List.getElem?_append_left hj] at hb
          exact .inl ⟨by omega, by omega, hb⟩
        · by_cases hj2 : j = gs.length
          · subst hj2
            rw [List.getElem?_append_right (Nat.le_refl _)] at hb
            simp at hb
            exact .inr (.inr ⟨rfl, hb⟩)
          · rw [List.getElem?_eq_none (by simp; omega)] at hb
            cases hb
    have hx0 : ∀ j b, j ≠ 0 → v.ownBlock = some b → rowOb ve gs j ≠ some b := fun j b hj hb e => by
      rcases hat b hb with h | h
      · exact hj (H.inj j 0 b e h)
      · have := (H.ge e).2; omega
    have hvg : ∀ b, v.ownBlock = some b → gv.ownBlock ≠ some b := fun b hb e => by
      rcases hat b hb with h | h
      · exact hgn b e 0 h
      · have := (World.ownsRow.lt hg b e).2; omega
    intro i j b hi hj
    rcases ob' i b hi with ⟨i1, _, i2⟩ | ⟨i1, i2⟩ | ⟨i1, i2⟩ <;> rcases ob' j b hj with ⟨j1, _, j2⟩ | ⟨j1, j2⟩ | ⟨j1, j2⟩
    · exact H.inj i j b i2 j2
    · exact absurd i2 (hx0 i b i1 j2)
    · exact absurd i2 (hgn b j2 i)
    · exact absurd j2 (hx0 j b j1 i2)
    · omega
    · exact absurd j2 (hvg b i2)
    · exact absurd j2 (hgn b i2 j)
    · exact absurd i2 (hvg b j2)
    · omega
theorem row_form {w : World} {base n : Nat} {e : TypeId} {v : Value} {xs : List Value} (h : w.ownsRow base e 1 v n xs) : ∃ a c, v = .slice a n c ∧ n ≤ c ∧ c ≤ 9223372036854775807 ∧ ∀ i (hi : i < n), ∃ g u, a = some ⟨g, 0, none⟩ ∧ xs[i]? = some u ∧ w.cell? ⟨g, i, none⟩ = some u := by
  have hc := fun g hg => World.ownsRow.cells h (g := g) hg
  have h1 := h.1
  rcases h.2 with ⟨h2, h0⟩ | ⟨g, cap, cur, h2, g1, g2, g3, g4, g5⟩
  · exact ⟨none, 0, by rw [h2, h0], by omega, by omega, fun i hi => by omega⟩
  · refine ⟨_, cap, h2, g3, by unfold maxLen at g4; omega, fun i hi => ?_⟩
    have hx : i < xs.length := by omega
    refine ⟨g, xs[i], rfl, List.getElem?_eq_getElem hx, ?_⟩
    have := hc g (by rw [h2]; rfl) i xs[i] (List.getElem?_eq_getElem hx)
    rwa [WideShapes.add_plain, Nat.zero_add] at this
theorem RdZ.own {w : World} {base : Nat} {v : Value} {l : List Int} (h : w.ownsRow base 3 1 v l.length (l.map zV)) : RdZ w v l := by
  obtain ⟨a, c, h1, h2, h3, h4⟩ := row_form h
  refine ⟨a, c, h1, h2, h3, fun i hi => ?_⟩
  obtain ⟨g, u, h5, h6, h7⟩ := h4 i hi
  refine ⟨g, 0, h5, ?_⟩
  rw [List.getElem?_map, List.getElem?_eq_getElem hi] at h6
  rw [Nat.zero_add, h7, ← h6]; rfl
theorem RowsAt.rd {w0 w : World} {ve : Value} {gs : List Value} {L : List (List Int)} (H : RowsAt w0 w ve gs L) : RdGZ w ve L := by
  obtain ⟨a, c, h1, h2, h3, h4⟩ := row_form H.row
  refine ⟨a, c, h1, h2, h3, fun i hi => ?_⟩
  obtain ⟨g, u, h5, h6, h7⟩ := h4 i hi
  have hg : i < gs.length := by rw [H.glen]; exact hi
  rw [List.getElem?_eq_getElem hg] at h6
  cases h6
  exact ⟨g, 0, _, h5, by rw [Nat.zero_add]; exact h7, RdZ.own (H.grp i hg hi)⟩
/-- Numbers that can be read at a slice's place, wherever it begins. -/
def RdPZ (w : World) (a : Option Addr) (M : List Int) : Prop := M = [] ∨ ∃ b o, a = some ⟨b, o, none⟩ ∧ ∀ j (h : j < M.length), w.cell? ⟨b, o + j, none⟩ = some (zV M[j])
/-- Numbers are appended, none or some. -/
theorem wpList_appendZ {base : Nat} {w : World} {ops : Array Oper} {rest : List Oper} {o : Oper} {a : Act} {Q : Exit → Act → World → Prop} (hgd : o.guard = none) (s x : Operand)
    (ho : o.op = .call { callee := .builtin .append, args := #[s, x], argTypes := #[25, 25] }) (v : Value) (L M : List Int) (hs : a.eval s = v) (hown : w.ownsRow base 3 1 v L.length (L.map zV)) (f : base ≤ w.heap.size)
    (xa : Option Addr) (m c : Nat) (hx : a.eval x = .slice xa m c) (hm : m = M.length) (hM : RdPZ w xa M) (hn : L.length + M.length ≤ 11728124029300)
    (h : ∀ va vc w', w'.ownsRow base 3 1 (.slice va (L ++ M).length vc) (L ++ M).length ((L ++ M).map zV) → Chg (fun b => v.ownBlock = some b) w w' → (∀ g, (Value.slice va (L ++ M).length vc).ownBlock = some g → v.ownBlock = some g ∨ g = w.heap.size) → wpList Try.prog ops Q rest (a.put o.dst (.slice va (L ++ M).length vc)) w') : wpList Try.prog ops Q (o :: rest) a w := by
  obtain ⟨i0, hi0, hz0, hz1, hz2⟩ := info_parts Try.infoIntB
  subst hm
  by_cases h0 : M.length = 0
  · have hM0 : M = [] := List.eq_nil_of_length_eq_zero h0
    subst hM0
    obtain ⟨va, vc, rfl, hvc, _⟩ := row_form hown
    have hsrc : Src Try.prog i0.size 25 (.slice xa 0 c) 0 [] w := by
      cases xa with
      | none => exact Src.ofNil w Try.underlying25 c
      | some ad => exact Src.ofSlice w Try.underlying25 ad 0 c [] (by simp) (fun j u hj => by simp at hj) (fun u hu => by cases hu)
    have hr := run_append_nothing (P := Try.prog) w 25 25 o.type 3 i0 Try.underlying25 hi0 va L.length vc hvc (.slice xa 0 c) hsrc
    refine wpList_plain hgd fun K hK => ?_
    unfold Oper.wp execOp
    simp only [ho, resolve, invoke, builtin, Sem.run_bind, Sem.run_pure, Result.andThen_ok, List.map_toArray, List.map_cons, List.map_nil, hs, hx, List.length_nil, hr]
    refine hK _ _ ?_
    have := h va vc w (by simpa using hown) (Chg.refl _ w) (fun g hg => .inl (by simpa using hg))
    simpa using this
  · rcases hM with hM | ⟨b, off, rfl, hM⟩
    · rw [hM] at h0; exact absurd rfl h0
    · refine wpList_append_lies _ hgd s x 25 ho base 3 i0 _ 1 8 Try.underlying25 hi0 hz0 hz1 hz2 rfl (by omega) v L.length (L.map zV) hs hown ⟨b, off, none⟩ M.length c (M.map zV) hx (by simp) (fun j u hj => ?_) (fun u hu => by obtain ⟨k, _, rfl⟩ := List.mem_map.1 hu; rfl) (by omega) (by unfold maxLen; omega) (by omega) f w.heap.size rfl ?_
      · rw [WideShapes.add_plain]
        obtain ⟨hj1, hj2⟩ := List.getElem?_eq_some_iff.1 hj
        rw [List.getElem_map] at hj2
        rw [← hj2]
        exact hM j (by simpa using hj1)
      · intro g cap w' hown' hgrow hat hlt
        have e : L.length + M.length = (L ++ M).length := by simp
        rw [e] at hown' ⊢
        refine h _ _ w' (by rw [List.map_append]; exact hown') ⟨hgrow.os, hgrow.tape, hgrow.output, hgrow.size, fun k hk hne => hgrow.block k hk fun e => hne e.symm⟩ (fun g' he => by simp [Value.ownBlock] at he; subst he; exact hat)
/-- A row of noughts, made. -/
theorem mk_ints (n : Nat) (hn : n ≤ 5864062014634) (W : World) : (Instr.makeSlice 25 (.int .i64 (n : Int)) (.int .i64 (n : Int))).run Try.prog W = .ok (.slice (some ⟨W.heap.size, 0, none⟩) n n) (W.alloc (.cells (madeCells #[.int .i64 0] n) 3)) := by
  obtain ⟨i0, hi0, hz0, hz1, hz2⟩ := info_parts Try.infoIntB
  have hr := run_make (P := Try.prog) W 25 3 i0 _ Try.underlying25 hi0 hz0 .i64 .i64 n n (by omega) (Int.le_refl _) (by rw [hz2]; omega) (by omega)
  simp only [Int.toNat_natCast, hz1, Nat.mul_one] at hr
  exact hr
theorem made_at {n i : Nat} (hi : i < n) : (madeCells #[Value.int .i64 0] n)[i]? = some (.int .i64 0) := by
  unfold madeCells
  simp [hi, Nat.mod_one]
end Go.Proofs.Ytadognaafgndnaa
