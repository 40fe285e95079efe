/- Layer 6: rows of strings of a call's own, in memory. No condition but what each says. -/
import Derived.Test.YtfklgaeejmeipaaGreatDoorPArg
import Derived.Test.YtfklgaeejmeipaaGreatDoorPOp
import Derived.Test.YtfklgaeejmeipaaGreatDoorPTxtP
import Derived.Deep.AppendLies
import Derived.Deep.Upon
import Derived.Deep.Onto
set_option linter.all false
set_option linter.unusedVariables false
set_option linter.unusedSimpArgs false
set_option linter.unnecessarySimpa false
/- Layer 6: rows of strings of a call's own, in memory. No condition but what each says. -/
namespace Go.Proofs.YtfklgaeejmeipaaGreatDoor
open Go.RowKit
attribute [local go_sem] Oper.semAt_some

theorem Tryz.infoStrT : (Tryz.prog.info? 9).map (fun i => (i.zero, i.size, i.bytes)) = some (some (.string ByteArray.empty), 1, 16) := by kernel_rfl
theorem ownsRow_frT {w w' : World} {base : Nat} {e : TypeId} {sz : Nat} {v : Value} {n : Nat} {xs : List Value} (h : w.ownsRow base e sz v n xs) (f : Fr w w') : w'.ownsRow base e sz v n xs := by
  obtain ⟨h1, h2⟩ := h
  refine ⟨h1, ?_⟩
  rcases h2 with h2 | ⟨g, cap, cur, hv, hg, hh, h3⟩
  · exact .inl h2
  · refine .inr ⟨g, cap, cur, hv, hg, ?_, h3⟩
    rw [f.block (by rcases Nat.lt_or_ge g w.heap.size with k | k; exact k; rw [Array.getElem?_eq_none k] at hh; cases hh)]
    exact hh
theorem str_form {w : World} {base n : Nat} {e : TypeId} {v : Value} {xs : List Value} (h : w.ownsRow base e 1 v n xs) : ∃ a c, v = .slice a n c ∧ n ≤ c ∧ c ≤ 9223372036854775807 := by
  rcases h.2 with ⟨h2, h0⟩ | ⟨g, cap, cur, h2, g1, g2, g3, g4, g5⟩
  · exact ⟨none, 0, by rw [h2, h0], by omega, by omega⟩
  · exact ⟨_, cap, h2, g3, by unfold maxLen at g4; omega⟩
/-- A row of strings that is a call's own since w0. -/
structure RowS (w0 w : World) (v : Value) (l : List W8) : Prop where
  frm : Fr w0 w
  own : w.ownsRow w0.heap.size 9 1 v l.length (strCells l)
theorem RowS.nil {w0 w : World} (f : Fr w0 w) : RowS w0 w (.slice none 0 0) [] := ⟨f, World.ownsRow_nil _ _ _ _⟩
theorem RowS.fr {w0 w w' : World} {v : Value} {l : List W8} (h : RowS w0 w v l) (f : Fr w w') : RowS w0 w' v l := ⟨h.frm.trans f, ownsRow_frT h.own f⟩
theorem RowS.rd {w0 w : World} {v : Value} {l : List W8} (h : RowS w0 w v l) : RdS w v l := (SlAt.own h.own).mono fun _ _ => trivial
theorem RowS.down {w0 w1 w : World} {v : Value} {l : List W8} (h : RowS w1 w v l) (f : Fr w0 w1) : RowS w0 w v l := ⟨f.trans h.frm, World.ownsRow.mono h.own f.size⟩
theorem RowS.form {w0 w : World} {v : Value} {l : List W8} (h : RowS w0 w v l) : ∃ a c, v = .slice a l.length c ∧ l.length ≤ c ∧ c ≤ 9223372036854775807 := str_form h.own
/-- A literal, just made. -/
theorem RowS.lit {w0 w : World} (f : Fr w0 w) (l : List W8) (hl : l.length ≤ 1000000) : RowS w0 (w.alloc (.cells (strCells l).toArray 9)) (.slice (some ⟨w.heap.size, 0, none⟩) l.length l.length) l := by
  have e : (strCells l).length = l.length := by simp [strCells]
  have := ownsRow_lit (base := w0.heap.size) (e := 9) w (strCells l) f.size (by rw [e]; unfold maxLen; omega)
  rw [e] at this
  exact ⟨f.alloc _, this⟩
theorem strCells_app (l m : List W8) : strCells (l ++ m) = strCells l ++ strCells m := by simp [strCells]
/-- Strings are appended, none or some. -/
theorem wpList_appendS {w0 w : World} {ops : Array Oper} {rest : List Oper} {o : Oper} {a : Act} {Q : Exit → Act → World → Prop} (hgd : o.guard = none) (s x : Operand)
    (ho : o.op = .call { callee := .builtin .append, args := #[s, x], argTypes := #[59, 59] }) (v : Value) (L M : List W8) (hs : a.eval s = v) (hown : RowS w0 w v L)
    (u : Value) (hx : a.eval x = u) (hM : RdS w u M) (hn : L.length + M.length ≤ 4000000)
    (h : ∀ v' w', RowS w0 w' v' (L ++ M) → wpList Tryz.prog ops Q rest (a.put o.dst v') w') : wpList Tryz.prog ops Q (o :: rest) a w := by
  obtain ⟨i0, hi0, hz0, hz1, hz2⟩ := info_parts Tryz.infoStrT
  obtain ⟨hf, hown⟩ := hown
  by_cases h0 : M.length = 0
  · have hM0 : M = [] := List.eq_nil_of_length_eq_zero h0
    subst hM0
    obtain ⟨xa, c, rfl, hc, _⟩ := hM.form
    obtain ⟨va, vc, rfl, hvc, _⟩ := str_form hown
    have hsrc : Src Tryz.prog i0.size 59 (.slice xa 0 c) 0 [] w := by
      cases xa with
      | none => exact Src.ofNil w Tryz.underlying59 c
      | some ad => exact Src.ofSlice w Tryz.underlying59 ad 0 c [] (by simp) (fun j u hj => by simp at hj) (fun u hu => by cases hu)
    have hr := run_append_nothing (P := Tryz.prog) w 59 59 o.type 9 i0 Tryz.underlying59 hi0 va L.length vc hvc (.slice xa 0 c) hsrc
    refine wpList_plain hgd fun K hK => ?_
    unfold Oper.wp execOp
    simp only [ho, resolve, invoke, builtin, Sem.run_bind, Sem.run_pure, Result.andThen_ok, List.map_toArray, List.map_cons, List.map_nil, hs, hx, List.length_nil, hr]
    refine hK _ _ ?_
    have := h (.slice va L.length vc) w ⟨hf, by simpa using hown⟩
    simpa using this
  · obtain ⟨b, off, cap, rfl, h1, h2, h3, hcell⟩ := hM.at (k := 0) (by omega)
    refine wpList_append_own _ hgd s x 59 ho w0.heap.size 9 i0 (.string ByteArray.empty) 1 16 Tryz.underlying59 hi0 hz0 hz1 hz2 rfl (by omega) v L.length (strCells L) hs hown ⟨b, off, none⟩ M.length cap (strCells M) hx (by simp [strCells]) (fun j u hj => ?_) (fun u hu => by obtain ⟨k, _, rfl⟩ := List.mem_map.1 hu; rfl) (by unfold maxLen; omega) (by omega) hf.size ?_
    · rw [WideShapes.add_plain]
      unfold strCells at hj
      rw [List.getElem?_map] at hj
      obtain ⟨y, hy, rfl⟩ := Option.map_eq_some_iff.1 hj
      exact hcell j y hy
    · intro v' w' hown' hgrow _
      refine h v' w' ⟨Below.grown hf hgrow hf.size fun k hk => (hown.lt k hk).1, ?_⟩
      rw [List.length_append, strCells_app]
      exact hown'
end Go.Proofs.YtfklgaeejmeipaaGreatDoor
