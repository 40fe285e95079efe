/- Words on worlds that name no function of a program: cells that may be written, blocks that change, rows of numbers. No condition but what each says. -/
import Derived.Test.YtadognaafgndnaaPBase
import Derived.Deep.AppendLies
import Derived.Deep.AppendSrc
import Derived.Deep.Upon
set_option linter.all false
set_option linter.unusedVariables false
set_option linter.unusedSimpArgs false
set_option linter.unnecessarySimpa false
/- Words on worlds that name no function of a program: cells that may be written, blocks that change, rows of numbers. No condition but what each says. -/
namespace Go.Proofs.Ytadognaafgndnaa
open Go.RowKit
attribute [local go_sem] Oper.semAt_some

/-- The world of a goal becomes a letter. -/
theorem gen_w {R : Act → World → Prop} {a : Act} {w : World} (h : ∀ W, W = w → R a W) : R a w := h w rfl
/-- Blocks of S, and new ones, apart, all stands. -/
structure Chg (S : Nat → Prop) (w w' : World) : Prop where
  os : w'.os = w.os
  tape : w'.tape = w.tape
  output : w'.output = w.output
  size : w.heap.size ≤ w'.heap.size
  block : ∀ k, k < w.heap.size → ¬ S k → w'.heap[k]? = w.heap[k]?
theorem Chg.refl (S : Nat → Prop) (w : World) : Chg S w w := ⟨rfl, rfl, rfl, Nat.le_refl _, fun _ _ _ => rfl⟩
theorem Chg.trans {S : Nat → Prop} {a b c : World} (h : Chg S a b) (k : Chg S b c) : Chg S a c :=
  ⟨k.os.trans h.os, k.tape.trans h.tape, k.output.trans h.output, Nat.le_trans h.size k.size, fun i hi hs => (k.block i (Nat.lt_of_lt_of_le hi h.size) hs).trans (h.block i hi hs)⟩
theorem Chg.mono {S T : Nat → Prop} {a b : World} (h : Chg S a b) (hst : ∀ k, k < a.heap.size → S k → T k) : Chg T a b := ⟨h.os, h.tape, h.output, h.size, fun i hi ht => h.block i hi fun hs => ht (hst i hi hs)⟩
theorem Fr.chg {S : Nat → Prop} {a b : World} (h : Fr a b) : Chg S a b := ⟨h.os, h.tape, h.output, h.size, fun i hi _ => h.block hi⟩
/-- A change to blocks that are newer than a world leaves that world. -/
theorem Chg.fr {S : Nat → Prop} {a w w' : World} (h : Chg S w w') (f : Fr a w) (hs : ∀ k, S k → a.heap.size ≤ k) : Fr a w' :=
  ⟨h.os.trans f.os, h.tape.trans f.tape, h.output.trans f.output, Nat.le_trans f.size h.size, fun k hk => (h.block k (Nat.lt_of_lt_of_le hk f.size) fun e => by have := hs k e; omega).trans (f.block hk)⟩
theorem BoxAt.chg {S : Nat → Prop} {w w' : World} {b : Nat} {c : Array Value} {t : TypeId} (h : BoxAt w b c t) (k : Chg S w w') (hb : ¬ S b) : BoxAt w' b c t := (k.block b h.lt hb).trans h
theorem Chg.keep {S : Nat → Prop} {w w' : World} (h : Chg S w w') {b o : Nat} {v : Value} (hc : w.cell? ⟨b, o, none⟩ = some v) (hb : ¬ S b) : w'.cell? ⟨b, o, none⟩ = some v :=
  (World.cell?_of_block (a := ⟨b, o, none⟩) (h.block b (lt_of_cell hc) hb)).trans hc

theorem Chg.set {S : Nat → Prop} {a w : World} (h : Chg S a w) {p : Addr} (hp : a.heap.size ≤ p.block ∨ S p.block) (u : Value) : Chg S a (w.setCell p u) :=
  ⟨h.os, h.tape, h.output, by simpa using h.size, fun k hk hs => (Below.heap_setCell w p u k (fun e => by rcases hp with hp | hp; omega; exact hs (e ▸ hp))).trans (h.block k hk hs)⟩
theorem Chg.drew {S : Nat → Prop} {a w : World} (h : Chg S a w) : Chg S a w.drew := ⟨h.os, h.tape, h.output, h.size, h.block⟩
theorem Chg.drewN {S : Nat → Prop} {a w : World} (h : Chg S a w) (n : Nat) : Chg S a (w.drewN n) := ⟨h.os, h.tape, h.output, h.size, h.block⟩
theorem Chg.alloc {S : Nat → Prop} {a w : World} (h : Chg S a w) (o : Obj) : Chg S a (w.alloc o) := h.trans (Fr.chg ((Fr.refl w).alloc o))
@[reducible] def Pt (b : Nat) : Value := .pointer (some ⟨b, 0, none⟩)
theorem Cel.lt {W : World} {b o : Nat} {v : Value} (h : Cel W b o v) : b < W.heap.size := lt_of_cell h.1
theorem Cel.keepSet {W : World} {b o c p : Nat} {v : Value} (h : Cel W b o v) (hne : b ≠ c ∨ o ≠ p) (u : Value) : Cel (W.setCell ⟨c, p, none⟩ u) b o v := by
  by_cases hb : b = c
  · subst hb
    have ho : o ≠ p := hne.resolve_left (fun e => e rfl)
    refine ⟨?_, by rw [World.frozen?_setCell]; exact h.2⟩
    have hne2 : (⟨b, p, none⟩ : Addr) ≠ ⟨b, o, none⟩ := fun e => ho (congrArg Addr.off e).symm
    exact (World.cell?_setCell_other W _ _ _ hne2).trans h.1
  · exact h.setOther hb u
theorem Cel.drew {W : World} {b o : Nat} {v : Value} (h : Cel W b o v) : Cel W.drew b o v := h
theorem Cel.chg {S : Nat → Prop} {w w' : World} {b o : Nat} {v : Value} (h : Cel w b o v) (k : Chg S w w') (hb : ¬ S b) : Cel w' b o v := by
  have hl := k.block b h.lt hb
  refine ⟨(World.cell?_of_block (a := ⟨b, o, none⟩) hl).trans h.1, ?_⟩
  have h2 := h.2
  unfold World.frozen? at h2 ⊢
  simp only at h2 ⊢
  rw [hl]
  exact h2
theorem BoxAt.cel {w : World} {b : Nat} {c : Array Value} {t : TypeId} (h : BoxAt w b c t) (j : Nat) {v : Value} (hv : c[j]? = some v) : Cel w b j v := ⟨h.at j hv, h.free j⟩
theorem ownsRow_kept2 {w w' : World} {base : Nat} {e : TypeId} {size n : Nat} {v : Value} {xs : List Value} (h : w.ownsRow base e size v n xs) (hb : ∀ k, v.ownBlock = some k → w'.heap[k]? = w.heap[k]?) : w'.ownsRow base e size v n xs := by
  obtain ⟨h1, h2⟩ := h
  refine ⟨h1, ?_⟩
  rcases h2 with h2 | ⟨g, cap, cur, rfl, g1, g2, g3⟩
  · exact .inl h2
  · exact .inr ⟨g, cap, cur, rfl, g1, (hb g rfl).trans g2, g3⟩
theorem ownsRow_base {w : World} {base base' : Nat} {e : TypeId} {size n : Nat} {v : Value} {xs : List Value} (h : w.ownsRow base e size v n xs) (hb : base' ≤ base) : w.ownsRow base' e size v n xs := by
  obtain ⟨h1, h2⟩ := h
  refine ⟨h1, ?_⟩
  rcases h2 with h2 | ⟨g, cap, cur, h3, g1, g2⟩
  · exact .inl h2
  · exact .inr ⟨g, cap, cur, h3, by omega, g2⟩
theorem nodup_len_le : ∀ {n : Nat} {l : List Nat}, l.Nodup → (∀ i ∈ l, i < n) → l.length ≤ n
  | 0, l, _, h => by
    cases l with
    | nil => simp
    | cons a l => exact absurd (h a (by simp)) (by omega)
  | n + 1, l, hd, h => by
    have h1 := nodup_len_le (n := n) (hd.erase n) (fun i hi => by
      have h2 := h i (List.mem_of_mem_erase hi)
      have h3 : i ≠ n := fun e => by rw [e] at hi; exact (hd.not_mem_erase) hi
      omega)
    have h4 := List.length_erase (a := n) (l := l)
    split at h4 <;> omega
theorem Try.infoIntB : (Try.prog.info? 3).map (fun i => (i.zero, i.size, i.bytes)) = some (some (.int .i64 0), 1, 8) := by kernel_rfl
def intV (i : Nat) : Value := .int .i64 (i : Nat)
/-- One number is appended. -/
theorem wpList_appendInt {base : Nat} {w : World} {ops : Array Oper} {rest : List Oper} {o : Oper} {a : Act} {Q : Exit → Act → World → Prop} (hgd : o.guard = none) (s x : Operand)
    (ho : o.op = .call { callee := .builtin .append, args := #[s, x], argTypes := #[25, 25] }) (v : Value) (L : List Nat) (hs : a.eval s = v) (hown : w.ownsRow base 3 1 v L.length (L.map intV)) (f : base ≤ w.heap.size)
    (b c p : Nat) (hx : a.eval x = .slice (some ⟨b, 0, none⟩) 1 c) (hy : w.cell? ⟨b, 0, none⟩ = some (intV p)) (hn : L.length ≤ 5864062014640)
    (h : ∀ va vn vc w', w'.ownsRow base 3 1 (.slice va vn vc) (L ++ [p]).length ((L ++ [p]).map intV) → Chg (fun b => v.ownBlock = some b) w w' → (∀ g, (Value.slice va vn vc).ownBlock = some g → v.ownBlock = some g ∨ g = w.heap.size) → wpList Try.prog ops Q rest (a.put o.dst (.slice va vn vc)) w') : wpList Try.prog ops Q (o :: rest) a w := by
  obtain ⟨i0, hi0, hz0, hz1, hz2⟩ := info_parts Try.infoIntB
  refine wpList_append_lies _ hgd s x 25 ho base 3 i0 _ 1 8 Try.underlying25 hi0 hz0 hz1 hz2 rfl (by omega) v L.length (L.map intV) hs hown ⟨b, 0, none⟩ 1 c [intV p] hx rfl (fun j u hj => ?_) (fun u hu => by rw [List.mem_singleton] at hu; subst hu; rfl) (by omega) (by unfold maxLen; omega) (by omega) f w.heap.size rfl ?_
  · rw [WideShapes.add_plain, Nat.zero_add]
    cases j with
    | zero => simp at hj; subst hj; exact hy
    | succ j => simp at hj
  · intro g cap w' hown' hgrow hat hlt
    refine h _ _ _ w' ?_ ?_ (fun g' he => by simp [Value.ownBlock] at he; subst he; exact hat)
    · rw [List.map_append]
      simpa using hown'
    · exact ⟨hgrow.os, hgrow.tape, hgrow.output, hgrow.size, fun k hk hne => hgrow.block k hk (fun e => hne e.symm)⟩
theorem ints_form {w : World} {base : Nat} {v : Value} {l : List Nat} (h : w.ownsRow base 3 1 v l.length (l.map intV)) : ∃ a cap, v = .slice a l.length cap ∧ l.length ≤ cap ∧ ∀ i (hi : i < l.length), ∃ g, a = some ⟨g, 0, none⟩ ∧ w.cell? ⟨g, i, none⟩ = some (intV l[i]) := by
  have hc := fun g hg => World.ownsRow.cells h (g := g) hg
  rcases h.2 with ⟨h1, h0⟩ | ⟨g, cap, cur, h1, g1, g2, g3, g4, g5⟩
  · exact ⟨none, 0, by rw [h1, h0], by omega, fun i hi => by omega⟩
  · refine ⟨_, cap, h1, g3, fun i hi => ⟨g, rfl, ?_⟩⟩
    have := hc g (by rw [h1]; rfl) i (intV l[i]) (by simp [hi])
    rwa [WideShapes.add_plain, Nat.zero_add] at this
set_option maxRecDepth 100000 in
set_option maxHeartbeats 4000000 in
/-- A row's beginning. -/
theorem ownsRow_first {w : World} {base g cap n : Nat} {e : TypeId} {xs ys : List Value} (h : w.ownsRow base e 1 (.slice (some ⟨g, 0, none⟩) (xs.length + n) cap) (xs.length + n) (xs ++ ys)) : w.ownsRow base e 1 (.slice (some ⟨g, 0, none⟩) xs.length cap) xs.length xs := by
  obtain ⟨h1, h2⟩ := h
  refine ⟨by omega, .inr ?_⟩
  rcases h2 with ⟨h2, _⟩ | ⟨g', cap', cur, h2, g1, g2, g3, g4, g5, g6⟩
  · cases h2
  · cases h2
    refine ⟨g, cap, cur, rfl, g1, g2, by omega, g4, g5, ?_⟩
    have : (cur.toList.take ((xs.length + n) * 1)).take (xs.length * 1) = (xs ++ ys).take (xs.length * 1) := by rw [g6]
    rw [List.take_take, Nat.min_eq_left (by omega)] at this
    rw [this, Nat.mul_one, List.take_left]
/-- Numbers that can be read. -/
def RdI (w : World) (v : Value) (l : List Nat) : Prop := ∃ a cap, v = .slice a l.length cap ∧ l.length ≤ cap ∧ ∀ i (hi : i < l.length), ∃ g o, a = some ⟨g, o, none⟩ ∧ w.cell? ⟨g, o + i, none⟩ = some (intV l[i])
theorem RdI.own {w : World} {base : Nat} {v : Value} {l : List Nat} (h : w.ownsRow base 3 1 v l.length (l.map intV)) : RdI w v l := by
  obtain ⟨a, cap, h1, h2, h3⟩ := ints_form h
  refine ⟨a, cap, h1, h2, fun i hi => ?_⟩
  obtain ⟨g, h4, h5⟩ := h3 i hi
  exact ⟨g, 0, h4, by rw [Nat.zero_add]; exact h5⟩
theorem RdI.fr {w w' : World} {v : Value} {l : List Nat} (h : RdI w v l) (f : Fr w w') : RdI w' v l := by
  obtain ⟨a, cap, h1, h2, h3⟩ := h
  refine ⟨a, cap, h1, h2, fun i hi => ?_⟩
  obtain ⟨g, o, h4, h5⟩ := h3 i hi
  exact ⟨g, o, h4, f.keep h5⟩
theorem ints_at {w : World} {base : Nat} {v : Value} {l : List Nat} (h : w.ownsRow base 3 1 v l.length (l.map intV)) : ∃ a c, v = .slice a l.length c := by
  obtain ⟨a, c, h1, _⟩ := ints_form h
  exact ⟨a, c, h1⟩
/-- Numbers that can be read at a slice's place, wherever it begins. -/
def RdP (w : World) (a : Option Addr) (M : List Nat) : Prop := M = [] ∨ ∃ b o, a = some ⟨b, o, none⟩ ∧ ∀ j (h : j < M.length), w.cell? ⟨b, o + j, none⟩ = some (intV M[j])
theorem RdP.fr {w w' : World} {a : Option Addr} {M : List Nat} (h : RdP w a M) (f : Fr w w') : RdP w' a M := by
  rcases h with h | ⟨b, o, h1, h2⟩
  · exact .inl h
  · exact .inr ⟨b, o, h1, fun j hj => f.keep (h2 j hj)⟩
/-- Numbers are appended, none or some. -/
theorem wpList_appendInts {base : Nat} {w : World} {ops : Array Oper} {rest : List Oper} {o : Oper} {a : Act} {Q : Exit → Act → World → Prop} (hgd : o.guard = none) (s x : Operand)
    (ho : o.op = .call { callee := .builtin .append, args := #[s, x], argTypes := #[25, 25] }) (v : Value) (L M : List Nat) (hs : a.eval s = v) (hown : w.ownsRow base 3 1 v L.length (L.map intV)) (f : base ≤ w.heap.size)
    (xa : Option Addr) (m c : Nat) (hx : a.eval x = .slice xa m c) (hm : m = M.length) (hM : RdP w xa M) (hn : L.length + M.length ≤ 11728124029300)
    (h : ∀ va vc w', w'.ownsRow base 3 1 (.slice va (L ++ M).length vc) (L ++ M).length ((L ++ M).map intV) → Chg (fun b => v.ownBlock = some b) w w' → (∀ g, (Value.slice va (L ++ M).length vc).ownBlock = some g → v.ownBlock = some g ∨ g = w.heap.size) → wpList Try.prog ops Q rest (a.put o.dst (.slice va (L ++ M).length vc)) w') : wpList Try.prog ops Q (o :: rest) a w := by
  obtain ⟨i0, hi0, hz0, hz1, hz2⟩ := info_parts Try.infoIntB
  subst hm
  by_cases h0 : M.length = 0
  · have hM0 : M = [] := List.eq_nil_of_length_eq_zero h0
    subst hM0
    obtain ⟨va, vc, rfl, hvc, _⟩ := ints_form hown
    have hsrc : Src Try.prog i0.size 25 (.slice xa 0 c) 0 [] w := by
      cases xa with
      | none => exact Src.ofNil w Try.underlying25 c
      | some ad => exact Src.ofSlice w Try.underlying25 ad 0 c [] (by simp) (fun j u hj => by simp at hj) (fun u hu => by cases hu)
    have hr := run_append_nothing (P := Try.prog) w 25 25 o.type 3 i0 Try.underlying25 hi0 va L.length vc hvc (.slice xa 0 c) hsrc
    refine wpList_plain hgd fun K hK => ?_
    unfold Oper.wp execOp
    simp only [ho, resolve, invoke, builtin, Sem.run_bind, Sem.run_pure, Result.andThen_ok, List.map_toArray, List.map_cons, List.map_nil, hs, hx, List.length_nil, hr]
    refine hK _ _ ?_
    have := h va vc w (by simpa using hown) (Chg.refl _ w) (fun g hg => .inl (by simpa using hg))
    simpa using this
  · rcases hM with hM | ⟨b, off, rfl, hM⟩
    · rw [hM] at h0; exact absurd rfl h0
    · refine wpList_append_lies _ hgd s x 25 ho base 3 i0 _ 1 8 Try.underlying25 hi0 hz0 hz1 hz2 rfl (by omega) v L.length (L.map intV) hs hown ⟨b, off, none⟩ M.length c (M.map intV) hx (by simp) (fun j u hj => ?_) (fun u hu => by obtain ⟨k, _, rfl⟩ := List.mem_map.1 hu; rfl) (by omega) (by unfold maxLen; omega) (by omega) f w.heap.size rfl ?_
      · rw [WideShapes.add_plain]
        obtain ⟨hj1, hj2⟩ := List.getElem?_eq_some_iff.1 hj
        rw [List.getElem_map] at hj2
        rw [← hj2]
        exact hM j (by simpa using hj1)
      · intro g cap w' hown' hgrow hat hlt
        have e : L.length + M.length = (L ++ M).length := by simp
        rw [e] at hown' ⊢
        refine h _ _ w' (by rw [List.map_append]; exact hown') ⟨hgrow.os, hgrow.tape, hgrow.output, hgrow.size, fun k hk hne => hgrow.block k hk fun e => hne e.symm⟩ (fun g' he => by simp [Value.ownBlock] at he; subst he; exact hat)
theorem own_form {w : World} {base n oc : Nat} {oa : Option Addr} {xs : List Value} {e : TypeId} {size m : Nat} (h : w.ownsRow base e size (.slice oa m oc) n xs) : (oa = none ∧ oc = 0 ∧ n = 0) ∨ ∃ g, oa = some ⟨g, 0, none⟩ := by
  rcases h.2 with ⟨h1, h0⟩ | ⟨g, cap, cur, h1, _⟩
  · cases h1; exact .inl ⟨rfl, rfl, h0⟩
  · cases h1; exact .inr ⟨g, rfl⟩
end Go.Proofs.Ytadognaafgndnaa
