/- Layer 21: rows of a table: read, owned, appended. No condition but what each says. -/
import Derived.Test.YthlngegfodomgaaDoorPItoa
import Derived.Test.YthlngegfodomgaaDoorPBase
import Derived.Test.YthlngegfodomgaaDoorPRegBox
import Derived.Deep.AppendLies
import Derived.Great.BuildSlice
import Derived.Great.FillDense
import Derived.Maps.OwnOps
import Derived.Maps.Views
set_option linter.all false
set_option linter.unusedVariables false
set_option linter.unusedSimpArgs false
set_option linter.unnecessarySimpa false
/- Layer 21: rows of a table: read, owned, appended. No condition but what each says. -/
namespace Go.Proofs.YthlngegfodomgaaDoor
open Go.RowKit Go.Sort
attribute [local go_sem] Oper.semAt_some

/-- The world of a goal becomes a letter. -/
theorem gen_w {R : Act → World → Prop} {a : Act} {w : World} (h : ∀ W, W = w → R a W) : R a w := h w rfl
/-- Blocks of S, and new ones, apart, all stands. -/
structure Chg (S : Nat → Prop) (w w' : World) : Prop where
  os : w'.os = w.os
  tape : w'.tape = w.tape
  output : w'.output = w.output
  size : w.heap.size ≤ w'.heap.size
  block : ∀ k, k < w.heap.size → ¬ S k → w'.heap[k]? = w.heap[k]?
theorem Chg.refl (S : Nat → Prop) (w : World) : Chg S w w := ⟨rfl, rfl, rfl, Nat.le_refl _, fun _ _ _ => rfl⟩
theorem Chg.trans {S : Nat → Prop} {a b c : World} (h : Chg S a b) (k : Chg S b c) : Chg S a c :=
  ⟨k.os.trans h.os, k.tape.trans h.tape, k.output.trans h.output, Nat.le_trans h.size k.size, fun i hi hs => (k.block i (Nat.lt_of_lt_of_le hi h.size) hs).trans (h.block i hi hs)⟩
theorem Chg.mono {S T : Nat → Prop} {a b : World} (h : Chg S a b) (hst : ∀ k, k < a.heap.size → S k → T k) : Chg T a b := ⟨h.os, h.tape, h.output, h.size, fun i hi ht => h.block i hi fun hs => ht (hst i hi hs)⟩
theorem Fr.chg {S : Nat → Prop} {a b : World} (h : Fr a b) : Chg S a b := ⟨h.os, h.tape, h.output, h.size, fun i hi _ => h.block hi⟩
/-- A change to blocks that are newer than a world leaves that world. -/
theorem Chg.fr {S : Nat → Prop} {a w w' : World} (h : Chg S w w') (f : Fr a w) (hs : ∀ k, S k → a.heap.size ≤ k) : Fr a w' :=
  ⟨h.os.trans f.os, h.tape.trans f.tape, h.output.trans f.output, Nat.le_trans f.size h.size, fun k hk => (h.block k (Nat.lt_of_lt_of_le hk f.size) fun e => by have := hs k e; omega).trans (f.block hk)⟩
theorem BoxAt.chg {S : Nat → Prop} {w w' : World} {b : Nat} {c : Array Value} {t : TypeId} (h : BoxAt w b c t) (k : Chg S w w') (hb : ¬ S b) : BoxAt w' b c t := (k.block b h.lt hb).trans h
theorem Chg.keep {S : Nat → Prop} {w w' : World} (h : Chg S w w') {b o : Nat} {v : Value} (hc : w.cell? ⟨b, o, none⟩ = some v) (hb : ¬ S b) : w'.cell? ⟨b, o, none⟩ = some v :=
  (World.cell?_of_block (a := ⟨b, o, none⟩) (h.block b (lt_of_cell hc) hb)).trans hc

theorem ownsRow_kept2 {w w' : World} {base : Nat} {e : TypeId} {size n : Nat} {v : Value} {xs : List Value} (h : w.ownsRow base e size v n xs) (hb : ∀ k, v.ownBlock = some k → w'.heap[k]? = w.heap[k]?) : w'.ownsRow base e size v n xs := by
  obtain ⟨h1, h2⟩ := h
  refine ⟨h1, ?_⟩
  rcases h2 with h2 | ⟨g, cap, cur, rfl, g1, g2, g3⟩
  · exact .inl h2
  · exact .inr ⟨g, cap, cur, rfl, g1, (hb g rfl).trans g2, g3⟩
theorem ownsRow_base {w : World} {base base' : Nat} {e : TypeId} {size n : Nat} {v : Value} {xs : List Value} (h : w.ownsRow base e size v n xs) (hb : base' ≤ base) : w.ownsRow base' e size v n xs := by
  obtain ⟨h1, h2⟩ := h
  refine ⟨h1, ?_⟩
  rcases h2 with h2 | ⟨g, cap, cur, h3, g1, g2⟩
  · exact .inl h2
  · exact .inr ⟨g, cap, cur, h3, by omega, g2⟩
/-- A row of a table. -/
structure TRow where
  client : Nat
  id : Nat
  F : Nat
  O : Nat
  K : Nat
  A : Nat
  B : Nat
  rk : Nat
  rv : Nat
  st : Nat
  frm : Int
  to : Int
def TRow.cells (r : TRow) : List Value := [.int .u8 r.client, .int .u16 r.id, .int .u8 r.F, .int .u8 r.O, .int .u8 r.K, .int .u16 r.A, .int .u16 r.B, .int .u8 r.rk, .int .u16 r.rv, .int .u8 r.st, .int .i64 r.frm, .int .i64 r.to]
theorem trow_one (r : TRow) : r.cells.toArray.all (·.oneCell') = true := by simp [TRow.cells, Value.oneCell']
theorem Tryd.infoRow : (Tryd.prog.info? 32).map (·.size) = some 12 := by kernel_rfl
theorem Tryd.infoRow08 : (Tryd.prog.info? 31).map (·.size) = some 12 := by kernel_rfl
theorem row_one (x : TRow) : ∀ u ∈ x.cells, u.oneCell' = true := by intro u hu; simp [TRow.cells] at hu; rcases hu with rfl | rfl | rfl | rfl | rfl | rfl | rfl | rfl | rfl | rfl | rfl | rfl <;> rfl
theorem rangeAtK {w w' : World} {b o : Nat} {cs : List Value} (h : w.rangeAt b o cs) (hb : w'.heap[b]? = w.heap[b]?) : w'.rangeAt b o cs := fun j v hj =>
  (World.cell?_of_block (a := ⟨b, o + j, none⟩) hb).trans (h j v hj)
/-- Rows that can be read. -/
structure RdT (w : World) (v : Value) (l : List TRow) : Prop where
  is : ∃ a cap, v = .slice a l.length cap ∧ l.length ≤ cap ∧ cap ≤ maxLen ∧ (l = [] ∨ ∃ b off, a = some ⟨b, off, none⟩ ∧ b < w.heap.size ∧ ∀ i (h : i < l.length), w.rangeAt b (off + i * 12) l[i].cells)
theorem RdT.keep {w w' : World} {v : Value} {l : List TRow} (h : RdT w v l) (f : Fr w w') : RdT w' v l := by
  obtain ⟨a, cap, h1, h2, h3, h4⟩ := h
  refine ⟨a, cap, h1, h2, h3, ?_⟩
  rcases h4 with h4 | ⟨b, off, g1, g2, g3⟩
  · exact .inl h4
  · exact .inr ⟨b, off, g1, Nat.lt_of_lt_of_le g2 f.size, fun i h => rangeAtK (g3 i h) (f.block g2)⟩
theorem RdT.at {w : World} {a : Option Addr} {n cap : Nat} {l : List TRow} (h : RdT w (.slice a n cap) l) {k : Nat} (hk : k < l.length) : ∃ b off, a = some ⟨b, off, none⟩ ∧ b < w.heap.size ∧ w.rangeAt b (off + k * 12) l[k].cells := by
  obtain ⟨a', cap', h1, h2, h3, h4⟩ := h
  cases h1
  rcases h4 with h4 | ⟨b, off, g1, g2, g3⟩
  · subst h4; simp at hk
  · exact ⟨b, off, g1, g2, g3 k hk⟩
/-- Rows of the call's own. -/
def rowFlat (L : List TRow) : List Value := L.flatMap TRow.cells
theorem rowFlat_len (L : List TRow) : (rowFlat L).length = L.length * 12 := by
  induction L with
  | nil => rfl
  | cons e l ih =>
    have h3 : e.cells.length = 12 := rfl
    simp only [rowFlat, List.flatMap_cons, List.length_append, List.length_cons] at ih ⊢
    omega
theorem rowFlat_at : ∀ (L : List TRow) (i j : Nat) (h : i < L.length) (u : Value), L[i].cells[j]? = some u → (rowFlat L)[i * 12 + j]? = some u
  | [], i, j, h, u, _ => by simp at h
  | x :: l, 0, j, h, u, hu => by
    unfold rowFlat
    rw [List.flatMap_cons, List.getElem?_append_left]
    · simpa using hu
    · have := (List.getElem?_eq_some_iff.1 hu).1
      simpa using this
  | x :: l, i + 1, j, h, u, hu => by
    have h3 : x.cells.length = 12 := rfl
    unfold rowFlat
    rw [List.flatMap_cons, List.getElem?_append_right (by omega), show (i + 1) * 12 + j - x.cells.length = i * 12 + j by omega]
    exact rowFlat_at l i j (by simpa using h) u (by simpa using hu)
/-- Rows of the call's own, of either type. -/
def OwT (t : TypeId) (base : Nat) (w : World) (v : Value) (L : List TRow) : Prop := w.ownsRow base t 12 v L.length (rowFlat L)
theorem OwT.fr {t : TypeId} {base : Nat} {w w' : World} {v : Value} {L : List TRow} (h : OwT t base w v L) (f : Fr w w') : OwT t base w' v L := ownsRow_kept2 h fun g hg => f.block (World.ownsRow.lt h g hg).2
theorem OwT.chg {t : TypeId} {base : Nat} {w w' : World} {v : Value} {L : List TRow} {S : Nat → Prop} (h : OwT t base w v L) (k : Chg S w w') (hs : ∀ g, v.ownBlock = some g → ¬ S g) : OwT t base w' v L := ownsRow_kept2 h fun g hg => k.block g (World.ownsRow.lt h g hg).2 (hs g hg)
theorem OwT.rd {t : TypeId} {base : Nat} {w : World} {v : Value} {L : List TRow} (h : OwT t base w v L) : RdT w v L := by
  have hlt := World.ownsRow.lt h
  obtain ⟨h1, h2⟩ := h
  rcases h2 with ⟨h2, h0⟩ | ⟨g, cap, cur, rfl, g1, g2, g3, g4, g5, g6⟩
  · have : L = [] := List.eq_nil_of_length_eq_zero h0
    subst this
    exact ⟨none, 0, h2, Nat.le_refl _, by decide, .inl rfl⟩
  · refine ⟨_, cap, rfl, g3, g4, .inr ⟨g, 0, rfl, (hlt g rfl).2, fun i hi j u hj => ?_⟩⟩
    have h5 := rowFlat_at L i j hi u hj
    rw [← g6] at h5
    have hjl : j < 12 := (List.getElem?_eq_some_iff.1 hj).1
    rw [List.getElem?_take_of_lt (by omega)] at h5
    rw [Nat.zero_add]
    have := cell_of_row w g (i * 12 + j) cur _ _ g2
    rw [this]
    simpa using h5
def rowZero : Value := .agg #[.int .u8 0, .int .u16 0, .int .u8 0, .int .u8 0, .int .u8 0, .int .u16 0, .int .u16 0, .int .u8 0, .int .u16 0, .int .u8 0, .int .i64 0, .int .i64 0]
theorem Tryd.infoRowB : (Tryd.prog.info? 32).map (fun i => (i.zero, i.size, i.bytes)) = some (some rowZero, 12, 40) := by kernel_rfl
theorem Tryd.infoRow08B : (Tryd.prog.info? 31).map (fun i => (i.zero, i.size, i.bytes)) = some (some rowZero, 12, 40) := by kernel_rfl
/-- One row is appended. -/
theorem wpList_appendRow {base : Nat} {w : World} {ops : Array Oper} {rest : List Oper} {o : Oper} {a : Act} {Q : Exit → Act → World → Prop} (ts te : TypeId) (hu : Tryd.prog.underlying ts = some (.slice te)) (hi : (Tryd.prog.info? te).map (fun i => (i.zero, i.size, i.bytes)) = some (some rowZero, 12, 40)) (hgd : o.guard = none) (s x : Operand)
    (ho : o.op = .call { callee := .builtin .append, args := #[s, x], argTypes := #[ts, ts] }) (v : Value) (L : List TRow) (hs : a.eval s = v) (hown : OwT te base w v L) (f : base ≤ w.heap.size)
    (b c : Nat) (y : TRow) (hx : a.eval x = .slice (some ⟨b, 0, none⟩) 1 c) (hy : BoxAt w b y.cells.toArray te) (hn : L.length ≤ 4000000)
    (h : ∀ va vn vc w', OwT te base w' (.slice va vn vc) (L ++ [y]) → Chg (fun b => v.ownBlock = some b) w w' → (∀ g, (Value.slice va vn vc).ownBlock = some g → v.ownBlock = some g ∨ g = w.heap.size) → wpList Tryd.prog ops Q rest (a.put o.dst (.slice va vn vc)) w') : wpList Tryd.prog ops Q (o :: rest) a w := by
  obtain ⟨i0, hi0, hz0, hz1, hz2⟩ := info_parts hi
  refine wpList_append_lies _ hgd s x ts ho base te i0 _ 12 40 hu hi0 hz0 hz1 hz2 rfl (by omega) v L.length (rowFlat L) hs hown ⟨b, 0, none⟩ 1 c y.cells hx rfl (fun j u hj => ?_) (row_one y) (by omega) (by unfold maxLen; omega) (by omega) f w.heap.size rfl ?_
  · rw [WideShapes.add_plain, Nat.zero_add]; exact hy.at j (by simpa using hj)
  · intro g cap w' hown' hgrow hat hlt
    refine h _ _ _ w' ?_ ⟨hgrow.os, hgrow.tape, hgrow.output, hgrow.size, fun k hk hne => hgrow.block k hk fun e => hne e.symm⟩ (fun g' he => by simp [Value.ownBlock] at he; subst he; exact hat)
    have : rowFlat (L ++ [y]) = rowFlat L ++ y.cells := by simp [rowFlat]
    unfold OwT
    rw [this]
    simpa using hown'
theorem wpList_buildRow {ops : Array Oper} {rest : List Oper} {o : Oper} {a : Act} {w : World} {Q : Exit → Act → World → Prop} (ts te : TypeId) (hu : Tryd.prog.underlying ts = some (.slice te)) (hi : (Tryd.prog.info? te).map (fun i => (i.zero, i.size, i.bytes)) = some (some rowZero, 12, 40)) (parts : Array (Nat × Operand)) (ho : o.op = .buildSlice ts 1 parts) (y : TRow)
    (hev : (parts.map fun (i, x) => (i, a.eval x)).toList = [(0, .agg y.cells.toArray)]) (hw : Region.wanted o (yielded ops a.tmps) = true)
    (h : wpList Tryd.prog ops Q rest (a.put o.dst (.slice (some ⟨w.heap.size, 0, none⟩) 1 1)) (w.alloc (.cells y.cells.toArray te))) : wpList Tryd.prog ops Q (o :: rest) a w := by
  refine wpList_step fun K hK => ?_
  simp only [hw, if_true]
  obtain ⟨ie, hie, hz, hs, _⟩ := info_parts hi
  refine Go.wp_buildSlice ts te 1 parts ho y.cells.toArray ie _ hu hie hz (by rw [hs]; omega) (by rw [hs]; omega) ?_ (hK _ _ h)
  rw [hev, hs]
  exact (Great.fill_whole (s := 12) (by omega) [.agg y.cells.toArray] _ (fun v hv => by obtain rfl := List.mem_singleton.1 hv; rfl) (by simp)).trans rfl
end Go.Proofs.YthlngegfodomgaaDoor

/- Layer 21: how rows are split, plain, and a map of their parts in memory. No condition but what each says. -/
namespace Go.Proofs.YthlngegfodomgaaDoor
open Go.RowKit Go.Sort
open Go.Maps (Keyed)
attribute [local go_sem] Oper.semAt_some

/-- A row's part. -/
def pk (m : Nat) (p : Bool) (r : TRow) : Nat := if p then (if m = 2 then 8 * r.O + r.K else r.O) else 0
def chk (m : Nat) (r : TRow) : Int := checkN m r.F r.O r.K r.A r.B
theorem partN_pk (m : Nat) (p : Bool) (r : TRow) : partN m r.O r.K p = (pk m p r : Nat) := by
  unfold partN pk
  cases p
  · rfl
  · by_cases h : m = 2
    · subst h; simp
    · rw [if_pos rfl, if_neg (by omega), if_pos rfl, if_neg h]
theorem chk_01 (m : Nat) (r : TRow) : chk m r = 0 ∨ chk m r = 10 := checkN_01 ..
theorem pk_lt {m : Nat} {p : Bool} {r : TRow} (h : chk m r = 0) : pk m p r < 64 := by
  unfold chk checkN at h
  split at h
  · rename_i h'
    unfold mayB at h'
    simp only [Bool.and_eq_true, decide_eq_true_eq] at h'
    obtain ⟨⟨⟨⟨⟨⟨_, _⟩, h1⟩, h2⟩, _⟩, _⟩, _⟩ := h'.1
    unfold pk
    repeat' split
    all_goals omega
  · omega
def inPart (m : Nat) (p : Bool) (l : List TRow) (n : Nat) : List TRow := l.filter fun r => decide (pk m p r = n)
theorem inPart_nil (m : Nat) (p : Bool) (n : Nat) : inPart m p [] n = [] := rfl
theorem inPart_snoc (m : Nat) (p : Bool) (l : List TRow) (r : TRow) (n : Nat) : inPart m p (l ++ [r]) n = if pk m p r = n then inPart m p l n ++ [r] else inPart m p l n := by
  unfold inPart
  rw [List.filter_append]
  by_cases h : pk m p r = n <;> simp [h]
theorem inPart_len (m : Nat) (p : Bool) (l : List TRow) (n : Nat) : (inPart m p l n).length ≤ l.length := List.length_filter_le _ _
def okL (m : Nat) (l : List TRow) : Prop := ∀ r ∈ l, chk m r = 0
def keysN (m : Nat) (p : Bool) (l : List TRow) : List Nat := (List.range 64).filter fun n => !(inPart m p l n).isEmpty
theorem mem_keysN {m : Nat} {p : Bool} {l : List TRow} {n : Nat} : n ∈ keysN m p l ↔ n < 64 ∧ inPart m p l n ≠ [] := by
  unfold keysN
  rw [List.mem_filter, List.mem_range]
  simp
theorem keysN_len (m : Nat) (p : Bool) (l : List TRow) : (keysN m p l).length ≤ 64 := by
  have := List.length_filter_le (fun n => !(inPart m p l n).isEmpty) (List.range 64)
  rwa [List.length_range] at this
def partsOf (m : Nat) (p : Bool) (l : List TRow) : List (Nat × List TRow) := (keysN m p l).map fun n => (n, inPart m p l n)
theorem keysN_sorted (m : Nat) (p : Bool) (l : List TRow) : (keysN m p l).Pairwise (· < ·) := List.Pairwise.filter _ List.pairwise_lt_range
/-- Sorted keys are these. -/
theorem sorted_keys {m : Nat} {p : Bool} {l : List TRow} {es : List (Lit × DataW Value)} {ss : List Int} (hp : es.Pairwise (fun p q => p.1 ≠ q.1)) (hk : ∀ p ∈ es, ∃ x, p.1 = .int .i64 x)
    (hh : ∀ x : Int, Maps.has (DataW.map es) (.int .i64 x) = true ↔ ∃ n : Nat, n < 64 ∧ x = n ∧ inPart m p l n ≠ []) (hs : ss.Perm (intKeys (DataW.map es))) : ss.mergeSort (fun x y => decide (x ≤ y)) = (keysN m p l).map fun n : Nat => (n : Int) := by
  have h1 : ((keysN m p l).map fun n : Nat => (n : Int)).Perm (intKeys (DataW.map es)) := by
    refine perm_intKeys hp hk ?_ fun x => ?_
    · exact List.pairwise_map.2 ((keysN_sorted m p l).imp fun {a b} h e => by omega)
    · rw [hh x, List.mem_map]
      constructor
      · rintro ⟨n, hn, rfl⟩
        exact ⟨n, (mem_keysN.1 hn).1, rfl, (mem_keysN.1 hn).2⟩
      · rintro ⟨n, h1, rfl, h2⟩
        exact ⟨n, mem_keysN.2 ⟨h1, h2⟩, rfl⟩
  have h2 := mergeSort_of_perm_i (hs.trans h1.symm)
  refine h2.trans ?_
  refine List.mergeSort_of_pairwise ?_
  exact List.pairwise_map.2 ((keysN_sorted m p l).imp fun {a b} h => by simp [leI]; omega)
/-- What a map's element reads as: itself. -/
def RV (v : Value) : Option (DataW Value × List MemPlace) := some (.held v, [])
theorem keyOf_int {n : Nat} (h : n < 64) : keyOf Tryd.prog 3 (.int .i64 (n : Int)) = some (.int .i64 (n : Int)) := by
  have hw : (Lit.int .i64 (n : Int)).wf = true := by simp [Lit.wf, IntKind.min, IntKind.max, IntKind.signed, IntKind.bits]; omega
  simp [keyOf, Tryd.underlying3, mapKey, hw]
theorem intKeyed : Keyed Tryd.prog 3 := Go.Maps.int_keyed (q := .i64) Tryd.underlying3
theorem ownsMap_blk {k : TypeId} {R : Value → Option (DataW Value × List MemPlace)} {w w' : World} {b N : Nat} {D : DataW Value} (h : w.ownsMap Tryd.prog k R b N D) (hb : w'.heap[b]? = w.heap[b]?) : w'.ownsMap Tryd.prog k R b N D := by
  obtain ⟨es, clock, h1, F, hs, hD⟩ := h
  exact ⟨es, clock, hb.trans h1, F, hs, hD⟩
def nilS : Value := .slice none 0 0
/-- A map of parts in memory. -/
structure MapSt (w0 w : World) (b N : Nat) (D : DataW Value) (f : Nat → Value) (m : Nat) (p : Bool) (l : List TRow) : Prop where
  own : w.ownsMap Tryd.prog 3 RV b N D
  at_ : ∀ n : Nat, n < 64 → D.atKey (.int .i64 (n : Int)) (.held nilS) = .held (f n)
  has : ∀ x : Int, Maps.has D (.int .i64 x) = true ↔ ∃ n : Nat, n < 64 ∧ x = n ∧ inPart m p l n ≠ []
  rows : ∀ n : Nat, n < 64 → OwT 32 w0.heap.size w (f n) (inPart m p l n)
  sep : ∀ n n' : Nat, n < 64 → n' < 64 → n ≠ n' → ∀ g, (f n).ownBlock = some g → (f n').ownBlock ≠ some g
  bsep : ∀ n : Nat, n < 64 → (f n).ownBlock ≠ some b
  frm : Fr w0 w
  ge : w0.heap.size ≤ b
theorem MapSt.fr {w0 w w' : World} {b N : Nat} {D : DataW Value} {f : Nat → Value} {m : Nat} {p : Bool} {l : List TRow} (H : MapSt w0 w b N D f m p l) (h : Fr w w') : MapSt w0 w' b N D f m p l :=
  ⟨ownsMap_blk H.own (h.block H.own.lt), H.at_, H.has, fun n hn => (H.rows n hn).fr h, H.sep, H.bsep, H.frm.trans h, H.ge⟩
/-- What the lookup tells. -/
theorem MapSt.look {w0 w : World} {b N : Nat} {D : DataW Value} {f : Nat → Value} {m : Nat} {p : Bool} {l : List TRow} (H : MapSt w0 w b N D f m p l) {n : Nat} (hn : n < 64) (hz : (zeroValue 22).run Tryd.prog w = .ok (.slice none 0 0) w) :
    (Instr.lookup 50 (.map (some b)) (.int .i64 (n : Int)) false).run Tryd.prog w = .ok (f n) w := by
  obtain ⟨v, ps, hrun, hv⟩ := H.own.lookup intKeyed Tryd.underlying50 hz (zd := .held nilS) (zp := []) rfl (keyOf_int hn)
  rw [H.at_ n hn] at hv
  unfold RV at hv
  simp only [Option.some.injEq, Prod.mk.injEq, DataW.held.injEq] at hv
  rw [← hv.1]; exact hrun
theorem zeroRows (w : World) : (zeroValue 22).run Tryd.prog w = .ok (.slice none 0 0) w := by
  have h1 : (Tryd.prog.info? 22).map (·.zero) = some (some (.slice none 0 0)) := by kernel_rfl
  cases hi : Tryd.prog.info? 22 with
  | none => rw [hi] at h1; cases h1
  | some i =>
    rw [hi] at h1
    simp only [Option.map_some, Option.some.injEq] at h1
    simp [zeroValue, typeInfo, hi, h1]
/-- One more row. -/
theorem MapSt.step {w0 w w5 w6 : World} {b N : Nat} {D : DataW Value} {f : Nat → Value} {m : Nat} {p : Bool} {l : List TRow} {r : TRow} {v' : Value} (H : MapSt w0 w b N D f m p l) (hr : pk m p r < 64)
    (hO : OwT 32 w0.heap.size w5 v' (inPart m p l (pk m p r) ++ [r])) (k : Chg (fun g => (f (pk m p r)).ownBlock = some g) w w5) (hat : ∀ g, v'.ownBlock = some g → (f (pk m p r)).ownBlock = some g ∨ w.heap.size ≤ g)
    (hM : w6.ownsMap Tryd.prog 3 RV b (N + 1) (D.put (.int .i64 (pk m p r : Nat)) (.held v'))) (hg : w5.grownBy w6 (some b)) : MapSt w0 w6 b (N + 1) (D.put (.int .i64 (pk m p r : Nat)) (.held v')) (fun n => if n = pk m p r then v' else f n) m p (l ++ [r]) := by
  have hlt := H.own.lt
  have hvb : v'.ownBlock ≠ some b := fun e => by
    rcases hat b e with h | h
    · exact H.bsep _ hr h
    · omega
  have key : WideAt.IsKeyLit (.int .i64 ((pk m p r : Nat) : Int)) := intKeyed.key (keyOf_int hr)
  have hMap := H.own.isMap
  refine ⟨hM, fun n hn => ?_, fun x => ?_, fun n hn => ?_, fun n n' hn hn' hne g hg' => ?_, fun n hn => ?_, ?_, H.ge⟩
  · by_cases h : n = pk m p r
    · subst h
      rw [if_pos rfl]
      exact Maps.atKey_put_same hMap key _ _
    · rw [if_neg h, Maps.atKey_put_other (by simp; omega)]
      exact H.at_ n hn
  · by_cases h : x = (pk m p r : Nat)
    · subst h
      rw [Maps.has_put_same hMap key]
      refine ⟨fun _ => ⟨_, hr, rfl, ?_⟩, fun _ => rfl⟩
      rw [inPart_snoc, if_pos rfl]; simp
    · rw [Maps.has_put_other (by simpa using h), H.has x]
      constructor
      · rintro ⟨n, h1, h2, h3⟩
        refine ⟨n, h1, h2, ?_⟩
        rw [inPart_snoc]; split <;> simp [h3]
      · rintro ⟨n, h1, h2, h3⟩
        refine ⟨n, h1, h2, ?_⟩
        rw [inPart_snoc, if_neg (by omega)] at h3
        exact h3
  · rw [inPart_snoc]
    by_cases h : n = pk m p r
    · subst h
      rw [if_pos rfl, if_pos rfl]
      exact ownsRow_kept2 hO fun g hg' => hg.block g (World.ownsRow.lt hO g hg').2 (fun e => hvb (by rw [hg']; exact e))
    · rw [if_neg h, if_neg (fun e => h e.symm)]
      refine ownsRow_kept2 (H.rows n hn) fun g hg' => ?_
      have h2 := (World.ownsRow.lt (H.rows n hn) g hg').2
      refine (hg.block g (Nat.lt_of_lt_of_le h2 k.size) (fun e => ?_)).trans (k.block g h2 (fun e => H.sep n _ hn hr h g hg' e))
      exact H.bsep n hn (by rw [hg']; exact e)
  · by_cases h : n = pk m p r
    · subst h
      rw [if_pos rfl] at hg'
      rw [if_neg (fun e => hne e.symm)]
      rcases hat g hg' with h2 | h2
      · exact H.sep _ _ hn hn' hne g h2
      · intro e; have := (World.ownsRow.lt (H.rows n' hn') g e).2; omega
    · rw [if_neg h] at hg'
      by_cases h' : n' = pk m p r
      · rw [if_pos h']
        intro e
        rcases hat g e with h2 | h2
        · exact H.sep n _ hn hr (by omega) g hg' h2
        · have := (World.ownsRow.lt (H.rows n hn) g hg').2; omega
      · rw [if_neg h']
        exact H.sep n n' hn hn' hne g hg'
  · show (if n = pk m p r then v' else f n).ownBlock ≠ some b
    split
    · exact hvb
    · exact H.bsep n hn
  · refine (k.fr H.frm (fun g hg' => (World.ownsRow.lt (H.rows _ hr) g hg').1)).trans' ?_
    exact ⟨hg.os, hg.tape, hg.output, hg.size, fun i hi => hg.block i (by have := H.frm.size; have := k.size; omega) (fun e => by have h := H.ge; simp at e; omega)⟩
end Go.Proofs.YthlngegfodomgaaDoor

/- part.Split: its walk. No condition but the laid table, how many rows there are, and their numbers' bounds. -/
namespace Go.Proofs.YthlngegfodomgaaDoor
open Go.RowKit Go.Sort
open Go.Maps (Keyed)
attribute [local go_sem] Oper.semAt_some

/-- Rows' numbers are within their kinds. -/
def Bnd (l : List TRow) : Prop := ∀ r ∈ l, r.F ≤ 255 ∧ r.O ≤ 255 ∧ r.K ≤ 255
theorem ofYes_c {m : Nat} {p : Bool} {r : TRow} (w : World) (hE : Env w) (hb : r.F ≤ 255 ∧ r.O ≤ 255 ∧ r.K ≤ 255) (h : chk m r = 0) :
    Calls Tryd.prog 8 #[.int .u8 m, .agg #[.int .u8 r.F, .int .u8 r.O, .int .u8 r.K, .int .u16 r.A, .int .u16 r.B], .bool p] w fun e w' => e = .returned (.tuple #[.int .i64 (pk m p r : Nat), .int .i64 0]) ∧ Fr w w' := by
  rw [← partN_pk]
  exact Of_yes m r.F r.O r.K r.A r.B p w hE hb.1 (by omega) (by omega) (by omega) (by omega) h
theorem ofNo_c {m : Nat} {p : Bool} {r : TRow} (w : World) (hE : Env w) (hb : r.F ≤ 255 ∧ r.O ≤ 255 ∧ r.K ≤ 255) (h : chk m r = 10) :
    Calls Tryd.prog 8 #[.int .u8 m, .agg #[.int .u8 r.F, .int .u8 r.O, .int .u8 r.K, .int .u16 r.A, .int .u16 r.B], .bool p] w fun e w' => e = .returned (.tuple #[.int .i64 0, .int .i64 10]) ∧ Fr w w' :=
  Of_no m r.F r.O r.K r.A r.B p w hE hb.1 h
/-- Pairs of values of the call's own. -/
def pairFlat (xs : List (Value × Value)) : List Value := xs.flatMap fun q => [q.1, q.2]
theorem pairFlat_len (xs : List (Value × Value)) : (pairFlat xs).length = xs.length * 2 := by
  induction xs with
  | nil => rfl
  | cons e l ih =>
    simp only [pairFlat, List.flatMap_cons, List.length_append, List.length_cons, List.length_nil] at ih ⊢
    omega
theorem pairFlat_at : ∀ (L : List (Value × Value)) (i : Nat) (h : i < L.length), (pairFlat L)[i * 2]? = some L[i].1 ∧ (pairFlat L)[i * 2 + 1]? = some L[i].2
  | [], i, h => by simp at h
  | x :: l, 0, h => ⟨rfl, rfl⟩
  | x :: l, i + 1, h => by
    have e : pairFlat (x :: l) = x.1 :: x.2 :: pairFlat l := rfl
    have := pairFlat_at l i (by simpa using h)
    rw [e, show (i + 1) * 2 = i * 2 + 2 by omega, show i * 2 + 2 + 1 = i * 2 + 1 + 2 by omega]
    exact this
def OwP (t : TypeId) (base : Nat) (w : World) (v : Value) (xs : List (Value × Value)) : Prop := w.ownsRow base t 2 v xs.length (pairFlat xs)
theorem OwP.fr {t : TypeId} {base : Nat} {w w' : World} {v : Value} {L : List (Value × Value)} (h : OwP t base w v L) (f : Fr w w') : OwP t base w' v L := ownsRow_kept2 h fun g hg => f.block (World.ownsRow.lt h g hg).2
def partZero : Value := .agg #[.int .i64 0, .slice none 0 0]
theorem Tryd.infoPart : (Tryd.prog.info? 41).map (fun i => (i.zero, i.size, i.bytes)) = some (some partZero, 2, 32) := by kernel_rfl
/-- One pair is appended. -/
theorem wpList_appendPair {base : Nat} {w : World} {ops : Array Oper} {rest : List Oper} {o : Oper} {a : Act} {Q : Exit → Act → World → Prop} (ts te : TypeId) (hu : Tryd.prog.underlying ts = some (.slice te)) (hi : (Tryd.prog.info? te).map (fun i => (i.zero, i.size, i.bytes)) = some (some partZero, 2, 32)) (hgd : o.guard = none) (s x : Operand)
    (ho : o.op = .call { callee := .builtin .append, args := #[s, x], argTypes := #[ts, ts] }) (v : Value) (L : List (Value × Value)) (hs : a.eval s = v) (hown : OwP te base w v L) (f : base ≤ w.heap.size)
    (b c : Nat) (y : Value × Value) (hx : a.eval x = .slice (some ⟨b, 0, none⟩) 1 c) (hy0 : w.cell? ⟨b, 0, none⟩ = some y.1) (hy1 : w.cell? ⟨b, 1, none⟩ = some y.2) (h1 : y.1.oneCell' = true ∧ y.2.oneCell' = true) (hn : L.length ≤ 4000000)
    (h : ∀ va vn vc w', OwP te base w' (.slice va vn vc) (L ++ [y]) → Chg (fun b => v.ownBlock = some b) w w' → wpList Tryd.prog ops Q rest (a.put o.dst (.slice va vn vc)) w') : wpList Tryd.prog ops Q (o :: rest) a w := by
  obtain ⟨i0, hi0, hz0, hz1, hz2⟩ := info_parts hi
  refine wpList_append_lies _ hgd s x ts ho base te i0 _ 2 32 hu hi0 hz0 hz1 hz2 rfl (by omega) v L.length (pairFlat L) hs hown ⟨b, 0, none⟩ 1 c [y.1, y.2] hx rfl (fun j u hj => ?_) (fun u hu => by simp at hu; rcases hu with rfl | rfl; exact h1.1; exact h1.2) (by omega) (by unfold maxLen; omega) (by omega) f w.heap.size rfl ?_
  · rw [WideShapes.add_plain, Nat.zero_add]
    match j, hj with
    | 0, hj => simp at hj; subst hj; exact hy0
    | 1, hj => simp at hj; subst hj; exact hy1
    | j + 2, hj => simp at hj
  · intro g cap w' hown' hgrow hat hlt
    refine h _ _ _ w' ?_ ⟨hgrow.os, hgrow.tape, hgrow.output, hgrow.size, fun k hk hne => hgrow.block k hk fun e => hne e.symm⟩
    have : pairFlat (L ++ [y]) = pairFlat L ++ [y.1, y.2] := by simp [pairFlat]
    unfold OwP
    rw [this]
    simpa using hown'
/-- Parts that can be read. -/
def PartsAt (w : World) (u : Value) (ps : List (Nat × List TRow)) : Prop := ∃ (a : Option Addr) (cap : Nat) (g : Nat → Value), u = .slice a ps.length cap ∧ ps.length ≤ cap ∧
  ∀ i (h : i < ps.length), (∃ b, a = some ⟨b, 0, none⟩ ∧ w.cell? ⟨b, i * 2, none⟩ = some (.int .i64 (ps[i].1 : Nat)) ∧ w.cell? ⟨b, i * 2 + 1, none⟩ = some (g i)) ∧ RdT w (g i) ps[i].2
theorem PartsAt.fr {w w' : World} {u : Value} {ps : List (Nat × List TRow)} (h : PartsAt w u ps) (f : Fr w w') : PartsAt w' u ps := by
  obtain ⟨a, cap, g, h1, h2, h3⟩ := h
  refine ⟨a, cap, g, h1, h2, fun i hi => ?_⟩
  obtain ⟨⟨b, g1, g2, g3⟩, g4⟩ := h3 i hi
  exact ⟨⟨b, g1, f.keep g2, f.keep g3⟩, g4.keep f⟩
theorem OwP.parts {t : TypeId} {base : Nat} {w : World} {v : Value} {ks : List Nat} {f : Nat → Value} {rows : Nat → List TRow} (h : OwP t base w v (ks.map fun n => (.int .i64 (n : Nat), f n))) (hr : ∀ n ∈ ks, RdT w (f n) (rows n)) : PartsAt w v (ks.map fun n => (n, rows n)) := by
  have hc := fun g hg => World.ownsRow.cells h (g := g) hg
  rcases h.2 with ⟨h1, h0⟩ | ⟨g, cap, cur, h1, g1, g2, g3, g4, g5⟩
  · have : ks = [] := by simpa using h0
    subst this
    exact ⟨none, 0, fun _ => nilS, h1, Nat.le_refl _, fun i hi => by simp at hi⟩
  · refine ⟨_, cap, fun i => f (ks.getD i 0), by simpa using h1, by simpa using g3, fun i hi => ?_⟩
    have hik : i < ks.length := by simpa using hi
    obtain ⟨p0, p1⟩ := pairFlat_at (ks.map fun n => (Value.int .i64 (n : Nat), f n)) i (by simpa using hik)
    have q0 := hc g (by rw [h1]; rfl) (i * 2) _ p0
    have q1 := hc g (by rw [h1]; rfl) (i * 2 + 1) _ p1
    simp only [List.getElem_map] at q0 q1 ⊢
    have e : ks.getD i 0 = ks[i] := by simp [hik]
    rw [e]
    rw [WideShapes.add_plain, Nat.zero_add] at q0 q1
    exact ⟨⟨g, rfl, q0, q1⟩, hr _ (List.getElem_mem hik)⟩
theorem Tryd.infoOp5 : (Tryd.prog.info? 27).map (·.size) = some 5 := by kernel_rfl
theorem op_at {w : World} {b : Nat} {r : TRow} {t : TypeId} (h : BoxAt w b r.cells.toArray t) : w.rangeAt b 2 [.int .u8 r.F, .int .u8 r.O, .int .u8 r.K, .int .u16 r.A, .int .u16 r.B] := fun j u hj => by
  refine h.at (2 + j) ?_
  match j, hj with
  | 0, hj => exact hj
  | 1, hj => exact hj
  | 2, hj => exact hj
  | 3, hj => exact hj
  | 4, hj => exact hj
  | j + 5, hj => simp at hj
theorem okL_snoc {m : Nat} {l : List TRow} {r : TRow} (h : okL m l) (hr : chk m r = 0) : okL m (l ++ [r]) := fun x hx => by
  rcases List.mem_append.1 hx with hx | hx
  · exact h x hx
  · rw [List.mem_singleton] at hx; subst hx; exact hr
def pf (f : Nat → Value) (n : Nat) : Value × Value := (.int .i64 (n : Nat), f n)
def SplitQ (m : Nat) (p : Bool) (l : List TRow) (w : World) (e : Ending) (w' : World) : Prop := Fr w w' ∧ ((¬ okL m l ∧ e = .returned (.tuple #[.slice none 0 0, .int .i64 10])) ∨ (okL m l ∧ ∃ u, e = .returned (.tuple #[u, .int .i64 0]) ∧ PartsAt w' u (partsOf m p l)))
set_option maxRecDepth 100000 in
set_option maxHeartbeats 8000000 in
theorem Split_c (m : Nat) (p : Bool) (l : List TRow) (v : Value) (w : World) (hE : Env w) (hl : RdT w v l) (hb : Bnd l) (hn : l.length ≤ 60) (hm : m ≤ 255) :
    Calls Tryd.prog 6 #[.int .u8 m, v, .bool p] w (SplitQ m p l w) := by
  have HL := Lib.hid hl
  have HE := Lib.hid hE
  have HB := Lib.hid hb
  obtain ⟨a, cap, rfl, hcap, hmax, _⟩ := hl.is
  unfold maxLen at hmax
  clear hl hE hb
  have hmm := @run_makeMap Tryd.prog
  go_enter Tryd.func6, Tryd.ntmps6
  go_wp2_with fail
  have HM0 : Hid (MapSt w (w.alloc (.map #[] 0)) w.heap.size 0 (.map []) (fun _ => nilS) m p (l.take 0)) := by
    refine ⟨World.ownsMap_made w _ _ _, fun n hn => rfl, fun x => ?_, fun n hn => World.ownsRow_nil _ _ _ _, fun n n' _ _ _ g hg => (by cases hg), fun n _ h => (by cases h), (Fr.refl w).alloc _, Nat.le_refl _⟩
    simp [Maps.has, inPart]
  go_loopw [6, 18] (fun vo vi wr => ∃ (k N : Nat) (D : DataW Value) (f : Nat → Value), vo = .slice none 0 0 ∧ k ≤ l.length ∧ N ≤ k ∧ vi = .int .i64 k ∧ Hid (MapSt w wr w.heap.size N D f m p (l.take k) ∧ okL m (l.take k))) (fun _ vi _ => l.length - (intOf vi).toNat)
  case atStart => exact ⟨0, 0, _, _, rfl, Nat.zero_le _, Nat.le_refl _, rfl, ⟨HM0.out, fun r hr => by simp at hr⟩⟩
  case round =>
    clear HM0
    obtain ⟨k, N, D, f, rfl, hk, hN, rfl, HM⟩ := hrel
    by_cases hlt : k < l.length
    · have hfr := HM.out.1.frm
      obtain ⟨b1, o1, rfl, hb1, hx0⟩ := RdT.at HL.out hlt
      have hx := rangeAtK hx0 (hfr.block hb1)
      have hb1r : b1 < wr.heap.size := Nat.lt_of_lt_of_le hb1 hfr.size
      have hbd := HB.out l[k] (List.getElem_mem hlt)
      have HTK := Lib.hid (List.take_succ_eq_append_getElem hlt)
      have HNO : Hid (chk m l[k] = 10 → ¬ okL m l) := fun h ho => by have := ho l[k] (List.getElem_mem hlt); omega
      generalize l[k] = r at hx HTK HNO hbd
      have HBD := Lib.hid hbd
      clear hx0 hbd
      go_upto_region 5 with (first | ((with_reducible refine wpList_here (.load 32 (.tmp 20)) rfl ?_); refine wpList_load_midW 32 (.tmp 20) rfl b1 (o1 + k * 12) rfl r.cells _ hx Tryd.underlying32 rfl Tryd.infoRow rfl ?_) | ((with_reducible refine wpList_here (.store 32 (.tmp 10) (.tmp 21)) rfl ?_); refine wpList_store_new 32 (.tmp 10) (.tmp 21) rfl _ r.cells.toArray _ rfl rfl rfl Tryd.infoRow rfl (trow_one r) rfl rfl ?_))
      refine gen_w fun W hW => ?_
      have hBx : BoxAt W wr.heap.size r.cells.toArray 32 := by rw [hW]; exact BoxAt.new wr _ _
      have hrW : Fr wr W := by rw [hW]; exact (Fr.refl _).alloc _
      have HM2 := Lib.hid (HM.out.1.fr hrW)
      have HOK := Lib.hid HM.out.2
      have HBX := Lib.hid hBx
      have hop := op_at hBx
      have lbx := hBx.lt
      generalize wr.heap.size = bx at HBX hop lbx ⊢
      clear hW hrW hBx HM hx hb1r hfr
      have hfW := HM2.out.frm
      rcases chk_01 m r with hc | hc
      · have HC := Lib.hid hc
        have hr := pk_lt (p := p) hc
        have HO := Lib.hid (ofYes_c (p := p) W (HE.out.keep hfW) HBD.out hc)
        clear hc hfW
        go_wp2_with ((with_reducible refine wpList_here (.load 27 (.tmp 24)) rfl ?_); refine wpList_load_midW 27 (.tmp 24) rfl bx 2 rfl _ _ hop Tryd.underlying27 rfl Tryd.infoOp5 rfl ?_)
        refine HO.out.mono ?_
        rintro e w1 ⟨rfl, hf1⟩
        have HM3 := Lib.hid (HM2.out.fr hf1)
        have HBX := Lib.hid (HBX.out.fr hf1)
        have hlook := HM3.out.look hr (zeroRows w1)
        obtain ⟨va, vc, hfn, _⟩ : ∃ va vc, f (pk m p r) = .slice va (inPart m p (l.take k) (pk m p r)).length vc ∧ True := by obtain ⟨va, vc, h, _⟩ := (HM3.out.rows _ hr).rd.is; exact ⟨va, vc, h, trivial⟩
        have hown := (HM3.out.rows _ hr).fr ((Fr.refl w1).alloc (.cells r.cells.toArray 32))
        have HFN := Lib.hid hfn
        have HSM := Lib.hid (fun w5 w6 v' hO k' hat hM hg => HM3.out.step (r := r) (w5 := w5) (w6 := w6) (v' := v') hr hO k' hat hM hg)
        rw [hfn] at hlook hown
        have hbB := HBX.out
        have hlb := hbB.lt
        have hy := BoxAt.new w1 r.cells.toArray 32
        have hsz := (HM3.out.frm.alloc (.cells r.cells.toArray 32)).size
        have hln : (inPart m p (l.take k) (pk m p r)).length ≤ 4000000 := Nat.le_trans (inPart_len _ _ _ _) (by rw [List.length_take]; omega)
        have hbl := HM3.out.own.lt
        have hbsep := HM3.out.bsep _ hr
        rw [hfn] at hbsep
        have hN2 : N < maxLen := by unfold maxLen; omega
        generalize hnn : pk m p r = n at *
        clear HO hop lbx HM2 hf1 hfn
        go_wp2_with (first | ((with_reducible refine wpList_here (.load 32 (.tmp 10)) rfl ?_); refine wpList_load_box 32 (.tmp 10) rfl _ rfl _ hbB _ Tryd.underlying32 rfl Tryd.infoRow rfl ?_) | (refine wpList_buildRow 22 32 Tryd.underlying22 Tryd.infoRowB _ rfl r ?hev rfl ?_) | (at_builtin; refine wpList_appendRow (base := w.heap.size) 22 32 Tryd.underlying22 Tryd.infoRowB rfl (.tmp 37) (.tmp 39) rfl (.slice va (inPart m p (l.take k) n).length vc) (inPart m p (l.take k) n) rfl hown hsz w1.heap.size 1 r rfl hy hln ?_))
        intro va5 vn5 vc5 w5 hO5 hch5 hat5
        have hk5 : Chg (fun g => (f n).ownBlock = some g) w1 w5 := by rw [HFN.out]; exact ((Fr.refl w1).alloc _).chg.trans hch5
        have hown5 : w5.ownsMap Tryd.prog 3 RV w.heap.size N D := ownsMap_blk HM3.out.own (hk5.block _ hbl (by rw [HFN.out]; exact hbsep))
        have HO5 := Lib.hid hO5
        have HAT : Hid (∀ g, (Value.slice va5 vn5 vc5).ownBlock = some g → (f n).ownBlock = some g ∨ w1.heap.size ≤ g) := fun g hg => by
          rw [HFN.out]
          exact (hat5 g hg).imp id (fun e => by first | omega | (simp at e; omega))
        have HK5 := Lib.hid hk5
        clear hO5 hch5 hat5 hk5 hown hy hsz hlook hbB hlb
        go_wp2_with (at_mapUpdate; refine wpList_mapUpdate_own _ rfl _ _ _ 50 rfl 3 22 intKeyed Tryd.underlying50 RV _ N D rfl hown5 hN2 _ _ (.int .i64 (n : Nat)) rfl rfl (keyOf_int hr) (.held (.slice va5 vn5 vc5)) [] rfl ?_)
        intro w6 hM6 hg6
        have HM6 := Lib.hid (HSM.out w5 w6 _ HO5.out HK5.out HAT.out hM6 hg6)
        rw [← HTK.out] at HM6
        have HOK6 := Lib.hid (okL_snoc HOK.out HC.out)
        rw [← HTK.out] at HOK6
        clear hM6 hg6 hown5
        go_wp2_with fail
        go_roundw
        case rel => exact ⟨k + 1, N + 1, _, _, rfl, by omega, by omega, by go_num, ⟨HM6.out, HOK6.out⟩⟩
        case measure => first | (simp [intOf]; done) | (simp [intOf]; omega)
      · have HO := Lib.hid (ofNo_c (p := p) W (HE.out.keep hfW) HBD.out hc)
        have HNOK := Lib.hid (HNO.out hc)
        clear hc HM2
        go_wp2_with ((with_reducible refine wpList_here (.load 27 (.tmp 24)) rfl ?_); refine wpList_load_midW 27 (.tmp 24) rfl bx 2 rfl _ _ hop Tryd.underlying27 rfl Tryd.infoOp5 rfl ?_)
        refine HO.out.mono ?_
        rintro e w1 ⟨rfl, hf1⟩
        go_wp2_with fail
        go_ret2
        exact ⟨hfW.trans hf1, .inl ⟨HNOK.out, rfl⟩⟩
    · obtain rfl : k = l.length := by omega
      rw [List.take_length] at HM
      have HK := Lib.hid (keys_c w.heap.size wr)
      have hbl := HM.out.1.own.lt
      have hBn := BoxAt.new wr #[.map (some w.heap.size)] 50
      have HM1 := Lib.hid (HM.out.1.fr ((Fr.refl wr).alloc (.cells #[.map (some w.heap.size)] 50)))
      have hsz := HM1.out.own.size_le
      have HS := Lib.hid (sorted_c wr.heap.size w.heap.size N D RV _ hBn.lt (hBn.at 0 rfl) HM1.out.own (by unfold maxLen; omega) (by omega))
      have HOK := Lib.hid HM.out.2
      clear hBn hsz hbl HM
      go_wp2_with fail
      refine HK.out.mono ?_
      rintro e w1 ⟨rfl, rfl⟩
      go_wp2_with fail
      refine HS.out.mono ?_
      rintro e w2 ⟨v2, ss, rfl, hperm, hrow, hf2⟩
      have HM2 := Lib.hid (HM1.out.fr hf2)
      have hks : ss.mergeSort (fun x y => decide (x ≤ y)) = (keysN m p l).map fun n : Nat => (n : Int) := by
        obtain ⟨es, hD, hpw, _⟩ := HM2.out.own.entries intKeyed
        obtain ⟨es', hD', hko⟩ := HM2.out.own.keysOf
        have hh := HM2.out.has
        obtain rfl : es = es' := by rw [hD] at hD'; simpa using hD'
        rw [hD] at hh hperm
        exact sorted_keys hpw (fun q hq => by obtain ⟨v, hv⟩ := hko q hq; obtain ⟨x, _, hx, _⟩ := Maps.keyOf_i64 Tryd.underlying3 hv; exact ⟨x, hx⟩) hh hperm
      have hlen : ss.length = (keysN m p l).length := by rw [← List.length_mergeSort (le := fun x y => decide (x ≤ y)) ss, hks, List.length_map]
      rw [hks, hlen, List.map_map] at hrow
      have hkl := keysN_len m p l
      have HKM : Hid (∀ n ∈ keysN m p l, n < 64) := fun n hn => (mem_keysN.1 hn).1
      have HPS : Hid (PartsAt = PartsAt) := rfl
      obtain ⟨ks, hkse⟩ : ∃ ks, ks = keysN m p l := ⟨_, rfl⟩
      rw [← hkse] at hrow hkl HKM
      have HKE := Lib.hid hkse
      have hcl := fun g hg => World.ownsRow.cells hrow (g := g) hg
      have hform : ∃ va vc, v2 = .slice va ks.length vc ∧ ks.length ≤ vc ∧ ∀ i (hi : i < ks.length), ∃ g, va = some ⟨g, 0, none⟩ ∧ w2.cell? ⟨g, i, none⟩ = some (.int .i64 (ks[i] : Nat)) := by
        rcases hrow.2 with ⟨h1, h0⟩ | ⟨g, cap2, cur, h1, g1, g2, g3, g4, g5⟩
        · exact ⟨none, 0, by rw [h1, h0], by omega, fun i hi => by omega⟩
        · refine ⟨_, cap2, h1, g3, fun i hi => ⟨g, rfl, ?_⟩⟩
          have := hcl g (by rw [h1]; rfl) i (.int .i64 (ks[i] : Nat)) (by simp [hi, encZ])
          rwa [WideShapes.add_plain, Nat.zero_add] at this
      obtain ⟨va, vc, rfl, hvc, hcs⟩ := hform
      have HCS := Lib.hid hcs
      clear hperm hrow hks hlen hkse hcl hcs hf2 HM1 HS HK hk hN hlt
      go_wp2_with fail
      go_loopw [6, 46] (fun vo vi wr => ∃ i : Nat, i ≤ ks.length ∧ vi = .int .i64 i ∧ Hid (Fr w2 wr ∧ OwP 41 w2.heap.size wr vo ((ks.take i).map (pf f)))) (fun _ vi _ => ks.length - (intOf vi).toNat)
      case atStart => exact ⟨0, Nat.zero_le _, rfl, ⟨Fr.refl _, World.ownsRow_nil _ _ _ _⟩⟩
      case round =>
        obtain ⟨i, hi, rfl, HO⟩ := hrel
        by_cases hit : i < ks.length
        · obtain ⟨g, rfl, hc⟩ := HCS.out i hit
          have hc := HO.out.1.keep hc
          have lg := lt_of_cell hc
          simp only at lg
          have hn64 := HKM.out ks[i] (List.getElem_mem hit)
          have HTK := Lib.hid (List.take_succ_eq_append_getElem hit)
          have HM3 := Lib.hid (HM2.out.fr HO.out.1)
          generalize ks[i] = n at hc hn64 HTK
          have hlook := HM3.out.look hn64 (zeroRows wr)
          obtain ⟨fa, fc, hfn, _⟩ : ∃ fa fc, f n = .slice fa (inPart m p l n).length fc ∧ True := by obtain ⟨fa, fc, h, _⟩ := (HM3.out.rows _ hn64).rd.is; exact ⟨fa, fc, h, trivial⟩
          have HFN := Lib.hid hfn
          rw [hfn] at hlook
          have hown := HO.out.2.fr ((Fr.refl wr).alloc (.cells #[.int .i64 (n : Nat), .slice fa (inPart m p l n).length fc] 41))
          have hB := BoxAt.new wr #[.int .i64 (n : Nat), .slice fa (inPart m p l n).length fc] 41
          have hy0 := hB.at 0 rfl
          have hy1 := hB.at 1 rfl
          have hsz := (HO.out.1.alloc (.cells #[.int .i64 (n : Nat), .slice fa (inPart m p l n).length fc] 41)).size
          have hln : ((ks.take i).map (pf f)).length ≤ 4000000 := by rw [List.length_map, List.length_take]; omega
          clear hfn hB
          go_wp2_with (at_builtin; refine wpList_appendPair (base := w2.heap.size) 33 41 Tryd.underlying33 Tryd.infoPart rfl (.tmp 50) (.tmp 56) rfl u6 ((ks.take i).map (pf f)) rfl hown hsz wr.heap.size 1 (.int .i64 (n : Nat), .slice fa (inPart m p l n).length fc) rfl hy0 hy1 ⟨rfl, rfl⟩ hln ?_)
          intro va5 vn5 vc5 w5 hO5 hch5
          have hF5 : Fr w2 w5 := hch5.fr (HO.out.1.alloc _) (fun g hg => (World.ownsRow.lt HO.out.2 g hg).1)
          have HO5 : Hid (OwP 41 w2.heap.size w5 (.slice va5 vn5 vc5) ((ks.take (i + 1)).map (pf f))) := by
            rw [HTK.out, List.map_append]
            have e : List.map (pf f) [n] = [(.int .i64 (n : Nat), .slice fa (inPart m p l n).length fc)] := by simp [pf, HFN.out]
            rw [e, List.map_take]; exact hO5
          clear hO5 hch5 hy0 hy1 hown hsz hlook
          go_wp2_with fail
          go_roundw
          case rel => exact ⟨i + 1, by omega, by go_num, ⟨hF5, HO5.out⟩⟩
          case measure => first | (simp [intOf]; done) | (simp [intOf]; omega)
        · obtain rfl : i = ks.length := by omega
          rw [List.take_length] at HO
          have HP : Hid (PartsAt wr u6 (partsOf m p l)) := by
            unfold partsOf
            rw [← HKE.out]
            exact HO.out.2.parts (f := f) fun n hn => ((HM2.out.fr HO.out.1).rows n (HKM.out n hn)).rd
          have hF := HM2.out.frm.trans HO.out.1
          obtain ⟨_, _, _, h6, _⟩ := id HP.out
          subst h6
          clear HO
          go_wp2_with fail
          go_ret2
          exact ⟨hF, .inr ⟨HOK.out, _, rfl, HP.out⟩⟩
end Go.Proofs.YthlngegfodomgaaDoor

/- umpireref21.Split: its walk. No condition but how many rows there are, and their numbers' bounds. -/
namespace Go.Proofs.YthlngegfodomgaaDoor
open Go.RowKit Go.Sort
attribute [local go_sem] Oper.semAt_some

theorem Tryd.infoPart21 : (Tryd.prog.info? 43).map (fun i => (i.zero, i.size, i.bytes)) = some (some partZero, 2, 32) := by kernel_rfl
theorem rOfYes_c {m : Nat} {p : Bool} {r : TRow} (w : World) (hm : m ≤ 255) (hb : r.F ≤ 255 ∧ r.O ≤ 255 ∧ r.K ≤ 255) (h : chk m r = 0) :
    Calls Tryd.prog 14 #[.int .u8 m, .agg #[.int .u8 r.F, .int .u8 r.O, .int .u8 r.K, .int .u16 r.A, .int .u16 r.B], .bool p] w fun e w' => e = .returned (.tuple #[.int .i64 (pk m p r : Nat), .int .i64 0]) ∧ Fr w w' := by
  have h1 := rOf_c m r.F r.O r.K r.A r.B p w hb.1 (by omega) (by omega) (by omega) (by omega) (by omega) (by omega)
  unfold rOfN at h1
  rw [show checkN m r.F r.O r.K r.A r.B = 0 from h, if_pos rfl, partN_pk] at h1
  exact h1
theorem rOfNo_c {m : Nat} {p : Bool} {r : TRow} (w : World) (hm : m ≤ 255) (hb : r.F ≤ 255 ∧ r.O ≤ 255 ∧ r.K ≤ 255) (h : chk m r = 10) :
    Calls Tryd.prog 14 #[.int .u8 m, .agg #[.int .u8 r.F, .int .u8 r.O, .int .u8 r.K, .int .u16 r.A, .int .u16 r.B], .bool p] w fun e w' => e = .returned (.tuple #[.int .i64 0, .int .i64 10]) ∧ Fr w w' := by
  have h1 := rOf_c m r.F r.O r.K r.A r.B p w hb.1 (by omega) (by omega) (by omega) (by omega) (by omega) (by omega)
  unfold rOfN at h1
  rw [show checkN m r.F r.O r.K r.A r.B = 10 from h, if_neg (by decide)] at h1
  exact h1
theorem op_mid {w : World} {b o : Nat} {r : TRow} (h : w.rangeAt b o r.cells) : w.rangeAt b (o + 2) [.int .u8 r.F, .int .u8 r.O, .int .u8 r.K, .int .u16 r.A, .int .u16 r.B] := fun j u hj => by
  rw [Nat.add_assoc]
  refine h (2 + j) u ?_
  match j, hj with
  | 0, hj => exact hj
  | 1, hj => exact hj
  | 2, hj => exact hj
  | 3, hj => exact hj
  | 4, hj => exact hj
  | j + 5, hj => simp at hj
def keysTo (m : Nat) (p : Bool) (l : List TRow) (n : Nat) : List Nat := (List.range n).filter fun n => !(inPart m p l n).isEmpty
theorem keysTo_succ (m : Nat) (p : Bool) (l : List TRow) (n : Nat) : keysTo m p l (n + 1) = if (inPart m p l n).isEmpty then keysTo m p l n else keysTo m p l n ++ [n] := by
  unfold keysTo
  rw [List.range_succ, List.filter_append]
  cases h : (inPart m p l n).isEmpty <;> simp [h]
theorem mem_keysTo {m : Nat} {p : Bool} {l : List TRow} {n k : Nat} (h : k ∈ keysTo m p l n) : k < n := List.mem_range.1 (List.mem_filter.1 h).1
theorem keysTo_len (m : Nat) (p : Bool) (l : List TRow) (n : Nat) : (keysTo m p l n).length ≤ n := by
  have := List.length_filter_le (fun n => !(inPart m p l n).isEmpty) (List.range n)
  rwa [List.length_range] at this
/-- What the outer loop holds. -/
structure OutSt (w0 w : World) (vo : Value) (f : Nat → Value) (m : Nat) (p : Bool) (l : List TRow) (n : Nat) : Prop where
  frm : Fr w0 w
  out : OwP 43 w0.heap.size w vo ((keysTo m p l n).map (pf f))
  rows : ∀ k ∈ keysTo m p l n, OwT 31 w0.heap.size w (f k) (inPart m p l k)
  sep : ∀ k ∈ keysTo m p l n, ∀ g, (f k).ownBlock = some g → vo.ownBlock ≠ some g
theorem OutSt.fr {w0 w w' : World} {vo : Value} {f : Nat → Value} {m : Nat} {p : Bool} {l : List TRow} {n : Nat} (H : OutSt w0 w vo f m p l n) (h : Fr w w') : OutSt w0 w' vo f m p l n :=
  ⟨H.frm.trans h, H.out.fr h, fun k hk => (H.rows k hk).fr h, H.sep⟩
theorem OutSt.empty {w0 w : World} {vo : Value} {f : Nat → Value} {m : Nat} {p : Bool} {l : List TRow} {n : Nat} (H : OutSt w0 w vo f m p l n) (h : inPart m p l n = []) : OutSt w0 w vo f m p l (n + 1) := by
  have e : keysTo m p l (n + 1) = keysTo m p l n := by rw [keysTo_succ, h]; rfl
  exact ⟨H.frm, by rw [e]; exact H.out, by rw [e]; exact H.rows, by rw [e]; exact H.sep⟩
theorem OutSt.more {w0 w w1 w5 : World} {vo vr v' : Value} {f : Nat → Value} {m : Nat} {p : Bool} {l : List TRow} {n : Nat} (H : OutSt w0 w vo f m p l n) (h : inPart m p l n ≠ []) (f1 : Fr w w1) (hr : OwT 31 w.heap.size w1 vr (inPart m p l n))
    (k : Chg (fun g => vo.ownBlock = some g) w1 w5) (hO : OwP 43 w0.heap.size w5 v' ((keysTo m p l n).map (pf f) ++ [(.int .i64 (n : Nat), vr)])) (hat : ∀ g, v'.ownBlock = some g → vo.ownBlock = some g ∨ w1.heap.size ≤ g) : OutSt w0 w5 v' (fun i => if i = n then vr else f i) m p l (n + 1) := by
  have e : keysTo m p l (n + 1) = keysTo m p l n ++ [n] := by rw [keysTo_succ, if_neg (by simpa using h)]
  have hfw := H.frm.size
  have hf1 := f1.size
  have hvr : ∀ g, vr.ownBlock = some g → vo.ownBlock ≠ some g := fun g hg e => by
    have h1 := (World.ownsRow.lt hr g hg).1
    have h2 := (World.ownsRow.lt H.out g e).2
    omega
  refine ⟨k.fr (H.frm.trans f1) (fun g hg => (World.ownsRow.lt H.out g hg).1), ?_, fun i hi => ?_, fun i hi g hg => ?_⟩
  · rw [e, List.map_append]
    have e2 : List.map (pf fun i => if i = n then vr else f i) (keysTo m p l n) = List.map (pf f) (keysTo m p l n) := List.map_congr_left fun i hi => by
      show (Value.int .i64 (i : Nat), if i = n then vr else f i) = (Value.int .i64 (i : Nat), f i)
      rw [if_neg (by have := mem_keysTo hi; omega)]
    have e3 : List.map (pf fun i => if i = n then vr else f i) [n] = [(.int .i64 (n : Nat), vr)] := by simp [pf]
    rw [e2, e3]
    exact hO
  · rw [e] at hi
    rcases List.mem_append.1 hi with hi | hi
    · show OwT _ _ _ (if i = n then vr else f i) _
      rw [if_neg (by have := mem_keysTo hi; omega)]
      exact ((H.rows i hi).fr f1).chg k (H.sep i hi)
    · rw [List.mem_singleton] at hi; subst hi
      show OwT _ _ _ (if i = i then vr else f i) _
      rw [if_pos rfl]
      exact ownsRow_base (hr.chg k hvr) hfw
  · rw [e] at hi
    rcases List.mem_append.1 hi with hi | hi
    · have hg2 : (f i).ownBlock = some g := by
        have hg3 : (if i = n then vr else f i).ownBlock = some g := hg
        rwa [if_neg (by have := mem_keysTo hi; omega)] at hg3
      intro ev
      rcases hat g ev with h2 | h2
      · exact H.sep i hi g hg2 h2
      · have := (World.ownsRow.lt (H.rows i hi) g hg2).2; omega
    · rw [List.mem_singleton] at hi; subst hi
      have hg2 : vr.ownBlock = some g := by
        have hg3 : (if i = i then vr else f i).ownBlock = some g := hg
        rwa [if_pos rfl] at hg3
      intro ev
      rcases hat g ev with h2 | h2
      · exact hvr g hg2 h2
      · have := (World.ownsRow.lt hr g hg2).2; omega
/-- One pair is appended, told whose block the slice is. -/
theorem wpList_appendPairL {base : Nat} {w : World} {ops : Array Oper} {rest : List Oper} {o : Oper} {a : Act} {Q : Exit → Act → World → Prop} (ts te : TypeId) (hu : Tryd.prog.underlying ts = some (.slice te)) (hi : (Tryd.prog.info? te).map (fun i => (i.zero, i.size, i.bytes)) = some (some partZero, 2, 32)) (hgd : o.guard = none) (s x : Operand)
    (ho : o.op = .call { callee := .builtin .append, args := #[s, x], argTypes := #[ts, ts] }) (v : Value) (L : List (Value × Value)) (hs : a.eval s = v) (hown : OwP te base w v L) (f : base ≤ w.heap.size)
    (b c : Nat) (y : Value × Value) (hx : a.eval x = .slice (some ⟨b, 0, none⟩) 1 c) (hy0 : w.cell? ⟨b, 0, none⟩ = some y.1) (hy1 : w.cell? ⟨b, 1, none⟩ = some y.2) (h1 : y.1.oneCell' = true ∧ y.2.oneCell' = true) (hn : L.length ≤ 4000000)
    (h : ∀ va vn vc w', OwP te base w' (.slice va vn vc) (L ++ [y]) → Chg (fun b => v.ownBlock = some b) w w' → (∀ g, (Value.slice va vn vc).ownBlock = some g → v.ownBlock = some g ∨ g = w.heap.size) → wpList Tryd.prog ops Q rest (a.put o.dst (.slice va vn vc)) w') : wpList Tryd.prog ops Q (o :: rest) a w := by
  obtain ⟨i0, hi0, hz0, hz1, hz2⟩ := info_parts hi
  refine wpList_append_lies _ hgd s x ts ho base te i0 _ 2 32 hu hi0 hz0 hz1 hz2 rfl (by omega) v L.length (pairFlat L) hs hown ⟨b, 0, none⟩ 1 c [y.1, y.2] hx rfl (fun j u hj => ?_) (fun u hu => by simp at hu; rcases hu with rfl | rfl; exact h1.1; exact h1.2) (by omega) (by unfold maxLen; omega) (by omega) f w.heap.size rfl ?_
  · rw [WideShapes.add_plain, Nat.zero_add]
    match j, hj with
    | 0, hj => simp at hj; subst hj; exact hy0
    | 1, hj => simp at hj; subst hj; exact hy1
    | j + 2, hj => simp at hj
  · intro g cap w' hown' hgrow hat hlt
    refine h _ _ _ w' ?_ ⟨hgrow.os, hgrow.tape, hgrow.output, hgrow.size, fun k hk hne => hgrow.block k hk fun e => hne e.symm⟩ (fun g' he => by simp [Value.ownBlock] at he; subst he; exact hat)
    have : pairFlat (L ++ [y]) = pairFlat L ++ [y.1, y.2] := by simp [pairFlat]
    unfold OwP
    rw [this]
    simpa using hown'
set_option maxRecDepth 100000 in
set_option maxHeartbeats 16000000 in
theorem rSplit_c (m : Nat) (p : Bool) (l : List TRow) (v : Value) (w : World) (hl : RdT w v l) (hb : Bnd l) (hn : l.length ≤ 60) (hm : m ≤ 255) :
    Calls Tryd.prog 7 #[.int .u8 m, v, .bool p] w (SplitQ m p l w) := by
  have HL := Lib.hid hl
  have HB := Lib.hid hb
  have HM := Lib.hid hm
  obtain ⟨a, cap, rfl, hcap, hmax, _⟩ := hl.is
  unfold maxLen at hmax
  clear hl hb
  go_enter Tryd.func7, Tryd.ntmps7
  go_wp2_with fail
  go_loopw [8, 9] (fun vo vn wr => ∃ (n : Nat) (oa : Option Addr) (on oc : Nat) (f : Nat → Value), n ≤ 64 ∧ vn = .int .i64 n ∧ vo = .slice oa on oc ∧ Hid (OutSt w wr (.slice oa on oc) f m p l n ∧ (n = 0 ∨ okL m l))) (fun _ vn _ => 64 - (intOf vn).toNat)
  case atStart => exact ⟨0, none, 0, 0, fun _ => nilS, by omega, rfl, rfl, ⟨⟨Fr.refl _, World.ownsRow_nil _ _ _ _, fun k hk => by simp [keysTo] at hk, fun k hk => by simp [keysTo] at hk⟩, .inl rfl⟩⟩
  case round =>
    obtain ⟨n, oa, on, oc, f, hn64, rfl, rfl, HO⟩ := hrel
    by_cases hnt : n < 64
    · obtain ⟨wo, rfl⟩ : ∃ wo, wo = wr := ⟨_, rfl⟩
      have hnti : (n : Int) < 64 := by omega
      go_wp2_with fail
      go_loopw [10, 11] (fun vl vi wr => ∃ (i : Nat) (la : Option Addr) (lc : Nat), i ≤ l.length ∧ vi = .int .i64 i ∧ vl = .slice la (inPart m p (l.take i) n).length lc ∧ Hid (Fr wo wr ∧ OwT 31 wo.heap.size wr (.slice la (inPart m p (l.take i) n).length lc) (inPart m p (l.take i) n) ∧ okL m (l.take i))) (fun _ vi _ => l.length - (intOf vi).toNat)
      case atStart => exact ⟨0, none, 0, Nat.zero_le _, rfl, rfl, ⟨Fr.refl _, World.ownsRow_nil _ _ _ _, fun r hr => by simp at hr⟩⟩
      case round =>
        obtain ⟨i, la, lc, hi, rfl, rfl, HI⟩ := hrel
        by_cases hit : i < l.length
        · have hfr := HO.out.1.frm.trans HI.out.1
          obtain ⟨b1, o1, rfl, hb1, hx0⟩ := RdT.at HL.out hit
          have hx := rangeAtK hx0 (hfr.block hb1)
          have hb1r : b1 < wr.heap.size := Nat.lt_of_lt_of_le hb1 hfr.size
          have hbd := HB.out l[i] (List.getElem_mem hit)
          have HTK := Lib.hid (List.take_succ_eq_append_getElem hit)
          have HNO : Hid (chk m l[i] = 10 → ¬ okL m l) := fun h ho => by have := ho l[i] (List.getElem_mem hit); omega
          have HSN := Lib.hid (inPart_snoc m p (l.take i) l[i] n)
          rw [← HTK.out] at HSN
          generalize l[i] = r at hx HTK HNO hbd HSN
          have hop := op_mid hx
          have HX := Lib.hid hx
          clear hx0 hx
          rcases chk_01 m r with hc | hc
          · have HOF := Lib.hid (rOfYes_c (p := p) wr HM.out hbd hc)
            have HOK := Lib.hid (okL_snoc HI.out.2.2 hc)
            rw [← HTK.out] at HOK
            clear hc hbd
            go_wp2_with ((with_reducible refine wpList_here (.load 27 (.tmp 29)) rfl ?_); refine wpList_load_midW 27 (.tmp 29) rfl b1 (o1 + i * 12 + 2) rfl _ _ hop Tryd.underlying27 rfl Tryd.infoOp5 rfl ?_)
            refine HOF.out.mono ?_
            rintro e w1 ⟨rfl, hf1⟩
            have HF1 := Lib.hid (HI.out.1.trans hf1)
            have HR1 := Lib.hid (HI.out.2.1.fr hf1)
            have hx1 := rangeAtK HX.out (hf1.block hb1r)
            have hb1w : b1 < w1.heap.size := Nat.lt_of_lt_of_le hb1r hf1.size
            clear hop HOF hf1 HX
            by_cases hpn : pk m p r = n
            · rw [if_pos hpn] at HSN
              have hpz : ((pk m p r : Int) == (n : Int)) = true := by simp [hpn]
              have hown := HR1.out.fr ((Fr.refl w1).alloc (.cells r.cells.toArray 31))
              have hy := BoxAt.new w1 r.cells.toArray 31
              have hsz := (HF1.out.alloc (.cells r.cells.toArray 31)).size
              have hln : (inPart m p (l.take i) n).length ≤ 4000000 := Nat.le_trans (inPart_len _ _ _ _) (by rw [List.length_take]; omega)
              clear hpn
              generalize pk m p r = q at hpz
              go_wp2_with (first | ((with_reducible refine wpList_here (.load 31 (.tmp 44)) rfl ?_); refine wpList_load_midW 31 (.tmp 44) rfl b1 (o1 + i * 12) rfl r.cells _ hx1 Tryd.underlying31 rfl Tryd.infoRow08 rfl ?_) | (refine wpList_buildRow 24 31 Tryd.underlying24 Tryd.infoRow08B _ rfl r ?hev rfl ?_) | (at_builtin; refine wpList_appendRow (base := wo.heap.size) 24 31 Tryd.underlying24 Tryd.infoRow08B rfl (.tmp 41) (.tmp 46) rfl (.slice la (inPart m p (l.take i) n).length lc) (inPart m p (l.take i) n) rfl hown hsz w1.heap.size 1 r rfl hy hln ?_))
              intro va5 vn5 vc5 w5 hO5 hch5 hat5
              have hF5 : Fr wo w5 := hch5.fr (HF1.out.alloc _) (fun g hg => (World.ownsRow.lt HR1.out g hg).1)
              rw [← HSN.out] at hO5
              obtain ⟨_, _, e5, _⟩ := hO5.rd.is
              cases e5
              have HO5 := Lib.hid hO5
              clear hO5 hch5 hat5 hown hy hsz hx1
              go_wp2_with fail
              go_roundw
              case rel => exact ⟨i + 1, va5, vc5, by omega, by go_num, rfl, ⟨hF5, HO5.out, HOK.out⟩⟩
              case measure => first | (simp [intOf]; done) | (simp [intOf]; omega)
            · rw [if_neg hpn] at HSN
              have hpz : ((pk m p r : Int) == (n : Int)) = false := by simp; omega
              have HR5 : Hid (OwT 31 wo.heap.size w1 (.slice la (inPart m p (l.take (i + 1)) n).length lc) (inPart m p (l.take (i + 1)) n)) := by rw [HSN.out]; exact HR1.out
              clear hpn hx1
              generalize pk m p r = q at hpz
              go_wp2_with fail
              go_roundw
              case rel => exact ⟨i + 1, la, lc, by omega, by go_num, by rw [HSN.out], ⟨HF1.out, HR5.out, HOK.out⟩⟩
              case measure => first | (simp [intOf]; done) | (simp [intOf]; omega)
          · have HOF := Lib.hid (rOfNo_c (p := p) wr HM.out hbd hc)
            have HNOK := Lib.hid (HNO.out hc)
            clear hc hbd
            go_wp2_with ((with_reducible refine wpList_here (.load 27 (.tmp 29)) rfl ?_); refine wpList_load_midW 27 (.tmp 29) rfl b1 (o1 + i * 12 + 2) rfl _ _ hop Tryd.underlying27 rfl Tryd.infoOp5 rfl ?_)
            refine HOF.out.mono ?_
            rintro e w1 ⟨rfl, hf1⟩
            go_wp2_with fail
            go_ret2
            exact ⟨hfr.trans hf1, .inl ⟨HNOK.out, rfl⟩⟩
        · obtain rfl : i = l.length := by omega
          rw [List.take_length] at HI ⊢
          cases hemp : inPart m p l n with
          | nil =>
            have HO2 := Lib.hid ((HO.out.1.fr HI.out.1).empty hemp)
            have HOK := Lib.hid HI.out.2.2
            rw [List.length_nil]
            clear hemp HI HO
            go_wp2_with fail
            go_roundw
            case rel => exact ⟨n + 1, oa, on, oc, f, by omega, by go_num, rfl, ⟨HO2.out, .inr HOK.out⟩⟩
            case measure => first | (simp [intOf]; done) | (simp [intOf]; omega)
          | cons x xs =>
            have hne : inPart m p l n ≠ [] := by rw [hemp]; simp
            have hlp : (0 : Int) < ((inPart m p l n).length : Int) := by rw [hemp, List.length_cons]; omega
            rw [← hemp]
            have HNE := Lib.hid hne
            clear hemp hne
            have hO3 := HO.out.1.fr HI.out.1
            have hown := hO3.out.fr ((Fr.refl wr).alloc (.cells #[.int .i64 (n : Nat), .slice la (inPart m p l n).length lc] 43))
            have hB := BoxAt.new wr #[.int .i64 (n : Nat), .slice la (inPart m p l n).length lc] 43
            have hy0 := hB.at 0 rfl
            have hy1 := hB.at 1 rfl
            have hsz := (hO3.frm.alloc (.cells #[.int .i64 (n : Nat), .slice la (inPart m p l n).length lc] 43)).size
            have hln : ((keysTo m p l n).map (pf f)).length ≤ 4000000 := by have := keysTo_len m p l n; rw [List.length_map]; omega
            have HW : Hid (wo.heap.size ≤ wr.heap.size) := HI.out.1.size
            clear hO3 hB
            go_wp2_with (at_builtin; refine wpList_appendPairL (base := w.heap.size) 37 43 Tryd.underlying37 Tryd.infoPart21 rfl (.tmp 51) (.tmp 55) rfl (.slice oa on oc) ((keysTo m p l n).map (pf f)) rfl hown hsz wr.heap.size 1 (.int .i64 (n : Nat), .slice la (inPart m p l n).length lc) rfl hy0 hy1 ⟨rfl, rfl⟩ hln ?_)
            intro va5 vn5 vc5 w5 hO5 hch5 hat5
            have HO6 := Lib.hid (HO.out.1.more (w1 := wr.alloc (.cells #[.int .i64 (n : Nat), .slice la (inPart m p l n).length lc] 43)) HNE.out (HI.out.1.alloc _) (HI.out.2.1.fr ((Fr.refl _).alloc _)) hch5 hO5 (fun g hg => (hat5 g hg).imp id (fun e => by first | omega | (simp at e ⊢; omega))))
            have HOK := Lib.hid HI.out.2.2
            clear hO5 hch5 hat5 hown hy0 hy1 hsz HI HO
            go_wp2_with fail
            go_roundw
            case rel => exact ⟨n + 1, va5, vn5, vc5, _, by omega, by go_num, rfl, ⟨HO6.out, .inr HOK.out⟩⟩
            case measure => first | (simp [intOf]; done) | (simp [intOf]; omega)
    · obtain rfl : n = 64 := by omega
      have hok : okL m l := HO.out.2.resolve_left (by omega)
      have HP : Hid (PartsAt wr (.slice oa on oc) (partsOf m p l)) := HO.out.1.out.parts (f := f) fun k hk => (HO.out.1.rows k hk).rd
      have hF := HO.out.1.frm
      have HOK := Lib.hid hok
      clear HO hok
      go_wp2_with fail
      go_ret2
      exact ⟨hF, .inr ⟨HOK.out, _, rfl, HP.out⟩⟩
end Go.Proofs.YthlngegfodomgaaDoor

/- Rows that are the same, compared. No condition. -/
namespace Go.Proofs.YthlngegfodomgaaDoor
open Go.RowKit
theorem row08_neq (r : TRow) (W : World) : (binOp .neq 31 (.agg r.cells.toArray) (.agg r.cells.toArray)).run Tryd.prog W = .ok (.bool false) W := by
  unfold TRow.cells
  simp [go_sem, Tryd.eqGuardType31, Tryd.stoodInHeld31, Tryd.underlying31]
theorem row_neq (r : TRow) (W : World) : (binOp .neq 32 (.agg r.cells.toArray) (.agg r.cells.toArray)).run Tryd.prog W = .ok (.bool false) W := by
  unfold TRow.cells
  simp [go_sem, Tryd.eqGuardType32, Tryd.stoodInHeld32, Tryd.underlying32]
end Go.Proofs.YthlngegfodomgaaDoor
