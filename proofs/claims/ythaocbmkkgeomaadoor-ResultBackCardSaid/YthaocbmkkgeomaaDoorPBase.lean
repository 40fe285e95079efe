/- Base words of every walk: 'Fr w w'': what stood in w stands in w'; the tables that are listed; small laws. No condition beyond what each says. -/
import Derived.Test.YthaocbmkkgeomaaDoorRows
import Derived.WalkKit
import Derived.WalkSpells
import Derived.WalkLawsBesides
import Derived.Lib.Hide
import Derived.Lib.LaidTab
import Derived.Lib.ItoaNum
import Derived.OpenShut
import Derived.MakeChecks
import Derived.LaidSub
import Derived.Laws.BytesArg
import Derived.Deep.AppendLies
import Derived.Deep.RegionLaw
import Derived.Deep.QuietTactic
import Derived.BigQuiet
import Derived.IntWalk
import Derived.Lib.AppendStr
import Derived.Shelf.Vars
set_option linter.all false
set_option linter.unusedVariables false
set_option linter.unusedSimpArgs false
set_option linter.unnecessarySimpa false
/- Base words of every walk: 'Fr w w'': what stood in w stands in w'; the tables that are listed; small laws. No condition beyond what each says. -/
namespace Go.Proofs.YthaocbmkkgeomaaDoor
open Go.RowKit

/-- All that stood in 'w' stands in 'w'' unchanged. -/
def Fr (w w' : World) : Prop := Below w.heap.size w w'
theorem Fr.refl (w : World) : Fr w w := Below.refl _ _
theorem Fr.size {w w' : World} (h : Fr w w') : w.heap.size ≤ w'.heap.size := Below.size h
theorem Fr.trans {a b c : World} (h : Fr a b) (k : Fr b c) : Fr a c := Below.trans h (Below.mono k h.size)
theorem Fr.trans' {a b c : World} (h : Fr a b) (k : Below a.heap.size b c) : Fr a c := Below.trans h k
theorem Fr.alloc {a w : World} (h : Fr a w) (o : Obj) : Fr a (w.alloc o) := Below.alloc h h.size o
theorem Fr.drew {a w : World} (h : Fr a w) : Fr a w.drew := Below.drew h
theorem Fr.drewN {a w : World} (h : Fr a w) (n : Nat) : Fr a (w.drewN n) := Below.trans h ⟨rfl, rfl, rfl, Nat.le_refl _, fun _ _ => rfl⟩
theorem Fr.setCell {a w : World} (h : Fr a w) {p : Addr} (hp : a.heap.size ≤ p.block) (u : Value) : Fr a (w.setCell p u) := Below.setCell h hp u
theorem Fr.cell {a w : World} (h : Fr a w) : ∀ b o, b < a.heap.size → w.cell? ⟨b, o, none⟩ = a.cell? ⟨b, o, none⟩ := fun b o hb => Below.cell (p := ⟨b, o, none⟩) h hb
theorem Fr.frozen {a w : World} (h : Fr a w) : ∀ b o, b < a.heap.size → w.frozen? ⟨b, o, none⟩ = a.frozen? ⟨b, o, none⟩ := fun b o hb => Below.frozen (p := ⟨b, o, none⟩) h hb
theorem Fr.block {a w : World} (h : Fr a w) {k : Nat} (hk : k < a.heap.size) : w.heap[k]? = a.heap[k]? := Below.block h k hk

theorem Fr.size1 {w w1 : World} {X : Obj} (h : Fr (w.alloc X) w1) : w.heap.size < w1.heap.size := by have := h.size; simp at this; omega
theorem Fr.size2 {w w1 : World} {X Y : Obj} (h : Fr ((w.alloc X).alloc Y) w1) : w.heap.size + 1 < w1.heap.size := by have := h.size; simp at this; omega
theorem Fr.size3 {w w1 : World} {X Y Z : Obj} (h : Fr (((w.alloc X).alloc Y).alloc Z) w1) : w.heap.size + 2 < w1.heap.size := by have := h.size; simp at this; omega
theorem lt_of_cell {w : World} {a : Addr} {v : Value} (h : w.cell? a = some v) : a.block < w.heap.size := by
  unfold World.cell? at h
  rcases Nat.lt_or_ge a.block w.heap.size with g | g
  · exact g
  · rw [Array.getElem?_eq_none g] at h; simp at h
theorem Fr.keep {a w : World} (h : Fr a w) {p : Addr} {v : Value} (hc : a.cell? p = some v) : w.cell? p = some v := (Below.cell h (lt_of_cell hc)).trans hc

def kModel (f : Int) : Int := if f ≤ 3 then 0 else if f ≤ 5 then 1 else if f ≤ 9 then 2 else 3
def kNeeds (f : Int) : Int := if f = 2 ∨ f = 4 then 2 else if f = 3 then 6 else if f = 6 ∨ f = 8 then 1 else if f = 7 then 3 else if f = 9 then 7 else 0
def kName (f : Int) : List UInt8 := if f = 1 then [114, 101, 97, 100] else if f = 2 then [119, 114, 105, 116, 101] else if f = 3 then [99, 97, 115] else if f = 4 then [101, 110, 113] else if f = 5 then [100, 101, 113] else if f = 6 then [103, 101, 116] else if f = 7 then [112, 117, 116] else if f = 8 then [100, 101, 108] else if f = 9 then [115, 119, 97, 112] else if f = 10 then [97, 99, 113, 117, 105, 114, 101] else [114, 101, 108, 101, 97, 115, 101]

/-- The table of kinds, as cells. -/
structure KindsAt (w : World) : Prop where
  model : ∀ f : Nat, 1 ≤ f → f ≤ 11 → w.cell? ⟨1, f * 3, none⟩ = some (.int .u8 (kModel f))
  name : ∀ f : Nat, 1 ≤ f → f ≤ 11 → w.cell? ⟨1, f * 3 + 1, none⟩ = some (.string ⟨(kName f).toArray⟩)
  needs : ∀ f : Nat, 1 ≤ f → f ≤ 11 → w.cell? ⟨1, f * 3 + 2, none⟩ = some (.int .u8 (kNeeds f))
theorem KindsAt.keep {a w : World} (h : KindsAt a) (f : Fr a w) : KindsAt w :=
  ⟨fun i h1 h2 => f.keep (h.model i h1 h2), fun i h1 h2 => f.keep (h.name i h1 h2), fun i h1 h2 => f.keep (h.needs i h1 h2)⟩

def resWord (K : Nat) : List UInt8 := if K = 0 then [100, 111, 110, 101] else if K = 1 then [118, 97, 108, 117, 101] else if K = 2 then [110, 111, 110, 101] else if K = 3 then [121, 101, 115] else [110, 111]

/-- What every program's walks may need of the variables that are listed. -/
structure Env0 (w : World) : Prop where
  triv0 : True
  pow10 : Lib.TabIs Tryd.prog w "internal/strconv.uint64pow10" .u64 Lib.pow10Tab
  many : 5 < w.heap.size
  maxl : ∃ m, w.cell? ⟨2, 0, none⟩ = some (.int .i64 m)
  errS : ∃ te pe, w.cell? ⟨3, 0, none⟩ = some (.iface te pe)
  errR : ∃ te pe, w.cell? ⟨4, 0, none⟩ = some (.iface te pe)
theorem Env0.keep {a w : World} (h : Env0 a) (f : Fr a w) : Env0 w where
  triv0 := trivial
  pow10 := var?_below f (by kernel_rfl) h.many h.pow10
  many := Nat.lt_of_lt_of_le h.many f.size
  maxl := h.maxl.elim fun m hm => ⟨m, f.keep hm⟩
  errS := by obtain ⟨te, pe, hm⟩ := h.errS; exact ⟨te, pe, f.keep hm⟩
  errR := by obtain ⟨te, pe, hm⟩ := h.errR; exact ⟨te, pe, f.keep hm⟩
/-- The tables that are listed, as they stand in a world. -/
structure Env (w : World) : Prop extends Env0 w where
  triv : True
  kinds : KindsAt w
theorem Env.keep {a w : World} (h : Env a) (f : Fr a w) : Env w where
  toEnv0 := h.toEnv0.keep f
  triv := trivial
  kinds := h.kinds.keep f
instance (w : World) : Coe (Env w) (Env0 w) := ⟨fun h => h.toEnv0⟩
theorem Env.alloc {w : World} (h : Env w) (o : Obj) : Env (w.alloc o) := h.keep ((Fr.refl w).alloc o)
theorem Env.drew {w : World} (h : Env w) : Env w.drew := h.keep ((Fr.refl w).drew)
theorem Env.drewN {w : World} (h : Env w) (n : Nat) : Env (w.drewN n) := h.keep ((Fr.refl w).drewN n)

/-- A slice of 'n' elements whose cells read 'xs', in a block of 'Z'. -/
structure SlAt (w : World) (Z : Nat → Prop) (v : Value) (n : Nat) (xs : List Value) : Prop where
  form : ∃ a cap, v = .slice a n cap ∧ n ≤ cap ∧ cap ≤ maxLen ∧ (xs = [] ∨ ∃ b off, a = some ⟨b, off, none⟩ ∧ Z b ∧ b < w.heap.size ∧ ∀ j u, xs[j]? = some u → w.cell? ⟨b, off + j, none⟩ = some u)
theorem SlAt.keep {w w' : World} {Z : Nat → Prop} {v : Value} {n : Nat} {xs : List Value} (h : SlAt w Z v n xs) (hs : w.heap.size ≤ w'.heap.size) (hb : ∀ k, Z k → k < w.heap.size → w'.heap[k]? = w.heap[k]?) : SlAt w' Z v n xs := by
  obtain ⟨a, cap, rfl, h1, h2, h3⟩ := h
  refine ⟨a, cap, rfl, h1, h2, ?_⟩
  rcases h3 with h3 | ⟨b, off, rfl, hz, hlt, hc⟩
  · exact .inl h3
  · exact .inr ⟨b, off, rfl, hz, by omega, fun j u hj => (World.cell?_of_block (a := ⟨b, off + j, none⟩) (hb b hz hlt)).trans (hc j u hj)⟩
theorem SlAt.fr {w w' : World} {Z : Nat → Prop} {v : Value} {n : Nat} {xs : List Value} (h : SlAt w Z v n xs) (f : Fr w w') : SlAt w' Z v n xs := h.keep f.size fun k _ hk => f.block hk
theorem SlAt.mono {w : World} {Z Z' : Nat → Prop} {v : Value} {n : Nat} {xs : List Value} (h : SlAt w Z v n xs) (hZ : ∀ k, Z k → Z' k) : SlAt w Z' v n xs := by
  obtain ⟨a, cap, rfl, h1, h2, h3⟩ := h
  refine ⟨a, cap, rfl, h1, h2, ?_⟩
  rcases h3 with h3 | ⟨b, off, rfl, hz, hlt, hc⟩
  · exact .inl h3
  · exact .inr ⟨b, off, rfl, hZ b hz, hlt, hc⟩
/-- What a call owns can be read. -/
theorem SlAt.own {w : World} {base : Nat} {e : TypeId} {size : Nat} {v : Value} {n : Nat} {xs : List Value} (h : w.ownsRow base e size v n xs) : SlAt w (base ≤ ·) v n xs := by
  obtain ⟨h1, h2⟩ := h
  rcases h2 with ⟨rfl, rfl⟩ | ⟨g, cap, cur, rfl, hg, hh, hc, hm, hs, ht⟩
  · have : xs = [] := List.eq_nil_of_length_eq_zero (by simpa using h1)
    exact ⟨none, 0, rfl, Nat.le_refl _, by decide, .inl this⟩
  · refine ⟨_, cap, rfl, hc, hm, .inr ⟨g, 0, rfl, hg, ?_, fun j u hj => ?_⟩⟩
    · rcases Nat.lt_or_ge g w.heap.size with h | h
      · exact h
      · rw [Array.getElem?_eq_none h] at hh; simp at hh
    · subst ht
      have hj2 : cur[j]? = some u := by
        have : j < n * size := by have := (List.getElem?_eq_some_iff.1 hj).1; simp at this; omega
        rw [List.getElem?_take_of_lt this] at hj
        simpa using hj
      simp [World.cell?, hh, hj2]
end Go.Proofs.YthaocbmkkgeomaaDoor

/- What a row's list gives the walks: the table of kinds, the powers of ten. -/
namespace Go.Proofs.YthaocbmkkgeomaaDoor
open Go.ChangeShapes Go.WideShapes Go.RowKit

theorem at_of_take {cs : List Value} {a b : Nat} {v : Value} (h : (cs.drop a).take 1 = [v]) (hb : b = a) : cs[b]? = some v := by
  subst hb
  have := congrArg (·[0]?) h
  simpa [List.getElem?_take, List.getElem?_drop] using this

def rowD {H : Type} (f : Int) : DataW H := .agg [.lit (.int .u8 (kModel f)), .lit (.string (kName f)), .lit (.int .u8 (kNeeds f))]
theorem cellsKinds : Tryd.prog.cellsOf 123 = 36 := by kernel_rfl
theorem cellsKind : Tryd.prog.cellsOf 115 = 3 := by kernel_rfl
theorem rowD_at {H : Type} (i : Nat) (h0 : 1 ≤ i) (h1 : i ≤ 11) : ∃ l : List (DataW H), Rows.laid_umpire_op_kinds = DataW.agg l ∧ l[i]? = some (rowD i) := by
  refine ⟨_, rfl, ?_⟩
  rcases (show i = 1 ∨ i = 2 ∨ i = 3 ∨ i = 4 ∨ i = 5 ∨ i = 6 ∨ i = 7 ∨ i = 8 ∨ i = 9 ∨ i = 10 ∨ i = 11 by omega) with rfl | rfl | rfl | rfl | rfl | rfl | rfl | rfl | rfl | rfl | rfl <;> rfl

theorem kinds_cells {H : Type} {enc : TypeId × Value → H} {w : World} {base : Nat} {sp : Nat → Bool} {held : Bool} {fuel : Nat} {cs : List Value} {p : List MemPlace}
    (h : DataW.trod enc Tryd.prog w base sp held fuel 123 cs = some (Rows.laid_umpire_op_kinds, p)) (i : Nat) (h0 : 1 ≤ i) (h1 : i ≤ 11) :
    cs[i * 3]? = some (.int .u8 (kModel i)) ∧ cs[i * 3 + 1]? = some (.string ⟨(kName i).toArray⟩) ∧ cs[i * 3 + 2]? = some (.int .u8 (kNeeds i)) := by
  obtain ⟨l, hl, hi⟩ := rowD_at (H := H) i h0 h1
  obtain ⟨xs, m, _, hx, hlen, hn, hel⟩ := DataW.trod_array Tryd.underlying123 h
  simp only [Prod.mk.injEq] at hx
  rw [hl] at hx
  have hx1 := DataW.agg.inj hx.1
  have hxi : ∃ q, xs[i]? = some (rowD i, q) := by
    rw [hx1] at hi
    simp only [List.getElem?_map, Option.map_eq_some_iff] at hi
    obtain ⟨⟨a, q⟩, ha, rfl⟩ := hi
    exact ⟨q, ha⟩
  obtain ⟨q, hq⟩ := hxi
  have he := hel i (by omega)
  rw [hq, cellsKind] at he
  obtain ⟨ys, n, _, hy, hyl, hyn, hf⟩ := DataW.trod_struct Tryd.underlying115 he
  match ys, hyn with
  | [y0, y1, y2], _ =>
    simp only [Prod.mk.injEq, rowD, List.map_cons, List.map_nil, DataW.agg.injEq, List.cons.injEq, and_true] at hy
    obtain ⟨⟨e0, e1, e2⟩, _⟩ := hy
    have c1 : Tryd.prog.cellsOf 5 = 1 := by kernel_rfl
    have c9 : Tryd.prog.cellsOf 9 = 1 := by kernel_rfl
    have f0 : DataW.trod enc Tryd.prog w base sp held n 5 ((((cs.drop (i * 3)).take 3).drop 0).take (Tryd.prog.cellsOf 5)) = some y0 := hf 0 _ rfl
    have f1 : DataW.trod enc Tryd.prog w base sp held n 9 ((((cs.drop (i * 3)).take 3).drop 1).take (Tryd.prog.cellsOf 9)) = some y1 := hf 1 _ rfl
    have f2 : DataW.trod enc Tryd.prog w base sp held n 5 ((((cs.drop (i * 3)).take 3).drop 2).take (Tryd.prog.cellsOf 5)) = some y2 := hf 2 _ rfl
    rw [c1] at f0 f2
    rw [c9] at f1
    obtain ⟨n0, t0, u0, _⟩ := DataW.trod_int Tryd.underlying5 f0
    obtain ⟨n1, t1, u1, _⟩ := DataW.trod_string Tryd.underlying9 f1
    obtain ⟨n2, t2, u2, _⟩ := DataW.trod_int Tryd.underlying5 f2
    subst u0 u1 u2
    simp only [DataW.lit.injEq, Lit.int.injEq, Lit.string.injEq, true_and] at e0 e1 e2
    subst e0 e2
    refine ⟨at_of_take (a := i * 3) ?_ rfl, ?_, at_of_take (a := i * 3 + 2) ?_ rfl⟩
    · simpa [List.drop_take, List.take_take] using t0
    · rw [e1]
      exact at_of_take (a := i * 3 + 1) (by simpa [List.drop_take, List.take_take] using t1) rfl
    · simpa [List.drop_take, List.take_take] using t2
theorem kindsAt {w : World} {cs : Array Value} (hv : w.var? Tryd.prog "umpire/op.kinds" = some cs) (h : ∀ i, 1 ≤ i → i ≤ 11 → cs.toList[i * 3]? = some (.int .u8 (kModel i)) ∧ cs.toList[i * 3 + 1]? = some (.string ⟨(kName i).toArray⟩) ∧ cs.toList[i * 3 + 2]? = some (.int .u8 (kNeeds i))) : KindsAt w := by
  have hg : Tryd.prog.globalNamed "umpire/op.kinds" = some 1 := by kernel_rfl
  have hc : ∀ j v, cs.toList[j]? = some v → w.cell? ⟨1, j, none⟩ = some v := fun j v hj => (World.var?_cell hg hv j).trans (by simpa using hj)
  exact ⟨fun i h0 h1 => hc _ _ (h i h0 h1).1, fun i h0 h1 => hc _ _ (h i h0 h1).2.1, fun i h0 h1 => hc _ _ (h i h0 h1).2.2⟩
/-- One listed variable's datum, as the walk wants it. -/
theorem laid_one {l : List (String × DataW Unit)} {W : World} (h : laidMetH Tryd.prog l W) (n : String) (d : DataW Unit) (hl : l.filter (fun x => x.1 == n) = [(n, d)]) (hp : d.handleName? = none) :
    ∃ g t cs fuel p, Tryd.prog.globalNamed n = some g ∧ (Tryd.prog.globals[g]?).map (·.type) = some t ∧ W.var? Tryd.prog n = some cs ∧ DataW.trod (fun _ => ()) Tryd.prog W 0 (fun _ => true) false fuel t cs.toList = some (d, p) := by
  have h' := laidMetH.filter (fun x => x.1 == n) h
  rw [hl] at h'
  rw [MakeChecks.laidMetH_plain _ _ _ (by simp [hp])] at h'
  obtain ⟨ps, ⟨g, t, cs, fuel, p, q, hg, ht, hvar, hd, _, _⟩, _⟩ := h'
  exact ⟨g, t, cs, fuel, p, hg, ht, hvar, hd⟩
theorem kinds_of {l : List (String × DataW Unit)} {W : World} (h : laidMetH Tryd.prog l W) (hl : l.filter (fun x => x.1 == "umpire/op.kinds") = [("umpire/op.kinds", Rows.laid_umpire_op_kinds)]) : KindsAt W := by
  obtain ⟨g, t, cs, fuel, p, hg, ht, hv, hd⟩ := laid_one h _ _ hl rfl
  obtain rfl := Option.some.inj ((show Tryd.prog.globalNamed "umpire/op.kinds" = some 1 by kernel_rfl).symm.trans hg)
  obtain rfl := Option.some.inj ((show (Tryd.prog.globals[1]?).map (·.type) = some 123 by kernel_rfl).symm.trans ht)
  exact kindsAt hv fun i h0 h1 => kinds_cells hd i h0 h1
theorem pow10_of {l : List (String × DataW Unit)} {W : World} (h : laidMetH Tryd.prog l W) (hl : l.filter (fun x => x.1 == "internal/strconv.uint64pow10") = [("internal/strconv.uint64pow10", Rows.laid_internal_strconv_uint64pow10)]) :
    Lib.TabIs Tryd.prog W "internal/strconv.uint64pow10" .u64 Lib.pow10Tab ∧ 5 < W.heap.size := by
  obtain ⟨g, t, cs, fuel, p, hg, ht, hv, hd⟩ := laid_one h _ _ hl rfl
  obtain rfl := Option.some.inj ((show Tryd.prog.globalNamed "internal/strconv.uint64pow10" = some 5 by kernel_rfl).symm.trans hg)
  obtain rfl := Option.some.inj ((show (Tryd.prog.globals[5]?).map (·.type) = some 172 by kernel_rfl).symm.trans ht)
  have hc : cs.toList = Lib.pow10Tab.map fun z => Value.int .u64 z := Lib.cells_of_tab (zs := Lib.pow10Tab) Tryd.underlying172 Tryd.underlying108 (by kernel_rfl) (by kernel_rfl) (by rw [hd]; rfl)
  have hcs : cs = (Lib.pow10Tab.map fun z => Value.int .u64 z).toArray := by rw [← hc]
  refine ⟨by unfold Lib.TabIs; rw [hv, hcs], ?_⟩
  refine lt_of_cell (a := ⟨5, 0, none⟩) (v := .int .u64 1) ((World.var?_cell hg hv 0).trans ?_)
  rw [hcs]; rfl
end Go.Proofs.YthaocbmkkgeomaaDoor

/- What a row's list gives of result.words. No condition beyond what each says. -/
namespace Go.Proofs.YthaocbmkkgeomaaDoor
open Go.ChangeShapes Go.WideShapes Go.RowKit

/-- The tables of layer 3, as they stand in a world. -/
structure EnvR (w : World) : Prop extends Env0 w where
  words : ∀ K : Nat, K < 5 → w.cell? ⟨0, K, none⟩ = some (.string ⟨(resWord K).toArray⟩)
theorem EnvR.keep {a w : World} (h : EnvR a) (f : Fr a w) : EnvR w := { toEnv0 := h.toEnv0.keep f, words := fun K hK => f.keep (h.words K hK) }
theorem cellsWords : Tryd.prog.cellsOf 96 = 5 := by kernel_rfl
theorem wordD_at {H : Type} (i : Nat) (h1 : i < 5) : ∃ l : List (DataW H), Rows.laid_umpire_result_words = DataW.agg l ∧ l[i]? = some (.lit (.string (resWord i))) := by
  refine ⟨_, rfl, ?_⟩
  rcases (show i = 0 ∨ i = 1 ∨ i = 2 ∨ i = 3 ∨ i = 4 by omega) with rfl | rfl | rfl | rfl | rfl <;> rfl
theorem words_cells {H : Type} {enc : TypeId × Value → H} {w : World} {base : Nat} {sp : Nat → Bool} {held : Bool} {fuel : Nat} {cs : List Value} {p : List MemPlace}
    (h : DataW.trod enc Tryd.prog w base sp held fuel 96 cs = some (Rows.laid_umpire_result_words, p)) (i : Nat) (h1 : i < 5) :
    cs[i]? = some (.string ⟨(resWord i).toArray⟩) := by
  obtain ⟨l, hl, hi⟩ := wordD_at (H := H) i h1
  obtain ⟨xs, m, _, hx, hlen, hn, hel⟩ := DataW.trod_array Tryd.underlying96 h
  simp only [Prod.mk.injEq] at hx
  rw [hl] at hx
  have hx1 := DataW.agg.inj hx.1
  have hxi : ∃ q, xs[i]? = some (.lit (.string (resWord i)), q) := by
    rw [hx1] at hi
    simp only [List.getElem?_map, Option.map_eq_some_iff] at hi
    obtain ⟨⟨a, q⟩, ha, rfl⟩ := hi
    exact ⟨q, ha⟩
  obtain ⟨q, hq⟩ := hxi
  have he := hel i (by omega)
  rw [hq, show Tryd.prog.cellsOf 9 = 1 by kernel_rfl] at he
  obtain ⟨n1, t1, u1, _⟩ := DataW.trod_string Tryd.underlying9 he
  simp only [Prod.mk.injEq, DataW.lit.injEq, Lit.string.injEq] at u1
  rw [u1.1]
  exact at_of_take (a := i * 1) t1 (by omega)
theorem words_of {l : List (String × DataW Unit)} {W : World} (h : laidMetH Tryd.prog l W) (hl : l.filter (fun x => x.1 == "umpire/result.words") = [("umpire/result.words", Rows.laid_umpire_result_words)]) : ∀ K : Nat, K < 5 → W.cell? ⟨0, K, none⟩ = some (.string ⟨(resWord K).toArray⟩) := by
  obtain ⟨g, t, cs, fuel, p, hg, ht, hv, hd⟩ := laid_one h _ _ hl rfl
  obtain rfl := Option.some.inj ((show Tryd.prog.globalNamed "umpire/result.words" = some 0 by kernel_rfl).symm.trans hg)
  obtain rfl := Option.some.inj ((show (Tryd.prog.globals[0]?).map (·.type) = some 96 by kernel_rfl).symm.trans ht)
  intro K hK
  exact (World.var?_cell hg hv K).trans (by simpa using words_cells hd K hK)
end Go.Proofs.YthaocbmkkgeomaaDoor

/- Small laws on strings of this program's types: string([]byte{a}), string([]byte{a, b}). -/
namespace Go.Proofs.YthaocbmkkgeomaaDoor
open Go.RowKit

/-- 'string(b)' at a literal that the call has just made. -/
theorem conv1 (W : World) (x : Int) (c : Nat) : (convert 25 9 (.slice (some ⟨W.heap.size, 0, none⟩) 1 c)).run Tryd.prog (W.alloc (.cells #[.int .u8 x] 5)) = .ok (.string ⟨#[UInt8.ofNat x.toNat]⟩) (W.alloc (.cells #[.int .u8 x] 5)) :=
  run_convert_bytes_arg _ 25 5 Tryd.underlying25 Tryd.underlying5 _ 0 1 c [x] rfl (fun i hi => by
    rcases (show i = 0 by omega) with rfl; simp) _ Tryd.underlying9
theorem conv2 (W : World) (x y : Int) (c : Nat) : (convert 25 9 (.slice (some ⟨W.heap.size, 0, none⟩) 2 c)).run Tryd.prog (W.alloc (.cells #[.int .u8 x, .int .u8 y] 5)) = .ok (.string ⟨#[UInt8.ofNat x.toNat, UInt8.ofNat y.toNat]⟩) (W.alloc (.cells #[.int .u8 x, .int .u8 y] 5)) :=
  run_convert_bytes_arg _ 25 5 Tryd.underlying25 Tryd.underlying5 _ 0 2 c [x, y] rfl (fun i hi => by
    rcases (show i = 0 ∨ i = 1 by omega) with rfl | rfl <;> simp) _ Tryd.underlying9
theorem conv1' (W : World) (x : Int) (n c : Nat) (hn : n = W.heap.size) : (convert 25 9 (.slice (some ⟨n, 0, none⟩) 1 c)).run Tryd.prog (W.alloc (.cells #[.int .u8 x] 5)) = .ok (.string ⟨#[UInt8.ofNat x.toNat]⟩) (W.alloc (.cells #[.int .u8 x] 5)) := by subst hn; exact conv1 W x c
theorem conv2' (W : World) (x y : Int) (n c : Nat) (hn : n = W.heap.size) : (convert 25 9 (.slice (some ⟨n, 0, none⟩) 2 c)).run Tryd.prog (W.alloc (.cells #[.int .u8 x, .int .u8 y] 5)) = .ok (.string ⟨#[UInt8.ofNat x.toNat, UInt8.ofNat y.toNat]⟩) (W.alloc (.cells #[.int .u8 x, .int .u8 y] 5)) := by subst hn; exact conv2 W x y c
attribute [go_sem] conv1' conv2'
theorem mk_append (x y : List UInt8) : (⟨x.toArray⟩ : ByteArray) ++ ⟨y.toArray⟩ = ⟨(x ++ y).toArray⟩ := ByteArray.mk_append_mk x y
theorem size_mk (l : List UInt8) : (⟨l.toArray⟩ : ByteArray).size = l.length := by simp [ByteArray.size]
theorem ret_str {a : ByteArray} {l : List UInt8} (h : a.data.toList = l) : Ending.returned (.string a) = Ending.returned (.string ⟨l.toArray⟩) := by subst h; simp
end Go.Proofs.YthaocbmkkgeomaaDoor

/- The walks of umpire/codec's Writer: what is written. No condition but what each says. -/
namespace Go.Proofs.YthaocbmkkgeomaaDoor
open Go.RowKit

/-- A number's bytes, the highest first, so many. -/
def be (n : Nat) : Nat → List UInt8
  | 0 => []
  | k + 1 => be (n / 256) k ++ [UInt8.ofNat n]
/-- Bytes as cells. -/
def byteCells (l : List UInt8) : List Value := l.map fun b => .int .u8 (b.toNat : Int)
/-- A writer without an error, in block 'p', which has written 'l'. -/
structure WrAt (w : World) (p : Nat) (v : Value) (l : List UInt8) : Prop where
  e : w.cell? ⟨p, 0, none⟩ = some (.int .i64 0)
  b : w.cell? ⟨p, 1, none⟩ = some v
  f0 : w.frozen? ⟨p, 0, none⟩ = false
  f1 : w.frozen? ⟨p, 1, none⟩ = false
  own : w.ownsRow (p + 1) 5 1 v l.length (byteCells l)
/-- Nothing turned but block 'p' and the row of 'v'. -/
structure Ch (p : Nat) (v : Value) (w w' : World) : Prop where
  os : w'.os = w.os
  tape : w'.tape = w.tape
  output : w'.output = w.output
  size : w.heap.size ≤ w'.heap.size
  block : ∀ k, k < w.heap.size → k ≠ p → some k ≠ v.ownBlock → w'.heap[k]? = w.heap[k]?
/-- The new value's row is the old one's, or new. -/
def Lies (w : World) (v v' : Value) : Prop := v'.ownBlock = v.ownBlock ∨ ∃ g, v'.ownBlock = some g ∧ w.heap.size ≤ g
theorem Ch.refl (p : Nat) (v : Value) (w : World) : Ch p v w w := ⟨rfl, rfl, rfl, Nat.le_refl _, fun _ _ _ _ => rfl⟩
theorem Ch.trans {p : Nat} {v v1 : Value} {w w1 w2 : World} (h : Ch p v w w1) (hl : Lies w v v1) (k : Ch p v1 w1 w2) : Ch p v w w2 :=
  ⟨k.os.trans h.os, k.tape.trans h.tape, k.output.trans h.output, Nat.le_trans h.size k.size, fun b hb h1 h2 => (k.block b (Nat.lt_of_lt_of_le hb h.size) h1 (by
    rcases hl with hl | ⟨g, hl, hg⟩
    · rw [hl]; exact h2
    · rw [hl]; intro e; cases e; omega)).trans (h.block b hb h1 h2)⟩
theorem Lies.trans {w w1 : World} {v v1 v2 : Value} (h : Lies w v v1) (hs : w.heap.size ≤ w1.heap.size) (k : Lies w1 v1 v2) : Lies w v v2 := by
  rcases k with k | ⟨g, k, hg⟩
  · rcases h with h | ⟨g, h, hg⟩
    · exact .inl (k.trans h)
    · exact .inr ⟨g, k.trans h, hg⟩
  · exact .inr ⟨g, k, Nat.le_trans hs hg⟩
theorem Ch.alloc {p : Nat} {v : Value} {a w : World} (h : Ch p v a w) (o : Obj) : Ch p v a (w.alloc o) :=
  ⟨h.os, h.tape, h.output, by have := h.size; simp; omega, fun k hk h1 h2 => (Below.heap_alloc w o k (by have := h.size; omega)).trans (h.block k hk h1 h2)⟩
theorem Ch.drew {p : Nat} {v : Value} {a w : World} (h : Ch p v a w) : Ch p v a w.drew := ⟨h.os, h.tape, h.output, h.size, h.block⟩
theorem Ch.setCell {p : Nat} {v : Value} {a w : World} (h : Ch p v a w) (o : Nat) (u : Value) : Ch p v a (w.setCell ⟨p, o, none⟩ u) :=
  ⟨h.os, h.tape, h.output, by have := h.size; simp [World.setCell]; omega, fun k hk h1 h2 => (Below.heap_setCell w _ u k h1).trans (h.block k hk h1 h2)⟩
theorem Ch.grown {p : Nat} {v : Value} {a w w' : World} {row : Option Nat} (h : Ch p v a w) (hg : w.grownBy w' row) (hr : row = v.ownBlock ∨ ∃ g, row = some g ∧ a.heap.size ≤ g) : Ch p v a w' :=
  ⟨hg.os.trans h.os, hg.tape.trans h.tape, hg.output.trans h.output, Nat.le_trans h.size hg.size, fun k hk h1 h2 => (hg.block k (Nat.lt_of_lt_of_le hk h.size) (by
    rcases hr with hr | ⟨g, hr, hge⟩
    · rw [hr]; exact h2
    · rw [hr]; intro e; cases e; omega)).trans (h.block k hk h1 h2)⟩
theorem Ch.cell {p : Nat} {v : Value} {w w' : World} (h : Ch p v w w') {b o : Nat} (hb : b < w.heap.size) (h1 : b ≠ p) (h2 : some b ≠ v.ownBlock) : w'.cell? ⟨b, o, none⟩ = w.cell? ⟨b, o, none⟩ :=
  World.cell?_of_block (w := w) (h.block b hb h1 h2)
theorem Ch.frozen {p : Nat} {v : Value} {w w' : World} (h : Ch p v w w') {b o : Nat} (hb : b < w.heap.size) (h1 : b ≠ p) (h2 : some b ≠ v.ownBlock) : w'.frozen? ⟨b, o, none⟩ = w.frozen? ⟨b, o, none⟩ :=
  World.frozen?_of_block (w := w) (h.block b hb h1 h2)

theorem Tryd.infoU8 : (Tryd.prog.info? 5).map (fun i => (i.zero, i.size, i.bytes)) = some (some (.int .u8 0), 1, 1) := by kernel_rfl

theorem ownsRow_drew {w : World} {base : Nat} {e : TypeId} {size : Nat} {v : Value} {n : Nat} {xs : List Value} (h : w.ownsRow base e size v n xs) : w.drew.ownsRow base e size v n xs := h
theorem WrAt.ne {w : World} {p : Nat} {v : Value} {l : List UInt8} (h : WrAt w p v l) : some p ≠ v.ownBlock := by
  intro e
  have := (h.own.lt p e.symm).1
  omega
/-- The writer's cells behind an append onto its row. -/
theorem WrAt.after {w W w1 : World} {p : Nat} {v : Value} {l : List UInt8} (h : WrAt w p v l) (X : Obj) (hW : W.heap = (w.alloc X).heap) (hg : W.grownBy w1 v.ownBlock) :
    w1.cell? ⟨p, 0, none⟩ = some (.int .i64 0) ∧ w1.cell? ⟨p, 1, none⟩ = some v ∧ w1.frozen? ⟨p, 0, none⟩ = false ∧ w1.frozen? ⟨p, 1, none⟩ = false := by
  have hp : p < w.heap.size := lt_of_cell h.e
  have hb : w1.heap[p]? = w.heap[p]? := by
    rw [hg.block p (by rw [hW]; simp; omega) h.ne, hW]
    exact Below.heap_alloc w X p hp
  exact ⟨(World.cell?_of_block (a := ⟨p, 0, none⟩) hb).trans h.e, (World.cell?_of_block (a := ⟨p, 1, none⟩) hb).trans h.b, (World.frozen?_of_block (a := ⟨p, 0, none⟩) hb).trans h.f0, (World.frozen?_of_block (a := ⟨p, 1, none⟩) hb).trans h.f1⟩

/-- A writer is well, if it has no error. -/
theorem well_c (p : Nat) (w : World) (h : w.cell? ⟨p, 0, none⟩ = some (.int .i64 0)) :
    Calls Tryd.prog 79 #[.pointer (some ⟨p, 0, none⟩)] w fun e w' => e = .returned (.bool true) ∧ w = w' := by
  go_enter Tryd.func79, Tryd.ntmps79
  go_wp2
  go_ret
  exact ⟨rfl, rfl⟩

theorem u8wrap (m : Nat) : IntKind.u8.wrap (m : Int) = ((UInt8.ofNat m).toNat : Int) := by
  simp [IntKind.wrap, IntKind.bits, IntKind.signed]
theorem byteCells_append (l m : List UInt8) : byteCells (l ++ m) = byteCells l ++ byteCells m := by simp [byteCells]
/-- What an append of one byte and its store leave. -/
theorem WrAt.done {w W w1 : World} {p g cap : Nat} {v : Value} {l : List UInt8} (h : WrAt w p v l) (X : Obj) (hW : W.heap = (w.alloc X).heap) (hos : W.os = w.os) (htape : W.tape = w.tape) (hout : W.output = w.output) (hg : W.grownBy w1 v.ownBlock) (b : UInt8) (x : Int) (hx : x = (b.toNat : Int))
    (hown : w1.ownsRow (p + 1) 5 1 (.slice (some ⟨g, 0, none⟩) (l.length + 1) cap) (l.length + 1) (byteCells l ++ [.int .u8 x])) (hat : v.ownBlock = some g ∨ g = w.heap.size + 1) :
    WrAt (w1.setCell ⟨p, 1, none⟩ (.slice (some ⟨g, 0, none⟩) (l.length + 1) cap)) p (.slice (some ⟨g, 0, none⟩) (l.length + 1) cap) (l ++ [b]) ∧
    Ch p v w (w1.setCell ⟨p, 1, none⟩ (.slice (some ⟨g, 0, none⟩) (l.length + 1) cap)) ∧ Lies w v (.slice (some ⟨g, 0, none⟩) (l.length + 1) cap) := by
  obtain ⟨q0, q1, q2, q3⟩ := h.after X hW hg
  subst hx
  have hch : Ch p v w w1 := by
    refine ⟨hg.os.trans hos, hg.tape.trans htape, hg.output.trans hout, ?_, fun k hk h1 h2 => ?_⟩
    · have := hg.size; rw [hW] at this; simp at this; omega
    · rw [hg.block k (by rw [hW]; simp; omega) h2, hW]; exact Below.heap_alloc w X k hk
  refine ⟨⟨?_, ?_, ?_, ?_, ?_⟩, hch.setCell 1 _, ?_⟩
  · rw [World.cell?_setCell_other _ _ _ _ (by simp)]; exact q0
  · exact World.cell?_setCell_same _ _ _ q1
  · exact (World.frozen?_setCell ..).trans q2
  · exact (World.frozen?_setCell ..).trans q3
  · have e : (l ++ [b]).length = l.length + 1 := by simp
    rw [byteCells_append, e]
    exact ownsRow_setCell_below hown (by simp) _
  · rcases hat with hat | hat
    · exact .inl hat.symm
    · exact .inr ⟨g, rfl, by omega⟩
theorem be_len (n k : Nat) : (be n k).length = k := by induction k generalizing n with
  | zero => rfl
  | succ k ih => simp [be, ih]

set_option maxHeartbeats 1000000 in
theorem put8_c (n p : Nat) (v : Value) (l : List UInt8) (w : World) (hn : n < 256) (hw : WrAt w p v l) (hl : l.length < 100000) :
    Calls Tryd.prog 77 #[.pointer (some ⟨p, 0, none⟩), .int .u8 n, .int .i64 1] w fun e w' => e = .returned (.tuple #[]) ∧ ∃ v', WrAt w' p v' (l ++ be n 1) ∧ Ch p v w w' ∧ Lies w v v' := by
  have he := hw.e
  obtain ⟨i0, hi, hz0, hz1, hz2⟩ := info_parts Tryd.infoU8
  go_enter Tryd.func77, Tryd.ntmps77
  go_wp2_with (go_at_call 79; refine (well_c p _ he).mono ?_; rintro e w1 ⟨rfl, rfl⟩)
  clear he
  go_loopw [6] (fun i wr => ∃ (k : Nat) (j : Int) (v1 : Value), k ≤ 1 ∧ j = (k : Int) - 1 ∧ i = .int .i64 j ∧ WrAt wr p v1 (l ++ (be n 1).take (1 - k)) ∧ Ch p v w wr ∧ Lies w v v1) (fun i _ => (intOf i + 1).toNat)
  case atStart => exact ⟨1, 0, v, Nat.le_refl _, rfl, rfl, by simpa using hw, Ch.refl _ _ _, .inl rfl⟩
  case round =>
    obtain ⟨k, j, v1, hk, hj, rfl, hw1, hch, hli⟩ := hrel
    have hlen : (l ++ (be n 1).take (1 - k)).length < 100004 := by simp [be_len]; omega
    rcases (show k = 0 ∨ k = 1 by omega) with rfl | rfl
    · obtain rfl : j = -1 := by omega
      clear hj
      go_wp2
      go_end0
      exact ⟨rfl, v1, by rw [show (be n 1).take (1 - 0) = be n 1 from List.take_of_length_le (by rw [be_len]; omega)] at hw1; exact hw1, hch, hli⟩
    · obtain rfl : j = 0 := by omega
      have he1 := hw1.e
      have hb1 := hw1.b
      have hf1 := hw1.f1
      have hown := hw1.own
      have hp : p < wr.heap.size := lt_of_cell he1
      generalize hL : l ++ (be n 1).take (1 - 1) = L at hw1 hlen hown
      have HL := Lib.hid hL
      have HJ := Lib.hid hj
      clear hL hj he1
      go_wp2
      have k0 : IntKind.i64.wrap 0 = 0 := by decide
      have k1 : IntKind.u32.wrap (n : Int) = n := by simp [IntKind.wrap, IntKind.bits, IntKind.signed]; omega
      go_region_law (first | (refine step_append_lies _ rfl (.tmp 26) (.tmp 33) 25 rfl (p + 1) 5 i0 (.int .u8 0) 1 1 Tryd.underlying25 hi hz0 hz1 hz2 rfl (by decide) v1 L.length (byteCells L) rfl (by first | exact ownsRow_drew (hown.alloc _) | exact hown.alloc _) ⟨wr.heap.size, 0, none⟩ 1 1 [.int .u8 (IntKind.u8.wrap (n : Int))] rfl rfl (by intro j u hj; match j, hj with | 0, hj => simp at hj; subst hj; simp [Addr.add]) (by intro u hu; simp at hu; subst hu; rfl) (by decide) (by unfold maxLen; omega) (by omega) (by simp; omega) _ rfl ?_; intro g cap w1 hown1 hgrow hat hlt; obtain ⟨q0, q1, q2, q3⟩ := hw1.after (Obj.cells #[.int .u8 (IntKind.u8.wrap (n : Int))] 5) (by rfl) hgrow))
      all_goals
        clear k0 k1
        obtain ⟨d1, d2, d3⟩ := hw1.done (Obj.cells #[.int .u8 (IntKind.u8.wrap (n : Int))] 5) (by rfl) (by rfl) (by rfl) (by rfl) hgrow (UInt8.ofNat n) (IntKind.u8.wrap (n : Int)) (u8wrap n) hown1 (by simpa using hat)
        go_wp2
        go_roundw
        case rel => exact ⟨0, -1, _, by omega, by omega, rfl, by rw [show l ++ (be n 1).take (1 - 0) = L ++ [UInt8.ofNat n] by rw [← HL.out]; simp [be, Nat.div_div_eq_div_mul]]; exact d1, hch.trans hli d2, hli.trans hch.size d3⟩
        case measure => simp [intOf]

set_option maxHeartbeats 1000000 in
theorem put16_c (n p : Nat) (v : Value) (l : List UInt8) (w : World) (hn : n < 65536) (hw : WrAt w p v l) (hl : l.length < 100000) :
    Calls Tryd.prog 78 #[.pointer (some ⟨p, 0, none⟩), .int .u16 n, .int .i64 2] w fun e w' => e = .returned (.tuple #[]) ∧ ∃ v', WrAt w' p v' (l ++ be n 2) ∧ Ch p v w w' ∧ Lies w v v' := by
  have he := hw.e
  obtain ⟨i0, hi, hz0, hz1, hz2⟩ := info_parts Tryd.infoU8
  go_enter Tryd.func78, Tryd.ntmps78
  go_wp2_with (go_at_call 79; refine (well_c p _ he).mono ?_; rintro e w1 ⟨rfl, rfl⟩)
  clear he
  go_loopw [6] (fun i wr => ∃ (k : Nat) (j : Int) (v1 : Value), k ≤ 2 ∧ j = (k : Int) - 1 ∧ i = .int .i64 j ∧ WrAt wr p v1 (l ++ (be n 2).take (2 - k)) ∧ Ch p v w wr ∧ Lies w v v1) (fun i _ => (intOf i + 1).toNat)
  case atStart => exact ⟨2, 1, v, Nat.le_refl _, rfl, rfl, by simpa using hw, Ch.refl _ _ _, .inl rfl⟩
  case round =>
    obtain ⟨k, j, v1, hk, hj, rfl, hw1, hch, hli⟩ := hrel
    have hlen : (l ++ (be n 2).take (2 - k)).length < 100004 := by simp [be_len]; omega
    rcases (show k = 0 ∨ k = 1 ∨ k = 2 by omega) with rfl | rfl | rfl
    · obtain rfl : j = -1 := by omega
      clear hj
      go_wp2
      go_end0
      exact ⟨rfl, v1, by rw [show (be n 2).take (2 - 0) = be n 2 from List.take_of_length_le (by rw [be_len]; omega)] at hw1; exact hw1, hch, hli⟩
    · obtain rfl : j = 0 := by omega
      have he1 := hw1.e
      have hb1 := hw1.b
      have hf1 := hw1.f1
      have hown := hw1.own
      have hp : p < wr.heap.size := lt_of_cell he1
      generalize hL : l ++ (be n 2).take (2 - 1) = L at hw1 hlen hown
      have HL := Lib.hid hL
      have HJ := Lib.hid hj
      clear hL hj he1
      go_wp2
      have k0 : IntKind.i64.wrap 0 = 0 := by decide
      have k1 : IntKind.u32.wrap (n : Int) = n := by simp [IntKind.wrap, IntKind.bits, IntKind.signed]; omega
      go_region_law (first | (refine step_append_lies _ rfl (.tmp 26) (.tmp 33) 25 rfl (p + 1) 5 i0 (.int .u8 0) 1 1 Tryd.underlying25 hi hz0 hz1 hz2 rfl (by decide) v1 L.length (byteCells L) rfl (by first | exact ownsRow_drew (hown.alloc _) | exact hown.alloc _) ⟨wr.heap.size, 0, none⟩ 1 1 [.int .u8 (IntKind.u8.wrap (n : Int))] rfl rfl (by intro j u hj; match j, hj with | 0, hj => simp at hj; subst hj; simp [Addr.add]) (by intro u hu; simp at hu; subst hu; rfl) (by decide) (by unfold maxLen; omega) (by omega) (by simp; omega) _ rfl ?_; intro g cap w1 hown1 hgrow hat hlt; obtain ⟨q0, q1, q2, q3⟩ := hw1.after (Obj.cells #[.int .u8 (IntKind.u8.wrap (n : Int))] 5) (by rfl) hgrow))
      all_goals
        clear k0 k1
        obtain ⟨d1, d2, d3⟩ := hw1.done (Obj.cells #[.int .u8 (IntKind.u8.wrap (n : Int))] 5) (by rfl) (by rfl) (by rfl) (by rfl) hgrow (UInt8.ofNat n) (IntKind.u8.wrap (n : Int)) (u8wrap n) hown1 (by simpa using hat)
        go_wp2
        go_roundw
        case rel => exact ⟨0, -1, _, by omega, by omega, rfl, by rw [show l ++ (be n 2).take (2 - 0) = L ++ [UInt8.ofNat n] by rw [← HL.out]; simp [be, Nat.div_div_eq_div_mul]]; exact d1, hch.trans hli d2, hli.trans hch.size d3⟩
        case measure => simp [intOf]
    · obtain rfl : j = 1 := by omega
      have he1 := hw1.e
      have hb1 := hw1.b
      have hf1 := hw1.f1
      have hown := hw1.own
      have hp : p < wr.heap.size := lt_of_cell he1
      generalize hL : l ++ (be n 2).take (2 - 2) = L at hw1 hlen hown
      have HL := Lib.hid hL
      have HJ := Lib.hid hj
      clear hL hj he1
      go_wp2
      have k0 : IntKind.i64.wrap 8 = 8 := by decide
      have k1 : IntKind.u32.wrap (n : Int) = n := by simp [IntKind.wrap, IntKind.bits, IntKind.signed]; omega
      go_region_law (first | (refine step_append_lies _ rfl (.tmp 26) (.tmp 33) 25 rfl (p + 1) 5 i0 (.int .u8 0) 1 1 Tryd.underlying25 hi hz0 hz1 hz2 rfl (by decide) v1 L.length (byteCells L) rfl (by first | exact ownsRow_drew (hown.alloc _) | exact hown.alloc _) ⟨wr.heap.size, 0, none⟩ 1 1 [.int .u8 (IntKind.u8.wrap ((n : Int) / 256))] rfl rfl (by intro j u hj; match j, hj with | 0, hj => simp at hj; subst hj; simp [Addr.add]) (by intro u hu; simp at hu; subst hu; rfl) (by decide) (by unfold maxLen; omega) (by omega) (by simp; omega) _ rfl ?_; intro g cap w1 hown1 hgrow hat hlt; obtain ⟨q0, q1, q2, q3⟩ := hw1.after (Obj.cells #[.int .u8 (IntKind.u8.wrap ((n : Int) / 256))] 5) (by rfl) hgrow))
      all_goals
        clear k0 k1
        obtain ⟨d1, d2, d3⟩ := hw1.done (Obj.cells #[.int .u8 (IntKind.u8.wrap ((n : Int) / 256))] 5) (by rfl) (by rfl) (by rfl) (by rfl) hgrow (UInt8.ofNat (n / 256)) (IntKind.u8.wrap ((n : Int) / 256)) (u8wrap (n / 256)) hown1 (by simpa using hat)
        go_wp2
        go_roundw
        case rel => exact ⟨1, 0, _, by omega, by omega, rfl, by rw [show l ++ (be n 2).take (2 - 1) = L ++ [UInt8.ofNat (n / 256)] by rw [← HL.out]; simp [be, Nat.div_div_eq_div_mul]]; exact d1, hch.trans hli d2, hli.trans hch.size d3⟩
        case measure => simp [intOf]

end Go.Proofs.YthaocbmkkgeomaaDoor

/- The walks of umpire/codec's Reader: what is read. No condition but what each says. -/
namespace Go.Proofs.YthaocbmkkgeomaaDoor
open Go.RowKit

/-- A reader in block 'p': its error, its bytes, how many are read. -/
structure RdAt (w : World) (p : Nat) (e : Nat) (s : List UInt8) (at_ : Nat) : Prop where
  c0 : w.cell? ⟨p, 0, none⟩ = some (.int .i64 (e : Int))
  c1 : w.cell? ⟨p, 1, none⟩ = some (.string ⟨s.toArray⟩)
  c2 : w.cell? ⟨p, 2, none⟩ = some (.int .i64 (at_ : Int))
  f0 : w.frozen? ⟨p, 0, none⟩ = false
  f1 : w.frozen? ⟨p, 1, none⟩ = false
  f2 : w.frozen? ⟨p, 2, none⟩ = false
  le : at_ ≤ s.length
  big : s.length ≤ 140737488355328
/-- Nothing turned but block 'p'. -/
def Chp (p : Nat) (w w' : World) : Prop := Ch p (.slice none 0 0) w w'
theorem Chp.refl (p : Nat) (w : World) : Chp p w w := Ch.refl _ _ _
theorem Chp.trans {p : Nat} {w w1 w2 : World} (h : Chp p w w1) (k : Chp p w1 w2) : Chp p w w2 := Ch.trans h (.inl rfl) k
theorem Chp.alloc {p : Nat} {a w : World} (h : Chp p a w) (o : Obj) : Chp p a (w.alloc o) := Ch.alloc h o
theorem Chp.drew {p : Nat} {a w : World} (h : Chp p a w) : Chp p a w.drew := Ch.drew h
theorem Chp.setCell {p : Nat} {a w : World} (h : Chp p a w) (o : Nat) (u : Value) : Chp p a (w.setCell ⟨p, o, none⟩ u) := Ch.setCell h o u
theorem Chp.setAt {p : Nat} {a w : World} (h : Chp p a w) {q : Nat} (hq : a.heap.size ≤ q) (o : Nat) (u : Value) : Chp p a (w.setCell ⟨q, o, none⟩ u) :=
  ⟨h.os, h.tape, h.output, by have := Ch.size h; simp [World.setCell]; omega, fun k hk h1 h2 => (Below.heap_setCell w _ u k (by simp; omega)).trans (h.block k hk h1 h2)⟩
theorem Chp.cell {p : Nat} {w w' : World} (h : Chp p w w') {b o : Nat} (hb : b < w.heap.size) (h1 : b ≠ p) : w'.cell? ⟨b, o, none⟩ = w.cell? ⟨b, o, none⟩ := Ch.cell h hb h1 (by intro e; cases e)
theorem Chp.frozen {p : Nat} {w w' : World} (h : Chp p w w') {b o : Nat} (hb : b < w.heap.size) (h1 : b ≠ p) : w'.frozen? ⟨b, o, none⟩ = w.frozen? ⟨b, o, none⟩ := Ch.frozen h hb h1 (by intro e; cases e)
theorem Chp.size {p : Nat} {w w' : World} (h : Chp p w w') : w.heap.size ≤ w'.heap.size := Ch.size h
theorem Chp.below {p : Nat} {w w' : World} (h : Chp p w w') (hp : p < w.heap.size) : Below p w w' :=
  ⟨h.os, h.tape, h.output, h.size, fun k hk => h.block k (by omega) (by omega) (by intro e; cases e)⟩
theorem Chp.fr {p : Nat} {a w w' : World} (f : Fr a w) (h : Chp p w w') (hp : a.heap.size ≤ p) : Fr a w' :=
  f.trans' ⟨h.os, h.tape, h.output, h.size, fun k hk => h.block k (by have := f.size; omega) (by omega) (by intro e; cases e)⟩
theorem Fr.chp {p : Nat} {w w' : World} (h : Fr w w') : Chp p w w' := ⟨h.os, h.tape, h.output, h.size, fun k hk _ _ => Fr.block h hk⟩
theorem RdAt.lt {w : World} {p e at_ : Nat} {s : List UInt8} (h : RdAt w p e s at_) : p < w.heap.size := lt_of_cell h.c0
theorem RdAt.keep {w w' : World} {p e at_ : Nat} {s : List UInt8} (h : RdAt w p e s at_) (f : Fr w w') : RdAt w' p e s at_ :=
  ⟨f.keep h.c0, f.keep h.c1, f.keep h.c2, (f.frozen p 0 h.lt).trans h.f0, (f.frozen p 1 h.lt).trans h.f1, (f.frozen p 2 h.lt).trans h.f2, h.le, h.big⟩

theorem RdAt.setOther {w : World} {p e at_ q : Nat} {s : List UInt8} (h : RdAt w p e s at_) (hq : q ≠ p) (o : Nat) (u : Value) : RdAt (w.setCell ⟨q, o, none⟩ u) p e s at_ := by
  have e : (w.setCell ⟨q, o, none⟩ u).heap[p]? = w.heap[p]? := Below.heap_setCell w _ u p (fun e => hq e.symm)
  exact ⟨(World.cell?_of_block (a := ⟨p, 0, none⟩) e).trans h.c0, (World.cell?_of_block (a := ⟨p, 1, none⟩) e).trans h.c1, (World.cell?_of_block (a := ⟨p, 2, none⟩) e).trans h.c2, (World.frozen?_of_block (a := ⟨p, 0, none⟩) e).trans h.f0, (World.frozen?_of_block (a := ⟨p, 1, none⟩) e).trans h.f1, (World.frozen?_of_block (a := ⟨p, 2, none⟩) e).trans h.f2, h.le, h.big⟩
/-- What is left of a reader's bytes. -/
theorem Left_c (p e at_ : Nat) (s : List UInt8) (w : World) (h : RdAt w p e s at_) :
    Calls Tryd.prog 32 #[.pointer (some ⟨p, 0, none⟩)] w fun e w' => e = .returned (.int .i64 ((s.length : Int) - at_)) ∧ Fr w w' := by
  obtain ⟨h0, h1, h2, _, _, _, hle, hbig⟩ := h
  have hsz := size_mk s
  have hwr : IntKind.i64.wrap ((s.length : Int) - at_) = (s.length : Int) - at_ := IntWalk.i64_in _ (by omega)
  clear hle hbig
  go_enter Tryd.func32, Tryd.ntmps32
  go_wp2
  go_quiet (fail)
  go_wp2
  go_ret
  exact ⟨rfl, (Fr.refl _).drewN _⟩
theorem Err_c (p e at_ : Nat) (s : List UInt8) (w : World) (h : RdAt w p e s at_) :
    Calls Tryd.prog 58 #[.pointer (some ⟨p, 0, none⟩)] w fun e' w' => e' = .returned (.int .i64 e) ∧ w = w' := by
  obtain ⟨h0, h1, h2, _, _, _, hle, hbig⟩ := h
  go_enter Tryd.func58, Tryd.ntmps58
  go_wp2
  go_ret
  exact ⟨rfl, rfl⟩
theorem Over_c (s : List UInt8) (w : World) (hb : s.length ≤ 140737488355328) :
    Calls Tryd.prog 23 #[.string ⟨s.toArray⟩] w fun e w' => ∃ p, e = .returned (.pointer (some ⟨p, 0, none⟩)) ∧ RdAt w' p 0 s 0 ∧ Fr w w' ∧ w.heap.size ≤ p := by
  go_enter Tryd.func23, Tryd.ntmps23
  go_wp2
  go_ret
  exact ⟨_, rfl, ⟨by simp, by simp, by simp, by simp, by simp, by simp, by simp, hb⟩, (Fr.refl _).alloc _, Nat.le_refl _⟩

theorem well_no (p : Nat) (e : Nat) (w : World) (h : w.cell? ⟨p, 0, none⟩ = some (.int .i64 (e : Int))) (he : e ≠ 0) :
    Calls Tryd.prog 79 #[.pointer (some ⟨p, 0, none⟩)] w fun e w' => e = .returned (.bool false) ∧ w = w' := by
  have he' : ((e : Int) == 0) = false := by simp; omega
  clear he
  go_enter Tryd.func79, Tryd.ntmps79
  go_wp2
  go_ret
  exact ⟨rfl, rfl⟩

/-- What is read: so many bytes; the error behind; how many are read behind. -/
def rdRaw (e : Nat) (s : List UInt8) (at_ n : Nat) : List UInt8 × Nat × Nat :=
  if e ≠ 0 then ([], e, at_) else if s.length - at_ < n then ([], 5, at_) else ((s.drop at_).take n, 0, at_ + n)
/-- A reader that has read 'l'. -/
def Read (p : Nat) (s : List UInt8) (x : Nat × Nat) (w w' : World) : Prop := RdAt w' p x.1 s x.2 ∧ Chp p w w'

theorem rRaw_err (p e at_ n : Nat) (s : List UInt8) (w : World) (h : RdAt w p e s at_) (he : e ≠ 0) :
    Calls Tryd.prog 92 #[.pointer (some ⟨p, 0, none⟩), .int .i64 n] w fun e' w' => e' = .returned (.string ⟨#[]⟩) ∧ w = w' := by
  go_enter Tryd.func92, Tryd.ntmps92
  go_wp2_with (go_at_call 79; refine (well_no p e _ h.c0 he).mono ?_; rintro e w1 ⟨rfl, rfl⟩)
  all_goals (go_ret; exact ⟨rfl, rfl⟩)
theorem rRaw_torn (p at_ n : Nat) (s : List UInt8) (w : World) (h : RdAt w p 0 s at_) (hn : s.length - at_ < n) (hn1 : n < 1000000) :
    Calls Tryd.prog 92 #[.pointer (some ⟨p, 0, none⟩), .int .i64 n] w fun e' w' => e' = .returned (.string ⟨#[]⟩) ∧ Read p s (5, at_) w w' := by
  have hgt : (s.length : Int) - at_ < n := by have := h.le; omega
  have hpos : (0 : Int) < n := by omega
  have h0 : w.cell? ⟨p, 0, none⟩ = some (.int .i64 0) := h.c0
  go_enter Tryd.func92, Tryd.ntmps92
  go_wp2_with fail
  refine (well_c p _ h0).mono ?_
  rintro e w1 ⟨rfl, rfl⟩
  go_wp2_with fail
  refine (Left_c p 0 at_ s _ h).mono ?_
  rintro e w1 ⟨rfl, hb⟩
  have h1 := h.keep hb
  have c0 : w1.cell? ⟨p, 0, none⟩ = some (.int .i64 0) := h1.c0
  have f0 := h1.f0
  clear h0
  go_wp2
  go_ret
  refine ⟨rfl, ⟨?_, ?_, ?_, ?_, ?_, ?_, h.le, h.big⟩, (Fr.chp hb).setCell 0 _⟩
  · exact World.cell?_setCell_same _ _ _ c0
  · rw [World.cell?_setCell_other _ _ _ _ (by simp)]; exact h1.c1
  · rw [World.cell?_setCell_other _ _ _ _ (by simp)]; exact h1.c2
  · exact (World.frozen?_setCell ..).trans h1.f0
  · exact (World.frozen?_setCell ..).trans h1.f1
  · exact (World.frozen?_setCell ..).trans h1.f2
theorem rRaw_ok (p at_ n : Nat) (s : List UInt8) (w : World) (h : RdAt w p 0 s at_) (hn : n ≤ s.length - at_) (hpos : (0 : Int) < n) :
    Calls Tryd.prog 92 #[.pointer (some ⟨p, 0, none⟩), .int .i64 n] w fun e' w' => e' = .returned (.string ⟨((s.drop at_).take n).toArray⟩) ∧ Read p s (0, at_ + n) w w' := by
  have hle := h.le
  have hbig := h.big
  have hgt : ¬ (s.length : Int) - at_ < n := by omega
  have h0 : w.cell? ⟨p, 0, none⟩ = some (.int .i64 0) := h.c0
  go_enter Tryd.func92, Tryd.ntmps92
  go_wp2_with fail
  refine (well_c p _ h0).mono ?_
  rintro e w1 ⟨rfl, rfl⟩
  go_wp2_with fail
  refine (Left_c p 0 at_ s _ h).mono ?_
  rintro e w1 ⟨rfl, hb⟩
  have h1 := h.keep hb
  have c1 := h1.c1
  have c2 := h1.c2
  have f2 := h1.f2
  clear h0
  have hsz := size_mk s
  go_wp2
  have k1 : IntKind.i64.wrap ((at_ : Int) + n - n) = at_ := by rw [IntWalk.i64_in _ (by omega)]; omega
  have k2 : IntKind.i64.wrap ((at_ : Int) + n) = (at_ : Int) + n := IntWalk.i64_in _ (by omega)
  have k3 : (at_ : Int) ≤ at_ + n := by omega
  have k4 : (at_ : Int) + n ≤ s.length := by omega
  have k5 : (0 : Int) ≤ at_ := by omega
  go_quiet (fail)
  clear k1 k2 k3 k4 k5
  go_wp2
  go_ret
  refine ⟨ret_str (by simp [ByteArray.data_extract]), ⟨?_, ?_, ?_, ?_, ?_, ?_, by simp; omega, hbig⟩, ((Fr.chp hb).setCell 2 _).trans (Fr.chp ((Fr.refl _).drewN _))⟩
  · show (w1.setCell _ _).cell? _ = _
    rw [World.cell?_setCell_other _ _ _ _ (by simp)]; exact h1.c0
  · show (w1.setCell _ _).cell? _ = _
    rw [World.cell?_setCell_other _ _ _ _ (by simp)]; exact h1.c1
  · exact World.cell?_setCell_same _ _ _ c2
  · exact (World.frozen?_setCell ..).trans h1.f0
  · exact (World.frozen?_setCell ..).trans h1.f1
  · exact (World.frozen?_setCell ..).trans h1.f2
theorem rRaw_zero (p at_ : Nat) (s : List UInt8) (w : World) (h : RdAt w p 0 s at_) :
    Calls Tryd.prog 92 #[.pointer (some ⟨p, 0, none⟩), .int .i64 0] w fun e' w' => e' = .returned (.string ⟨#[]⟩) ∧ Read p s (0, at_) w w' := by
  have hle := h.le
  have hbig := h.big
  have hgt : ¬ (s.length : Int) - at_ < 0 := by omega
  have h0 : w.cell? ⟨p, 0, none⟩ = some (.int .i64 0) := h.c0
  go_enter Tryd.func92, Tryd.ntmps92
  go_wp2_with fail
  refine (well_c p _ h0).mono ?_
  rintro e w1 ⟨rfl, rfl⟩
  go_wp2_with fail
  refine (Left_c p 0 at_ s _ h).mono ?_
  rintro e w1 ⟨rfl, hb⟩
  have h1 := h.keep hb
  have c1 := h1.c1
  have c2 := h1.c2
  have f2 := h1.f2
  clear h0
  have hsz := size_mk s
  go_wp2
  have k1 : IntKind.i64.wrap (at_ : Int) = at_ := IntWalk.i64_in _ (by omega)
  have k4 : (at_ : Int) ≤ s.length := by omega
  have k5 : (0 : Int) ≤ at_ := by omega
  go_quiet (fail)
  clear k1 k4 k5
  go_wp2
  go_ret
  refine ⟨ret_str (l := []) (by simp [ByteArray.data_extract]), ⟨?_, ?_, ?_, ?_, ?_, ?_, hle, hbig⟩, ((Fr.chp hb).setCell 2 _).trans (Fr.chp ((Fr.refl _).drewN _))⟩
  · show (w1.setCell _ _).cell? _ = _
    rw [World.cell?_setCell_other _ _ _ _ (by simp)]; exact h1.c0
  · show (w1.setCell _ _).cell? _ = _
    rw [World.cell?_setCell_other _ _ _ _ (by simp)]; exact h1.c1
  · exact World.cell?_setCell_same _ _ _ c2
  · exact (World.frozen?_setCell ..).trans h1.f0
  · exact (World.frozen?_setCell ..).trans h1.f1
  · exact (World.frozen?_setCell ..).trans h1.f2
theorem rRaw_c (p e at_ n : Nat) (s : List UInt8) (w : World) (h : RdAt w p e s at_) (hn : n < 1000000) :
    Calls Tryd.prog 92 #[.pointer (some ⟨p, 0, none⟩), .int .i64 n] w fun e' w' => e' = .returned (.string ⟨(rdRaw e s at_ n).1.toArray⟩) ∧ Read p s (rdRaw e s at_ n).2 w w' := by
  unfold rdRaw
  by_cases he : e ≠ 0
  · simp only [if_pos he]
    exact (rRaw_err p e at_ n s w h he).mono fun e' w' ⟨h1, h2⟩ => ⟨h1, by subst h2; exact ⟨h, Chp.refl _ _⟩⟩
  · obtain rfl : e = 0 := by omega
    simp only [if_neg he]
    by_cases hlt : s.length - at_ < n
    · simp only [if_pos hlt]
      exact rRaw_torn p at_ n s w h hlt hn
    · simp only [if_neg hlt]
      rcases Nat.eq_zero_or_pos n with rfl | hp
      · simpa using rRaw_zero p at_ s w h
      · exact rRaw_ok p at_ n s w h (by omega) (by omega)
end Go.Proofs.YthaocbmkkgeomaaDoor

/- The walks of umpire/codec's Writer: its methods. No condition but that there is no error, and how long what is written is at most. -/
namespace Go.Proofs.YthaocbmkkgeomaaDoor
open Go.RowKit

/-- The writer in block 'p' has written 'l'; nothing turned but its own block and row. -/
def Wrote (p : Nat) (v : Value) (l : List UInt8) (w w' : World) : Prop := ∃ v', WrAt w' p v' l ∧ Ch p v w w' ∧ Lies w v v'

theorem U8_c (n p : Nat) (v : Value) (l : List UInt8) (w : World) (hn : n < 256) (hw : WrAt w p v l) (hl : l.length < 100000) :
    Calls Tryd.prog 52 #[.pointer (some ⟨p, 0, none⟩), .int .u8 n] w fun e w' => e = .returned (.tuple #[]) ∧ Wrote p v (l ++ be n 1) w w' := by
  go_enter Tryd.func52, Tryd.ntmps52
  go_wp2_with (go_at_call 77; refine (put8_c n p v l _ hn hw hl).mono ?_; rintro e w1 ⟨rfl, h⟩; have H : Wrote p v (l ++ be n 1) w w1 := h; clear h)
  go_end0
  exact ⟨rfl, H⟩
theorem U16_c (n p : Nat) (v : Value) (l : List UInt8) (w : World) (hn : n < 65536) (hw : WrAt w p v l) (hl : l.length < 100000) :
    Calls Tryd.prog 53 #[.pointer (some ⟨p, 0, none⟩), .int .u16 n] w fun e w' => e = .returned (.tuple #[]) ∧ Wrote p v (l ++ be n 2) w w' := by
  go_enter Tryd.func53, Tryd.ntmps53
  go_wp2_with (go_at_call 78; refine (put16_c n p v l _ hn hw hl).mono ?_; rintro e w1 ⟨rfl, h⟩; have H : Wrote p v (l ++ be n 2) w w1 := h; clear h)
  go_end0
  exact ⟨rfl, H⟩

/-- 'string(b)' at a slice that the call owns. -/
theorem conv_own {w : World} {base : Nat} {v : Value} {l : List UInt8} (h : w.ownsRow base 5 1 v l.length (byteCells l)) : (convert 25 9 v).run Tryd.prog w = .ok (.string ⟨l.toArray⟩) w := by
  rcases h.2 with ⟨rfl, h0⟩ | ⟨g, cap, cur, rfl, hg, hh, hc, hm, hs, ht⟩
  · obtain rfl : l = [] := List.eq_nil_of_length_eq_zero h0
    exact run_convert_bytes_nil w 25 5 Tryd.underlying25 Tryd.underlying5 0 0 _ Tryd.underlying9
  · refine run_convert_bytes_back w 25 9 5 _ cap l Tryd.underlying25 Tryd.underlying5 Tryd.underlying9 fun j hj => ?_
    exact h.cells rfl j _ (by simp [byteCells, hj])
/-- What a writer has written, as a string. -/
theorem Bytes_c (p : Nat) (v : Value) (l : List UInt8) (w : World) (hw : WrAt w p v l) :
    Calls Tryd.prog 54 #[.pointer (some ⟨p, 0, none⟩)] w fun e w' => e = .returned (.tuple #[.string ⟨l.toArray⟩, .int .i64 0]) ∧ w = w' := by
  have he := hw.e
  have hb := hw.b
  have hcv := conv_own hw.own
  go_enter Tryd.func54, Tryd.ntmps54
  go_wp2_with (go_at_call 79; refine (well_c p _ he).mono ?_; rintro e w1 ⟨rfl, rfl⟩)
  go_ret2
  exact ⟨rfl, rfl⟩

/-- Where a string's bytes are appended: onto the old row, or onto a new one. -/
theorem append_string_lies {P : Program} (w : World) (base : Nat) (t u ty e : TypeId) (i : TypeInfo) (ht : P.underlying t = some (.slice e)) (hu : P.underlying u = some .string) (hi : P.info? e = some i) (hz : i.zero = some (.int .u8 0)) (hsize : i.size = 1) (hby : i.bytes = 1)
    (v : Value) (n : Nat) (xs : List Value) (hown : w.ownsRow base e 1 v n xs) (s : ByteArray) (hm : n + s.size ≤ 140737488355328) (hb : base ≤ w.heap.size) :
    ∃ v' w', (Builtin.append_ #[t, u] ty #[v, .string s]).run P w = .ok v' w' ∧ w'.ownsRow base e 1 v' (n + s.size) (xs ++ Lib.strCells s) ∧ w.grownBy w' v.ownBlock ∧ Lies w v v' := by
  obtain ⟨v', w', hr, ho, hg, hiff⟩ := Lib.run_append_own_string (P := P) w base t u ty e i ht hu hi hz hsize hby v n xs hown s (by unfold maxLen; omega) hm hb
  refine ⟨v', w', hr, ho, hg, ?_⟩
  rcases hown.2 with ⟨rfl, rfl⟩ | ⟨g, cap, cur, rfl, hbg, hh, hc, hcm, hcs, htake⟩
  · by_cases h0 : s.size = 0
    · rw [hiff.2 ⟨rfl, h0⟩]; exact .inl rfl
    · have h := run_append_nil_string (P := P) w t u ty e i (.int .u8 0) ht hu hi hz s (by omega) (by omega) (by rw [hby]; omega)
      rw [hr] at h
      obtain ⟨rfl, _⟩ := Result.ok.inj h
      exact .inr ⟨_, rfl, Nat.le_refl _⟩
  · by_cases hroom : n + s.size ≤ cap
    · have h := Lib.run_append_room_string (P := P) w t u ty e i ht hu hi hsize g n cap cur hh s hroom (by rw [hcs]; omega)
      rw [hr] at h
      obtain ⟨rfl, _⟩ := Result.ok.inj h
      exact .inl rfl
    · have holds : ∀ j u, xs[j]? = some u → w.cell? ((⟨g, 0, none⟩ : Addr).add j) = some u := hown.cells (g := g) rfl
      have h := Lib.run_append_grow_string (P := P) w t u ty e i (.int .u8 0) ht hu hi hz ⟨g, 0, none⟩ n cap xs (by rw [hsize]; exact hown.1) holds s (by omega) (by omega) (by rw [hby]; exact growslice_fits (by omega) (by omega))
      rw [hr] at h
      obtain ⟨rfl, _⟩ := Result.ok.inj h
      exact .inr ⟨_, rfl, Nat.le_refl _⟩

/-- An append whose run is known, for the walk. -/
theorem wpList_append_known {P : Program} {w : World} {ops : Array Oper} {rest : List Oper} {o : Oper} {a : Act} {Q : Exit → Act → World → Prop} (hgd : o.guard = none) (sl x : Operand) (t u : TypeId)
    (ho : o.op = .call { callee := .builtin .append, args := #[sl, x], argTypes := #[t, u] }) (v y : Value) (hs : a.eval sl = v) (hx : a.eval x = y) (v' : Value) (w' : World)
    (hr : Hid ((Builtin.append_ #[t, u] o.type #[v, y]).run P w = .ok v' w')) (h : wpList P ops Q rest (a.put o.dst v') w') : wpList P ops Q (o :: rest) a w := by
  refine wpList_plain hgd fun K hK => ?_
  unfold Oper.wp execOp
  simp only [ho, resolve, invoke, builtin, Sem.run_bind, Sem.run_pure, Result.andThen_ok, List.map_toArray, List.map_cons, List.map_nil, hs, hx, hr.out]
  exact hK _ _ h


theorem Wrote.below {p : Nat} {v : Value} {l l0 : List UInt8} {w w' : World} (h : Wrote p v l w w') (hw : WrAt w p v l0) : Below p w w' := by
  obtain ⟨v', _, hc, _⟩ := h
  have hp : p < w.heap.size := lt_of_cell hw.e
  exact ⟨hc.os, hc.tape, hc.output, hc.size, fun k hk => hc.block k (by omega) (by omega) (fun e => by have := (hw.own.lt k e.symm).1; omega)⟩

/-- Numbers of 16 bits, as cells. -/
def u16Cells (l : List Nat) : List Value := l.map fun n : Nat => Value.int .u16 (n : Int)
def listBytes (l : List Nat) : List UInt8 := be l.length 1 ++ l.flatMap fun n => be n 2

theorem flat2_len (l : List Nat) : (l.flatMap fun n => be n 2).length = 2 * l.length := by
  induction l with
  | nil => rfl
  | cons a l ih => simp [List.flatMap_cons, be_len, ih]; omega

end Go.Proofs.YthaocbmkkgeomaaDoor

/- Two lists of numbers, or of micros: the same or not. No condition but that both can be read. -/
namespace Go.Proofs.YthaocbmkkgeomaaDoor
open Go.RowKit

/-- A call that only drew. -/
def Dr (w w' : World) : Prop := ∃ n, w' = w.drewN n
theorem Dr.refl (w : World) : Dr w w := ⟨0, rfl⟩
theorem Dr.drewN {w w' : World} (h : Dr w w') (n : Nat) : Dr w (w'.drewN n) := by
  obtain ⟨m, rfl⟩ := h; exact ⟨m + n, World.drewN_drewN ..⟩
theorem Dr.fr {w w' : World} (h : Dr w w') : Fr w w' := by
  obtain ⟨m, rfl⟩ := h; exact (Fr.refl _).drewN _
theorem Dr.trans {a b c : World} (h : Dr a b) (k : Dr b c) : Dr a c := by
  obtain ⟨m, rfl⟩ := k; exact h.drewN m
abbrev Any : Nat → Prop := fun _ => True
/-- A list of numbers of 16 bits that can be read. -/
def Rd16 (w : World) (v : Value) (l : List Nat) : Prop := SlAt w Any v l.length (u16Cells l)
theorem Rd16.keep {w w' : World} {v : Value} {l : List Nat} (h : Rd16 w v l) (f : Fr w w') : Rd16 w' v l := SlAt.fr h f
theorem SlAt.at {w : World} {Z : Nat → Prop} {a : Option Addr} {n cap : Nat} {xs : List Value} (h : xs = [] ∨ ∃ b off, a = some ⟨b, off, none⟩ ∧ Z b ∧ b < w.heap.size ∧ ∀ j u, xs[j]? = some u → w.cell? ⟨b, off + j, none⟩ = some u) (hne : xs ≠ []) : ∃ b off, a = some ⟨b, off, none⟩ ∧ b < w.heap.size ∧ ∀ j u, xs[j]? = some u → w.cell? ⟨b, off + j, none⟩ = some u := by
  rcases h with h | ⟨b, off, h1, _, h2, h3⟩
  · exact absurd h hne
  · exact ⟨b, off, h1, h2, h3⟩
theorem take_next {α : Type} {l m : List α} {k : Nat} (h : l.take k = m.take k) (hl : k < l.length) (hm : k < m.length) (he : l[k] = m[k]) : l.take (k + 1) = m.take (k + 1) := by
  rw [List.take_succ_eq_append_getElem hl, List.take_succ_eq_append_getElem hm, h, he]
theorem ne_at {α : Type} {l m : List α} {k : Nat} (hl : k < l.length) (hm : k < m.length) (he : ¬ l[k] = m[k]) : ¬ l = m := by
  intro h; subst h; exact he rfl
theorem eq_all {α : Type} {l m : List α} {k : Nat} (h : l.take k = m.take k) (hl : ¬ k < l.length) (hlen : l.length = m.length) : l = m := by
  rw [List.take_of_length_le (by omega), List.take_of_length_le (by omega)] at h; exact h

/-- A micro-operation. -/
structure Mic where
  read : Bool
  key : Nat
  v : Nat
  deriving DecidableEq
def Mic.cells (m : Mic) : List Value := [.bool m.read, .int .u8 m.key, .int .u16 m.v]
def Mic.val (m : Mic) : Value := .agg #[.bool m.read, .int .u8 m.key, .int .u16 m.v]
def micCells (l : List Mic) : List Value := l.flatMap Mic.cells
theorem micCells_at : ∀ (l : List Mic) (k : Nat) (h : k < l.length), (micCells l)[k * 3]? = some (.bool l[k].read) ∧ (micCells l)[k * 3 + 1]? = some (.int .u8 l[k].key) ∧ (micCells l)[k * 3 + 2]? = some (.int .u16 l[k].v)
  | m :: l, 0, _ => by simp [micCells, Mic.cells]
  | m :: l, k + 1, h => by
    have ih := micCells_at l k (by simpa using h)
    have e : (k + 1) * 3 = k * 3 + 1 + 1 + 1 := by omega
    simp only [micCells, List.flatMap_cons, Mic.cells, List.cons_append, List.nil_append, e, List.getElem?_cons_succ, List.getElem_cons_succ] at ih ⊢
    exact ih
/-- A list of micros that can be read. -/
def RdM (w : World) (v : Value) (l : List Mic) : Prop := SlAt w Any v l.length (micCells l)
theorem RdM.keep {w w' : World} {v : Value} {l : List Mic} (h : RdM w v l) (f : Fr w w') : RdM w' v l := SlAt.fr h f
theorem mic_ne_nil {l : List Mic} {k : Nat} (h : k < l.length) : micCells l ≠ [] := by
  intro e
  have := (micCells_at l k h).1
  rw [e] at this; simp at this
theorem micAt {w wr : World} {b o k : Nat} {l : List Mic} (hfr : Fr w wr) (hc : ∀ j u, (micCells l)[j]? = some u → w.cell? ⟨b, o + j, none⟩ = some u) (h : k < l.length) : wr.cell? ⟨b, o + k * 3, none⟩ = some (.bool l[k].read) ∧ wr.cell? ⟨b, o + k * 3 + 1, none⟩ = some (.int .u8 l[k].key) ∧ wr.cell? ⟨b, o + k * 3 + 2, none⟩ = some (.int .u16 l[k].v) := by
  obtain ⟨h1, h2, h3⟩ := micCells_at l k h
  exact ⟨hfr.keep (hc _ _ h1), hfr.keep (hc _ _ h2), hfr.keep (hc _ _ h3)⟩
-- GENERATED BELOW (gen_same.py)
end Go.Proofs.YthaocbmkkgeomaaDoor

/- What a row's list, and the shape of the memory at the start, give the walks: the errors' variables, an open variable. -/
namespace Go.Proofs.YthaocbmkkgeomaaDoor
open Go.ChangeShapes Go.WideShapes Go.RowKit

theorem iface_of {H : Type} {enc : TypeId × Value → H} {P : Program} {w : World} {base : Nat} {sp : Nat → Bool} {t : TypeId} {ms : Array (String × TypeId)} {fuel : Nat} {cs : List Value} {n : String} {d : DataW H} {p : List MemPlace} (ht : P.underlying t = some (.interface ms))
    (h : DataW.trod enc P w base sp false fuel t cs = some (.iface n d, p)) : ∃ te pe, cs = [.iface te pe] := by
  cases fuel with
  | zero => simp [DataW.trod] at h
  | succ m =>
    match cs, h with
    | [], h => simp [DataW.trod, ht] at h
    | [v], h => cases v <;> simp [DataW.trod, ht] at h ⊢
    | _ :: _ :: _, h => simp [DataW.trod, ht] at h
theorem maxl_of {W : World} (h : W.ShapedOpen Tryd.prog) : ∃ m, W.cell? ⟨2, 0, none⟩ = some (.int .i64 m) := Go.Proofs.cell_of_shapedOpen_int (zero := #[.int .i64 0]) (t := 3) h (of_decide_eq_true (by kernel_rfl)) (by kernel_rfl) rfl (by kernel_rfl) (by kernel_rfl) Tryd.underlying3
theorem err_of {l : List (String × DataW Unit)} {W : World} (n : String) (g : Nat) (t : TypeId) (ms : Array (String × TypeId)) (k : String) (d : DataW Unit) (h : laidMetH Tryd.prog l W) (hl : l.filter (fun x => x.1 == n) = [(n, .iface k d)]) (hn : (DataW.iface k d).handleName? = none)
    (hg : Tryd.prog.globalNamed n = some g) (ht : (Tryd.prog.globals[g]?).map (·.type) = some t) (hu : Tryd.prog.underlying t = some (.interface ms)) : ∃ te pe, W.cell? ⟨g, 0, none⟩ = some (.iface te pe) := by
  obtain ⟨g', t', cs, fuel, p, hg', ht', hv, hd⟩ := laid_one h _ _ hl hn
  obtain rfl := Option.some.inj (hg.symm.trans hg')
  obtain rfl := Option.some.inj (ht.symm.trans ht')
  obtain ⟨te, pe, hc⟩ := iface_of hu hd
  have hcs : cs = #[.iface te pe] := by cases cs; simp_all
  subst hcs
  exact ⟨te, pe, by simpa using World.var?_cell hg hv 0⟩
theorem errS_of {l : List (String × DataW Unit)} {W : World} (h : laidMetH Tryd.prog l W) (hl : l.filter (fun x => x.1 == "strconv.ErrSyntax") = [("strconv.ErrSyntax", Rows.laid_strconv_ErrSyntax)]) : ∃ te pe, W.cell? ⟨3, 0, none⟩ = some (.iface te pe) := err_of "strconv.ErrSyntax" 3 110 _ _ _ h hl (by rfl) (by kernel_rfl) (by kernel_rfl) Tryd.underlying110
theorem errR_of {l : List (String × DataW Unit)} {W : World} (h : laidMetH Tryd.prog l W) (hl : l.filter (fun x => x.1 == "strconv.ErrRange") = [("strconv.ErrRange", Rows.laid_strconv_ErrRange)]) : ∃ te pe, W.cell? ⟨4, 0, none⟩ = some (.iface te pe) := err_of "strconv.ErrRange" 4 110 _ _ _ h hl (by rfl) (by kernel_rfl) (by kernel_rfl) Tryd.underlying110
end Go.Proofs.YthaocbmkkgeomaaDoor
