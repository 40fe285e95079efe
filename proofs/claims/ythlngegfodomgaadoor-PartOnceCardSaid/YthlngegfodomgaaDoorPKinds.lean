/- What a row's list gives the walks: the table of kinds, the powers of ten. -/
import Derived.Test.YthlngegfodomgaaDoorPBase
import Derived.OpenShut
import Derived.MakeChecks
import Derived.Lib.LaidTab
import Derived.LaidSub
import Derived.Shelf.Vars
set_option linter.all false
set_option linter.unusedVariables false
set_option linter.unusedSimpArgs false
set_option linter.unnecessarySimpa false
/- What a row's list gives the walks: the table of kinds, the powers of ten. -/
namespace Go.Proofs.YthlngegfodomgaaDoor
open Go.ChangeShapes Go.WideShapes Go.RowKit

theorem at_of_take {cs : List Value} {a b : Nat} {v : Value} (h : (cs.drop a).take 1 = [v]) (hb : b = a) : cs[b]? = some v := by
  subst hb
  have := congrArg (·[0]?) h
  simpa [List.getElem?_take, List.getElem?_drop] using this

def rowD {H : Type} (f : Int) : DataW H := .agg [.lit (.int .u8 (kModel f)), .lit (.string (kName f)), .lit (.int .u8 (kNeeds f))]
theorem cellsKinds : Tryd.prog.cellsOf 97 = 36 := by kernel_rfl
theorem cellsKind : Tryd.prog.cellsOf 80 = 3 := by kernel_rfl
theorem rowD_at {H : Type} (i : Nat) (h0 : 1 ≤ i) (h1 : i ≤ 11) : ∃ l : List (DataW H), Rows.laid_umpire_op_kinds = DataW.agg l ∧ l[i]? = some (rowD i) := by
  refine ⟨_, rfl, ?_⟩
  rcases (show i = 1 ∨ i = 2 ∨ i = 3 ∨ i = 4 ∨ i = 5 ∨ i = 6 ∨ i = 7 ∨ i = 8 ∨ i = 9 ∨ i = 10 ∨ i = 11 by omega) with rfl | rfl | rfl | rfl | rfl | rfl | rfl | rfl | rfl | rfl | rfl <;> rfl

theorem kinds_cells {H : Type} {enc : TypeId × Value → H} {w : World} {base : Nat} {sp : Nat → Bool} {held : Bool} {fuel : Nat} {cs : List Value} {p : List MemPlace}
    (h : DataW.trod enc Tryd.prog w base sp held fuel 97 cs = some (Rows.laid_umpire_op_kinds, p)) (i : Nat) (h0 : 1 ≤ i) (h1 : i ≤ 11) :
    cs[i * 3]? = some (.int .u8 (kModel i)) ∧ cs[i * 3 + 1]? = some (.string ⟨(kName i).toArray⟩) ∧ cs[i * 3 + 2]? = some (.int .u8 (kNeeds i)) := by
  obtain ⟨l, hl, hi⟩ := rowD_at (H := H) i h0 h1
  obtain ⟨xs, m, _, hx, hlen, hn, hel⟩ := DataW.trod_array Tryd.underlying97 h
  simp only [Prod.mk.injEq] at hx
  rw [hl] at hx
  have hx1 := DataW.agg.inj hx.1
  have hxi : ∃ q, xs[i]? = some (rowD i, q) := by
    rw [hx1] at hi
    simp only [List.getElem?_map, Option.map_eq_some_iff] at hi
    obtain ⟨⟨a, q⟩, ha, rfl⟩ := hi
    exact ⟨q, ha⟩
  obtain ⟨q, hq⟩ := hxi
  have he := hel i (by omega)
  rw [hq, cellsKind] at he
  obtain ⟨ys, n, _, hy, hyl, hyn, hf⟩ := DataW.trod_struct Tryd.underlying80 he
  match ys, hyn with
  | [y0, y1, y2], _ =>
    simp only [Prod.mk.injEq, rowD, List.map_cons, List.map_nil, DataW.agg.injEq, List.cons.injEq, and_true] at hy
    obtain ⟨⟨e0, e1, e2⟩, _⟩ := hy
    have c1 : Tryd.prog.cellsOf 5 = 1 := by kernel_rfl
    have c9 : Tryd.prog.cellsOf 9 = 1 := by kernel_rfl
    have f0 : DataW.trod enc Tryd.prog w base sp held n 5 ((((cs.drop (i * 3)).take 3).drop 0).take (Tryd.prog.cellsOf 5)) = some y0 := hf 0 _ rfl
    have f1 : DataW.trod enc Tryd.prog w base sp held n 9 ((((cs.drop (i * 3)).take 3).drop 1).take (Tryd.prog.cellsOf 9)) = some y1 := hf 1 _ rfl
    have f2 : DataW.trod enc Tryd.prog w base sp held n 5 ((((cs.drop (i * 3)).take 3).drop 2).take (Tryd.prog.cellsOf 5)) = some y2 := hf 2 _ rfl
    rw [c1] at f0 f2
    rw [c9] at f1
    obtain ⟨n0, t0, u0, _⟩ := DataW.trod_int Tryd.underlying5 f0
    obtain ⟨n1, t1, u1, _⟩ := DataW.trod_string Tryd.underlying9 f1
    obtain ⟨n2, t2, u2, _⟩ := DataW.trod_int Tryd.underlying5 f2
    subst u0 u1 u2
    simp only [DataW.lit.injEq, Lit.int.injEq, Lit.string.injEq, true_and] at e0 e1 e2
    subst e0 e2
    refine ⟨at_of_take (a := i * 3) ?_ rfl, ?_, at_of_take (a := i * 3 + 2) ?_ rfl⟩
    · simpa [List.drop_take, List.take_take] using t0
    · rw [e1]
      exact at_of_take (a := i * 3 + 1) (by simpa [List.drop_take, List.take_take] using t1) rfl
    · simpa [List.drop_take, List.take_take] using t2
theorem kindsAt {w : World} {cs : Array Value} (hv : w.var? Tryd.prog "umpire/op.kinds" = some cs) (h : ∀ i, 1 ≤ i → i ≤ 11 → cs.toList[i * 3]? = some (.int .u8 (kModel i)) ∧ cs.toList[i * 3 + 1]? = some (.string ⟨(kName i).toArray⟩) ∧ cs.toList[i * 3 + 2]? = some (.int .u8 (kNeeds i))) : KindsAt w := by
  have hg : Tryd.prog.globalNamed "umpire/op.kinds" = some 0 := by kernel_rfl
  have hc : ∀ j v, cs.toList[j]? = some v → w.cell? ⟨0, j, none⟩ = some v := fun j v hj => (World.var?_cell hg hv j).trans (by simpa using hj)
  exact ⟨fun i h0 h1 => hc _ _ (h i h0 h1).1, fun i h0 h1 => hc _ _ (h i h0 h1).2.1, fun i h0 h1 => hc _ _ (h i h0 h1).2.2⟩
/-- One listed variable's datum, as the walk wants it. -/
theorem laid_one {l : List (String × DataW Unit)} {W : World} (h : laidMetH Tryd.prog l W) (n : String) (d : DataW Unit) (hl : l.filter (fun x => x.1 == n) = [(n, d)]) (hp : d.handleName? = none) :
    ∃ g t cs fuel p, Tryd.prog.globalNamed n = some g ∧ (Tryd.prog.globals[g]?).map (·.type) = some t ∧ W.var? Tryd.prog n = some cs ∧ DataW.trod (fun _ => ()) Tryd.prog W 0 (fun _ => true) false fuel t cs.toList = some (d, p) := by
  have h' := laidMetH.filter (fun x => x.1 == n) h
  rw [hl] at h'
  rw [MakeChecks.laidMetH_plain _ _ _ (by simp [hp])] at h'
  obtain ⟨ps, ⟨g, t, cs, fuel, p, q, hg, ht, hvar, hd, _, _⟩, _⟩ := h'
  exact ⟨g, t, cs, fuel, p, hg, ht, hvar, hd⟩
theorem kinds_of {l : List (String × DataW Unit)} {W : World} (h : laidMetH Tryd.prog l W) (hl : l.filter (fun x => x.1 == "umpire/op.kinds") = [("umpire/op.kinds", Rows.laid_umpire_op_kinds)]) : KindsAt W := by
  obtain ⟨g, t, cs, fuel, p, hg, ht, hv, hd⟩ := laid_one h _ _ hl rfl
  obtain rfl := Option.some.inj ((show Tryd.prog.globalNamed "umpire/op.kinds" = some 0 by kernel_rfl).symm.trans hg)
  obtain rfl := Option.some.inj ((show (Tryd.prog.globals[0]?).map (·.type) = some 97 by kernel_rfl).symm.trans ht)
  exact kindsAt hv fun i h0 h1 => kinds_cells hd i h0 h1
theorem pow10_of {l : List (String × DataW Unit)} {W : World} (h : laidMetH Tryd.prog l W) (hl : l.filter (fun x => x.1 == "internal/strconv.uint64pow10") = [("internal/strconv.uint64pow10", Rows.laid_internal_strconv_uint64pow10)]) :
    Lib.TabIs Tryd.prog W "internal/strconv.uint64pow10" .u64 Lib.pow10Tab ∧ 1 < W.heap.size := by
  obtain ⟨g, t, cs, fuel, p, hg, ht, hv, hd⟩ := laid_one h _ _ hl rfl
  obtain rfl := Option.some.inj ((show Tryd.prog.globalNamed "internal/strconv.uint64pow10" = some 1 by kernel_rfl).symm.trans hg)
  obtain rfl := Option.some.inj ((show (Tryd.prog.globals[1]?).map (·.type) = some 111 by kernel_rfl).symm.trans ht)
  have hc : cs.toList = Lib.pow10Tab.map fun z => Value.int .u64 z := Lib.cells_of_tab (zs := Lib.pow10Tab) Tryd.underlying111 Tryd.underlying96 (by kernel_rfl) (by kernel_rfl) (by rw [hd]; rfl)
  have hcs : cs = (Lib.pow10Tab.map fun z => Value.int .u64 z).toArray := by rw [← hc]
  refine ⟨by unfold Lib.TabIs; rw [hv, hcs], ?_⟩
  refine lt_of_cell (a := ⟨1, 0, none⟩) (v := .int .u64 1) ((World.var?_cell hg hv 0).trans ?_)
  rw [hcs]; rfl
end Go.Proofs.YthlngegfodomgaaDoor

/- What a row's list, and the shape of the memory at the start, give the walks: the errors' variables, an open variable. -/
namespace Go.Proofs.YthlngegfodomgaaDoor
open Go.ChangeShapes Go.WideShapes Go.RowKit

theorem iface_of {H : Type} {enc : TypeId × Value → H} {P : Program} {w : World} {base : Nat} {sp : Nat → Bool} {t : TypeId} {ms : Array (String × TypeId)} {fuel : Nat} {cs : List Value} {n : String} {d : DataW H} {p : List MemPlace} (ht : P.underlying t = some (.interface ms))
    (h : DataW.trod enc P w base sp false fuel t cs = some (.iface n d, p)) : ∃ te pe, cs = [.iface te pe] := by
  cases fuel with
  | zero => simp [DataW.trod] at h
  | succ m =>
    match cs, h with
    | [], h => simp [DataW.trod, ht] at h
    | [v], h => cases v <;> simp [DataW.trod, ht] at h ⊢
    | _ :: _ :: _, h => simp [DataW.trod, ht] at h
theorem err_of {l : List (String × DataW Unit)} {W : World} (n : String) (g : Nat) (t : TypeId) (ms : Array (String × TypeId)) (k : String) (d : DataW Unit) (h : laidMetH Tryd.prog l W) (hl : l.filter (fun x => x.1 == n) = [(n, .iface k d)]) (hn : (DataW.iface k d).handleName? = none)
    (hg : Tryd.prog.globalNamed n = some g) (ht : (Tryd.prog.globals[g]?).map (·.type) = some t) (hu : Tryd.prog.underlying t = some (.interface ms)) : ∃ te pe, W.cell? ⟨g, 0, none⟩ = some (.iface te pe) := by
  obtain ⟨g', t', cs, fuel, p, hg', ht', hv, hd⟩ := laid_one h _ _ hl hn
  obtain rfl := Option.some.inj (hg.symm.trans hg')
  obtain rfl := Option.some.inj (ht.symm.trans ht')
  obtain ⟨te, pe, hc⟩ := iface_of hu hd
  have hcs : cs = #[.iface te pe] := by cases cs; simp_all
  subst hcs
  exact ⟨te, pe, by simpa using World.var?_cell hg hv 0⟩
end Go.Proofs.YthlngegfodomgaaDoor
