/- What a row's list gives the walks: the table of kinds, the powers of ten. -/
import Derived.Test.YtfklgaeejmeipaaGreatDoorPBase
import Derived.OpenShut
import Derived.MakeChecks
import Derived.Lib.LaidTab
import Derived.LaidSub
import Derived.Shelf.Vars
set_option linter.all false
set_option linter.unusedVariables false
set_option linter.unusedSimpArgs false
set_option linter.unnecessarySimpa false
/- What a row's list gives the walks: the table of kinds, the powers of ten. -/
namespace Go.Proofs.YtfklgaeejmeipaaGreatDoor
open Go.ChangeShapes Go.WideShapes Go.RowKit

theorem at_of_take {cs : List Value} {a b : Nat} {v : Value} (h : (cs.drop a).take 1 = [v]) (hb : b = a) : cs[b]? = some v := by
  subst hb
  have := congrArg (·[0]?) h
  simpa [List.getElem?_take, List.getElem?_drop] using this

def rowD {H : Type} (f : Int) : DataW H := .agg [.lit (.int .u8 (kModel f)), .lit (.string (kName f)), .lit (.int .u8 (kNeeds f))]
theorem cellsKinds : Tryz.prog.cellsOf 121 = 36 := by kernel_rfl
theorem cellsKind : Tryz.prog.cellsOf 120 = 3 := by kernel_rfl
theorem rowD_at {H : Type} (i : Nat) (h0 : 1 ≤ i) (h1 : i ≤ 11) : ∃ l : List (DataW H), Rows.laid_umpire_op_kinds = DataW.agg l ∧ l[i]? = some (rowD i) := by
  refine ⟨_, rfl, ?_⟩
  rcases (show i = 1 ∨ i = 2 ∨ i = 3 ∨ i = 4 ∨ i = 5 ∨ i = 6 ∨ i = 7 ∨ i = 8 ∨ i = 9 ∨ i = 10 ∨ i = 11 by omega) with rfl | rfl | rfl | rfl | rfl | rfl | rfl | rfl | rfl | rfl | rfl <;> rfl

theorem kinds_cells {H : Type} {enc : TypeId × Value → H} {w : World} {base : Nat} {sp : Nat → Bool} {held : Bool} {fuel : Nat} {cs : List Value} {p : List MemPlace}
    (h : DataW.trod enc Tryz.prog w base sp held fuel 121 cs = some (Rows.laid_umpire_op_kinds, p)) (i : Nat) (h0 : 1 ≤ i) (h1 : i ≤ 11) :
    cs[i * 3]? = some (.int .u8 (kModel i)) ∧ cs[i * 3 + 1]? = some (.string ⟨(kName i).toArray⟩) ∧ cs[i * 3 + 2]? = some (.int .u8 (kNeeds i)) := by
  obtain ⟨l, hl, hi⟩ := rowD_at (H := H) i h0 h1
  obtain ⟨xs, m, _, hx, hlen, hn, hel⟩ := DataW.trod_array Tryz.underlying121 h
  simp only [Prod.mk.injEq] at hx
  rw [hl] at hx
  have hx1 := DataW.agg.inj hx.1
  have hxi : ∃ q, xs[i]? = some (rowD i, q) := by
    rw [hx1] at hi
    simp only [List.getElem?_map, Option.map_eq_some_iff] at hi
    obtain ⟨⟨a, q⟩, ha, rfl⟩ := hi
    exact ⟨q, ha⟩
  obtain ⟨q, hq⟩ := hxi
  have he := hel i (by omega)
  rw [hq, cellsKind] at he
  obtain ⟨ys, n, _, hy, hyl, hyn, hf⟩ := DataW.trod_struct Tryz.underlying120 he
  match ys, hyn with
  | [y0, y1, y2], _ =>
    simp only [Prod.mk.injEq, rowD, List.map_cons, List.map_nil, DataW.agg.injEq, List.cons.injEq, and_true] at hy
    obtain ⟨⟨e0, e1, e2⟩, _⟩ := hy
    have c1 : Tryz.prog.cellsOf 5 = 1 := by kernel_rfl
    have c9 : Tryz.prog.cellsOf 9 = 1 := by kernel_rfl
    have f0 : DataW.trod enc Tryz.prog w base sp held n 5 ((((cs.drop (i * 3)).take 3).drop 0).take (Tryz.prog.cellsOf 5)) = some y0 := hf 0 _ rfl
    have f1 : DataW.trod enc Tryz.prog w base sp held n 9 ((((cs.drop (i * 3)).take 3).drop 1).take (Tryz.prog.cellsOf 9)) = some y1 := hf 1 _ rfl
    have f2 : DataW.trod enc Tryz.prog w base sp held n 5 ((((cs.drop (i * 3)).take 3).drop 2).take (Tryz.prog.cellsOf 5)) = some y2 := hf 2 _ rfl
    rw [c1] at f0 f2
    rw [c9] at f1
    obtain ⟨n0, t0, u0, _⟩ := DataW.trod_int Tryz.underlying5 f0
    obtain ⟨n1, t1, u1, _⟩ := DataW.trod_string Tryz.underlying9 f1
    obtain ⟨n2, t2, u2, _⟩ := DataW.trod_int Tryz.underlying5 f2
    subst u0 u1 u2
    simp only [DataW.lit.injEq, Lit.int.injEq, Lit.string.injEq, true_and] at e0 e1 e2
    subst e0 e2
    refine ⟨at_of_take (a := i * 3) ?_ rfl, ?_, at_of_take (a := i * 3 + 2) ?_ rfl⟩
    · simpa [List.drop_take, List.take_take] using t0
    · rw [e1]
      exact at_of_take (a := i * 3 + 1) (by simpa [List.drop_take, List.take_take] using t1) rfl
    · simpa [List.drop_take, List.take_take] using t2
theorem kindsAt {w : World} {cs : Array Value} (hv : w.var? Tryz.prog "umpire/op.kinds" = some cs) (h : ∀ i, 1 ≤ i → i ≤ 11 → cs.toList[i * 3]? = some (.int .u8 (kModel i)) ∧ cs.toList[i * 3 + 1]? = some (.string ⟨(kName i).toArray⟩) ∧ cs.toList[i * 3 + 2]? = some (.int .u8 (kNeeds i))) : KindsAt w := by
  have hg : Tryz.prog.globalNamed "umpire/op.kinds" = some 2 := by kernel_rfl
  have hc : ∀ j v, cs.toList[j]? = some v → w.cell? ⟨2, j, none⟩ = some v := fun j v hj => (World.var?_cell hg hv j).trans (by simpa using hj)
  exact ⟨fun i h0 h1 => hc _ _ (h i h0 h1).1, fun i h0 h1 => hc _ _ (h i h0 h1).2.1, fun i h0 h1 => hc _ _ (h i h0 h1).2.2⟩
/-- One listed variable's datum, as the walk wants it. -/
theorem laid_one {l : List (String × DataW Unit)} {W : World} (h : laidMetH Tryz.prog l W) (n : String) (d : DataW Unit) (hl : l.filter (fun x => x.1 == n) = [(n, d)]) (hp : d.handleName? = none) :
    ∃ g t cs fuel p, Tryz.prog.globalNamed n = some g ∧ (Tryz.prog.globals[g]?).map (·.type) = some t ∧ W.var? Tryz.prog n = some cs ∧ DataW.trod (fun _ => ()) Tryz.prog W 0 (fun _ => true) false fuel t cs.toList = some (d, p) := by
  have h' := laidMetH.filter (fun x => x.1 == n) h
  rw [hl] at h'
  rw [MakeChecks.laidMetH_plain _ _ _ (by simp [hp])] at h'
  obtain ⟨ps, ⟨g, t, cs, fuel, p, q, hg, ht, hvar, hd, _, _⟩, _⟩ := h'
  exact ⟨g, t, cs, fuel, p, hg, ht, hvar, hd⟩
theorem kinds_of {l : List (String × DataW Unit)} {W : World} (h : laidMetH Tryz.prog l W) (hl : l.filter (fun x => x.1 == "umpire/op.kinds") = [("umpire/op.kinds", Rows.laid_umpire_op_kinds)]) : KindsAt W := by
  obtain ⟨g, t, cs, fuel, p, hg, ht, hv, hd⟩ := laid_one h _ _ hl rfl
  obtain rfl := Option.some.inj ((show Tryz.prog.globalNamed "umpire/op.kinds" = some 2 by kernel_rfl).symm.trans hg)
  obtain rfl := Option.some.inj ((show (Tryz.prog.globals[2]?).map (·.type) = some 121 by kernel_rfl).symm.trans ht)
  exact kindsAt hv fun i h0 h1 => kinds_cells hd i h0 h1
theorem pow10_of {l : List (String × DataW Unit)} {W : World} (h : laidMetH Tryz.prog l W) (hl : l.filter (fun x => x.1 == "internal/strconv.uint64pow10") = [("internal/strconv.uint64pow10", Rows.laid_internal_strconv_uint64pow10)]) :
    Lib.TabIs Tryz.prog W "internal/strconv.uint64pow10" .u64 Lib.pow10Tab ∧ 7 < W.heap.size := by
  obtain ⟨g, t, cs, fuel, p, hg, ht, hv, hd⟩ := laid_one h _ _ hl rfl
  obtain rfl := Option.some.inj ((show Tryz.prog.globalNamed "internal/strconv.uint64pow10" = some 7 by kernel_rfl).symm.trans hg)
  obtain rfl := Option.some.inj ((show (Tryz.prog.globals[7]?).map (·.type) = some 219 by kernel_rfl).symm.trans ht)
  have hc : cs.toList = Lib.pow10Tab.map fun z => Value.int .u64 z := Lib.cells_of_tab (zs := Lib.pow10Tab) Tryz.underlying219 Tryz.underlying161 (by kernel_rfl) (by kernel_rfl) (by rw [hd]; rfl)
  have hcs : cs = (Lib.pow10Tab.map fun z => Value.int .u64 z).toArray := by rw [← hc]
  refine ⟨by unfold Lib.TabIs; rw [hv, hcs], ?_⟩
  refine lt_of_cell (a := ⟨7, 0, none⟩) (v := .int .u64 1) ((World.var?_cell hg hv 0).trans ?_)
  rw [hcs]; rfl
end Go.Proofs.YtfklgaeejmeipaaGreatDoor

/- What a row's list gives of result.words. No condition beyond what each says. -/
namespace Go.Proofs.YtfklgaeejmeipaaGreatDoor
open Go.ChangeShapes Go.WideShapes Go.RowKit

/-- The tables of layer 3, as they stand in a world. -/
structure EnvR (w : World) : Prop extends Env0 w where
  words : ∀ K : Nat, K < 5 → w.cell? ⟨3, K, none⟩ = some (.string ⟨(resWord K).toArray⟩)
theorem EnvR.keep {a w : World} (h : EnvR a) (f : Fr a w) : EnvR w := { toEnv0 := h.toEnv0.keep f, words := fun K hK => f.keep (h.words K hK) }
theorem cellsWords : Tryz.prog.cellsOf 117 = 5 := by kernel_rfl
theorem wordD_at {H : Type} (i : Nat) (h1 : i < 5) : ∃ l : List (DataW H), Rows.laid_umpire_result_words = DataW.agg l ∧ l[i]? = some (.lit (.string (resWord i))) := by
  refine ⟨_, rfl, ?_⟩
  rcases (show i = 0 ∨ i = 1 ∨ i = 2 ∨ i = 3 ∨ i = 4 by omega) with rfl | rfl | rfl | rfl | rfl <;> rfl
theorem words_cells {H : Type} {enc : TypeId × Value → H} {w : World} {base : Nat} {sp : Nat → Bool} {held : Bool} {fuel : Nat} {cs : List Value} {p : List MemPlace}
    (h : DataW.trod enc Tryz.prog w base sp held fuel 117 cs = some (Rows.laid_umpire_result_words, p)) (i : Nat) (h1 : i < 5) :
    cs[i]? = some (.string ⟨(resWord i).toArray⟩) := by
  obtain ⟨l, hl, hi⟩ := wordD_at (H := H) i h1
  obtain ⟨xs, m, _, hx, hlen, hn, hel⟩ := DataW.trod_array Tryz.underlying117 h
  simp only [Prod.mk.injEq] at hx
  rw [hl] at hx
  have hx1 := DataW.agg.inj hx.1
  have hxi : ∃ q, xs[i]? = some (.lit (.string (resWord i)), q) := by
    rw [hx1] at hi
    simp only [List.getElem?_map, Option.map_eq_some_iff] at hi
    obtain ⟨⟨a, q⟩, ha, rfl⟩ := hi
    exact ⟨q, ha⟩
  obtain ⟨q, hq⟩ := hxi
  have he := hel i (by omega)
  rw [hq, show Tryz.prog.cellsOf 9 = 1 by kernel_rfl] at he
  obtain ⟨n1, t1, u1, _⟩ := DataW.trod_string Tryz.underlying9 he
  simp only [Prod.mk.injEq, DataW.lit.injEq, Lit.string.injEq] at u1
  rw [u1.1]
  exact at_of_take (a := i * 1) t1 (by omega)
theorem words_of {l : List (String × DataW Unit)} {W : World} (h : laidMetH Tryz.prog l W) (hl : l.filter (fun x => x.1 == "umpire/result.words") = [("umpire/result.words", Rows.laid_umpire_result_words)]) : ∀ K : Nat, K < 5 → W.cell? ⟨3, K, none⟩ = some (.string ⟨(resWord K).toArray⟩) := by
  obtain ⟨g, t, cs, fuel, p, hg, ht, hv, hd⟩ := laid_one h _ _ hl rfl
  obtain rfl := Option.some.inj ((show Tryz.prog.globalNamed "umpire/result.words" = some 3 by kernel_rfl).symm.trans hg)
  obtain rfl := Option.some.inj ((show (Tryz.prog.globals[3]?).map (·.type) = some 117 by kernel_rfl).symm.trans ht)
  intro K hK
  exact (World.var?_cell hg hv K).trans (by simpa using words_cells hd K hK)
end Go.Proofs.YtfklgaeejmeipaaGreatDoor

/- What a row's list, and the shape of the memory at the start, give the walks: the errors' variables, an open variable. -/
namespace Go.Proofs.YtfklgaeejmeipaaGreatDoor
open Go.ChangeShapes Go.WideShapes Go.RowKit

theorem iface_of {H : Type} {enc : TypeId × Value → H} {P : Program} {w : World} {base : Nat} {sp : Nat → Bool} {t : TypeId} {ms : Array (String × TypeId)} {fuel : Nat} {cs : List Value} {n : String} {d : DataW H} {p : List MemPlace} (ht : P.underlying t = some (.interface ms))
    (h : DataW.trod enc P w base sp false fuel t cs = some (.iface n d, p)) : ∃ te pe, cs = [.iface te pe] := by
  cases fuel with
  | zero => simp [DataW.trod] at h
  | succ m =>
    match cs, h with
    | [], h => simp [DataW.trod, ht] at h
    | [v], h => cases v <;> simp [DataW.trod, ht] at h ⊢
    | _ :: _ :: _, h => simp [DataW.trod, ht] at h
theorem maxl_of {W : World} (h : W.ShapedOpen Tryz.prog) : ∃ m, W.cell? ⟨4, 0, none⟩ = some (.int .i64 m) := Go.Proofs.cell_of_shapedOpen_int (zero := #[.int .i64 0]) (t := 3) h (of_decide_eq_true (by kernel_rfl)) (by kernel_rfl) rfl (by kernel_rfl) (by kernel_rfl) Tryz.underlying3
theorem err_of {l : List (String × DataW Unit)} {W : World} (n : String) (g : Nat) (t : TypeId) (ms : Array (String × TypeId)) (k : String) (d : DataW Unit) (h : laidMetH Tryz.prog l W) (hl : l.filter (fun x => x.1 == n) = [(n, .iface k d)]) (hn : (DataW.iface k d).handleName? = none)
    (hg : Tryz.prog.globalNamed n = some g) (ht : (Tryz.prog.globals[g]?).map (·.type) = some t) (hu : Tryz.prog.underlying t = some (.interface ms)) : ∃ te pe, W.cell? ⟨g, 0, none⟩ = some (.iface te pe) := by
  obtain ⟨g', t', cs, fuel, p, hg', ht', hv, hd⟩ := laid_one h _ _ hl hn
  obtain rfl := Option.some.inj (hg.symm.trans hg')
  obtain rfl := Option.some.inj (ht.symm.trans ht')
  obtain ⟨te, pe, hc⟩ := iface_of hu hd
  have hcs : cs = #[.iface te pe] := by cases cs; simp_all
  subst hcs
  exact ⟨te, pe, by simpa using World.var?_cell hg hv 0⟩
theorem errS_of {l : List (String × DataW Unit)} {W : World} (h : laidMetH Tryz.prog l W) (hl : l.filter (fun x => x.1 == "strconv.ErrSyntax") = [("strconv.ErrSyntax", Rows.laid_strconv_ErrSyntax)]) : ∃ te pe, W.cell? ⟨8, 0, none⟩ = some (.iface te pe) := err_of "strconv.ErrSyntax" 8 111 _ _ _ h hl (by rfl) (by kernel_rfl) (by kernel_rfl) Tryz.underlying111
theorem errR_of {l : List (String × DataW Unit)} {W : World} (h : laidMetH Tryz.prog l W) (hl : l.filter (fun x => x.1 == "strconv.ErrRange") = [("strconv.ErrRange", Rows.laid_strconv_ErrRange)]) : ∃ te pe, W.cell? ⟨9, 0, none⟩ = some (.iface te pe) := err_of "strconv.ErrRange" 9 111 _ _ _ h hl (by rfl) (by kernel_rfl) (by kernel_rfl) Tryz.underlying111
end Go.Proofs.YtfklgaeejmeipaaGreatDoor
