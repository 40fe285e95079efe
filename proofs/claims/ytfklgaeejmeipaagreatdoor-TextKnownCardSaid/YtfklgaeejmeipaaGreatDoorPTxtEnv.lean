/- What a row's list gives of text.kinds and text.models, and the tables of layer 6 as they stand in a world. No condition beyond what each says. -/
import Derived.Test.YtfklgaeejmeipaaGreatDoorPTxtP
import Derived.Test.YtfklgaeejmeipaaGreatDoorPKinds
set_option linter.all false
set_option linter.unusedVariables false
set_option linter.unusedSimpArgs false
set_option linter.unnecessarySimpa false
/- What a row's list gives of text.kinds and text.models, and the tables of layer 6 as they stand in a world. No condition beyond what each says. -/
namespace Go.Proofs.YtfklgaeejmeipaaGreatDoor
open Go.ChangeShapes Go.WideShapes Go.RowKit

/-- The tables of layer 6, as they stand in a world. -/
structure EnvT (w : World) : Prop extends Env w where
  words : ∀ K : Nat, K < 5 → w.cell? ⟨3, K, none⟩ = some (.string ⟨(resWord K).toArray⟩)
  kindsT : ∀ K : Nat, K < 8 → w.cell? ⟨0, K, none⟩ = some (.string ⟨(kindW K).toArray⟩)
  modelsT : ∀ K : Nat, K < 5 → w.cell? ⟨1, K, none⟩ = some (.string ⟨(modelW K).toArray⟩)
theorem EnvT.keep {a w : World} (h : EnvT a) (f : Fr a w) : EnvT w := { toEnv := h.toEnv.keep f, words := fun K hK => f.keep (h.words K hK), kindsT := fun K hK => f.keep (h.kindsT K hK), modelsT := fun K hK => f.keep (h.modelsT K hK) }
theorem EnvT.r {w : World} (h : EnvT w) : EnvR w := { toEnv0 := h.toEnv0, words := h.words }
theorem cellsT8 : Tryz.prog.cellsOf 65 = 8 := by kernel_rfl
/-- The words of a table of strings that is laid. -/
theorem strs_cells {H : Type} {enc : TypeId × Value → H} {w : World} {base : Nat} {sp : Nat → Bool} {held : Bool} {fuel : Nat} {t : TypeId} {n : Nat} {cs : List Value} {p : List MemPlace} {D : DataW H} {W : Nat → List UInt8} (hu : Tryz.prog.underlying t = some (.array n 9))
    (h : DataW.trod enc Tryz.prog w base sp held fuel t cs = some (D, p)) (hD : ∀ i, i < n → ∃ l : List (DataW H), D = DataW.agg l ∧ l[i]? = some (.lit (.string (W i)))) (i : Nat) (h1 : i < n) :
    cs[i]? = some (.string ⟨(W i).toArray⟩) := by
  obtain ⟨l, hl, hi⟩ := hD i h1
  obtain ⟨xs, m, _, hx, hlen, hn, hel⟩ := DataW.trod_array hu h
  simp only [Prod.mk.injEq] at hx
  rw [hl] at hx
  have hx1 := DataW.agg.inj hx.1
  have hxi : ∃ q, xs[i]? = some (.lit (.string (W i)), q) := by
    rw [hx1] at hi
    simp only [List.getElem?_map, Option.map_eq_some_iff] at hi
    obtain ⟨⟨a, q⟩, ha, rfl⟩ := hi
    exact ⟨q, ha⟩
  obtain ⟨q, hq⟩ := hxi
  have he := hel i (by omega)
  rw [hq, show Tryz.prog.cellsOf 9 = 1 by kernel_rfl] at he
  obtain ⟨n1, t1, u1, _⟩ := DataW.trod_string Tryz.underlying9 he
  simp only [Prod.mk.injEq, DataW.lit.injEq, Lit.string.injEq] at u1
  rw [u1.1]
  exact at_of_take (a := i * 1) t1 (by omega)
theorem kindsT_of {l : List (String × DataW Unit)} {W : World} (h : laidMetH Tryz.prog l W) (hl : l.filter (fun x => x.1 == "umpire/text.kinds") = [("umpire/text.kinds", Rows.laid_umpire_text_kinds)]) : ∀ K : Nat, K < 8 → W.cell? ⟨0, K, none⟩ = some (.string ⟨(kindW K).toArray⟩) := by
  obtain ⟨g, t, cs, fuel, p, hg, ht, hv, hd⟩ := laid_one h _ _ hl rfl
  obtain rfl := Option.some.inj ((show Tryz.prog.globalNamed "umpire/text.kinds" = some 0 by kernel_rfl).symm.trans hg)
  obtain rfl := Option.some.inj ((show (Tryz.prog.globals[0]?).map (·.type) = some 65 by kernel_rfl).symm.trans ht)
  intro K hK
  refine (World.var?_cell hg hv K).trans ?_
  have := strs_cells Tryz.underlying65 hd (W := kindW) (fun i hi => ⟨_, rfl, by
    rcases (show i = 0 ∨ i = 1 ∨ i = 2 ∨ i = 3 ∨ i = 4 ∨ i = 5 ∨ i = 6 ∨ i = 7 by omega) with rfl | rfl | rfl | rfl | rfl | rfl | rfl | rfl <;> rfl⟩) K hK
  simpa using this
theorem modelsT_of {l : List (String × DataW Unit)} {W : World} (h : laidMetH Tryz.prog l W) (hl : l.filter (fun x => x.1 == "umpire/text.models") = [("umpire/text.models", Rows.laid_umpire_text_models)]) : ∀ K : Nat, K < 5 → W.cell? ⟨1, K, none⟩ = some (.string ⟨(modelW K).toArray⟩) := by
  obtain ⟨g, t, cs, fuel, p, hg, ht, hv, hd⟩ := laid_one h _ _ hl rfl
  obtain rfl := Option.some.inj ((show Tryz.prog.globalNamed "umpire/text.models" = some 1 by kernel_rfl).symm.trans hg)
  obtain rfl := Option.some.inj ((show (Tryz.prog.globals[1]?).map (·.type) = some 117 by kernel_rfl).symm.trans ht)
  intro K hK
  refine (World.var?_cell hg hv K).trans ?_
  have := strs_cells Tryz.underlying117 hd (W := modelW) (fun i hi => ⟨_, rfl, by
    rcases (show i = 0 ∨ i = 1 ∨ i = 2 ∨ i = 3 ∨ i = 4 by omega) with rfl | rfl | rfl | rfl | rfl <;> rfl⟩) K hK
  simpa using this
end Go.Proofs.YtfklgaeejmeipaaGreatDoor
