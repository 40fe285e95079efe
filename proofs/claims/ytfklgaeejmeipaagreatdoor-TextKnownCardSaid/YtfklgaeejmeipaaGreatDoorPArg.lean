/- What arguments with depth read as: lists of numbers. No condition but that the reading succeeds. -/
import Derived.Test.YtfklgaeejmeipaaGreatDoorPBase
import Derived.Test.YtfklgaeejmeipaaGreatDoorPOpen
import Derived.Deep.Slices
set_option linter.all false
set_option linter.unusedVariables false
set_option linter.unusedSimpArgs false
set_option linter.unnecessarySimpa false
/- What arguments with depth read as: lists of numbers. No condition but that the reading succeeds. -/
namespace Go.Proofs.YtfklgaeejmeipaaGreatDoor
open Go.Joins Go.ChangeShapes Go.WideShapes Go.RowKit Go.Deep

theorem spot_of {w : World} {a : Addr} {u : Value} (h : w.cell? a = some u) : a.spot = none := by
  unfold World.cell? at h
  split at h
  · split at h
    · cases h
    · rename_i hs
      simpa using hs
  · cases h
theorem add_cell {w : World} {a : Addr} {i : Nat} {u : Value} (h : w.cell? (a.add i) = some u) (hs : a.spot = none) : w.cell? ⟨a.block, a.off + i, none⟩ = some u := by
  obtain ⟨b, o, s⟩ := a
  simp only at hs
  subst hs
  rwa [add_plain] at h
theorem spot_add0 {w : World} {a : Addr} {u : Value} (h : w.cell? (a.add 0) = some u) : a.spot = none := spot_of (a := a) (by simpa [Addr.add] using h)
theorem flat_get {α β : Type} (g : α → List β) (k : Nat) (hk : 0 < k) (hg : ∀ x, (g x).length = k) : ∀ (l : List α) (j : Nat), (l.flatMap g)[j]? = (l[j / k]?).bind fun x => (g x)[j % k]?
  | [], j => by simp
  | x :: l, j => by
    rw [List.flatMap_cons]
    by_cases hj : j < k
    · rw [List.getElem?_append_left (by rw [hg]; exact hj), Nat.div_eq_of_lt hj, Nat.mod_eq_of_lt hj]
      rfl
    · rw [List.getElem?_append_right (by rw [hg]; omega), hg, flat_get g k hk hg l (j - k)]
      have h1 : j / k = (j - k) / k + 1 := by
        have := Nat.sub_add_cancel (show k ≤ j by omega)
        conv => lhs; rw [← this]
        exact Nat.add_div_right _ hk
      have h2 : j % k = (j - k) % k := (Nat.mod_eq_sub_mod (by omega))
      rw [h1, h2, List.getElem?_cons_succ]
theorem wf_u8 {n : Int} (h : (Lit.int .u8 n).wf = true) : ∃ k : Nat, n = k ∧ k < 256 := by
  have := bounds_u8 h
  exact ⟨n.toNat, by omega, by omega⟩
theorem wf_u16 {n : Int} (h : (Lit.int .u16 n).wf = true) : ∃ k : Nat, n = k ∧ k < 65536 := by
  have : 0 ≤ n ∧ n ≤ 65535 := by
    simp [Lit.wf, IntKind.min, IntKind.max, IntKind.signed, IntKind.bits] at h
    omega
  exact ⟨n.toNat, by omega, by omega⟩
instance : Inhabited Value := ⟨undef⟩
section
variable {H : Type} {enc : TypeId × Value → H} {P : Program} {w : World} {base : Nat} {spare : Nat → Bool} {held : Bool}

theorem rd16_of {t e : TypeId} {fuel : Nat} {cs : List Value} {x : DataW H × List MemPlace} (ht : P.underlying t = some (.slice e)) (he : P.underlying e = some (.int .u16)) (hc : P.cellsOf e = 1)
    (h : DataW.trod enc P w base spare held fuel t cs = some x) : ∃ v l, cs = [v] ∧ Rd16 w v l ∧ ∀ n ∈ l, n < 65536 := by
  rcases open_ints ht he hc h with ⟨rfl, _⟩ | ⟨a, len, cap, zs, rfl, _, hl, hm, hz, _, hcell, hw⟩
  · exact ⟨_, [], rfl, ⟨none, 0, rfl, Nat.le_refl _, by decide, .inl rfl⟩, by simp⟩
  · have hlz : len ≤ zs.length := by rw [hz]; split <;> omega
    have hn : ∀ n ∈ zs, ∃ k : Nat, n = k ∧ k < 65536 := fun n hn => wf_u16 (hw n hn)
    refine ⟨_, (zs.take len).map Int.toNat, rfl, ?_, ?_⟩
    · have hlen : ((zs.take len).map Int.toNat).length = len := by simp; omega
      unfold Rd16
      rw [hlen]
      refine ⟨some a, cap, rfl, hl, hm, ?_⟩
      by_cases h0 : len = 0
      · left; subst h0; simp [u16Cells]
      · right
        have hs := spot_add0 (hcell 0 (by omega))
        obtain ⟨b, off, sp⟩ := a
        simp only at hs
        subst hs
        refine ⟨b, off, rfl, trivial, by have := lt_of_cell (hcell 0 (by omega)); simpa [Addr.add] using this, fun j u hj => ?_⟩
        have hjl : j < len := by
          have := (List.getElem?_eq_some_iff.1 hj).1
          simp [u16Cells] at this
          omega
        have hc := hcell j (by omega)
        rw [add_plain] at hc
        rw [hc]
        obtain ⟨k, hk, _⟩ := hn (zs[j]'(by omega)) (List.getElem_mem _)
        rw [← hj]
        simp [u16Cells, List.getElem?_take, hjl, List.getElem?_eq_getElem (show j < zs.length by omega), List.getD_eq_getElem?_getD, hk]
    · intro n hn2
      simp only [List.mem_map] at hn2
      obtain ⟨z, hz1, rfl⟩ := hn2
      obtain ⟨k, rfl, hk⟩ := hn z (List.mem_of_mem_take hz1)
      simpa using hk
theorem open_two16' {r : Reach} {b0 : Nat} {t e : TypeId} {v : Value} {d : DataW H} {p : List MemPlace} (ht : P.underlying t = some (.array 2 e)) (he : P.underlying e = some (.int .u16)) (ce : P.cellsOf e = 1) (ct : P.cellsOf t = 2) (hv : Value.okWide P w r b0 t v) (h : DataW.Trod enc P w base spare held t v d p) :
    ∃ z0 z1 : Nat, v = .agg #[.int .u16 z0, .int .u16 z1] ∧ z0 < 65536 ∧ z1 < 65536 := by
  obtain ⟨cs, rfl, hsz⟩ : ∃ cs, v = .agg cs ∧ cs.size = P.cellsOf t := by
    simp only [Value.okWide, ht] at hv
    obtain ⟨cs, h1, h2, _⟩ := hv
    exact ⟨cs, h1, h2⟩
  obtain ⟨l⟩ := cs
  match l, hsz.trans ct with
  | [c0, c1], _ =>
    obtain ⟨fuel, hf⟩ := h
    obtain ⟨xs, n, _, _, _, hxs, hg⟩ := DataW.trod_array ht hf
    match xs, hxs with
    | [y0, y1], _ =>
      have g0 := hg 0 (by omega)
      have g1 := hg 1 (by omega)
      simp [ce, Value.cells] at g0 g1
      obtain ⟨v0, e0, _, w0⟩ := DataW.trod_int he g0
      obtain ⟨v1, e1, _, w1⟩ := DataW.trod_int he g1
      obtain ⟨v0, rfl, b0⟩ := wf_u16 w0
      obtain ⟨v1, rfl, b1⟩ := wf_u16 w1
      simp at e0 e1
      subst e0 e1
      exact ⟨v0, v1, rfl, b0, b1⟩
end
end Go.Proofs.YtfklgaeejmeipaaGreatDoor

/- Lists of strings: what can be read; two are the same or not. No condition but that both can be read. -/
namespace Go.Proofs.YtfklgaeejmeipaaGreatDoor
open Go.RowKit Go.Joins Go.ChangeShapes Go.WideShapes Go.Deep

def strCells (l : List (List UInt8)) : List Value := l.map fun s => Value.string ⟨s.toArray⟩
/-- A list of strings that can be read. -/
def RdS (w : World) (v : Value) (l : List (List UInt8)) : Prop := SlAt w Any v l.length (strCells l)
theorem RdS.keep {w w' : World} {v : Value} {l : List (List UInt8)} (h : RdS w v l) (f : Fr w w') : RdS w' v l := SlAt.fr h f
theorem RdS.nil (w : World) : RdS w (.slice none 0 0) [] := ⟨none, 0, rfl, Nat.le_refl _, by decide, .inl rfl⟩
theorem RdS.form {w : World} {v : Value} {l : List (List UInt8)} (h : RdS w v l) : ∃ a c, v = .slice a l.length c ∧ l.length ≤ c ∧ c ≤ maxLen := by
  obtain ⟨a, c, h1, h2, h3, _⟩ := h
  exact ⟨a, c, h1, h2, h3⟩
theorem RdS.at {w : World} {v : Value} {l : List (List UInt8)} (h : RdS w v l) {k : Nat} (hk : k < l.length) : ∃ b off cap, v = .slice (some ⟨b, off, none⟩) l.length cap ∧ l.length ≤ cap ∧ cap ≤ maxLen ∧ b < w.heap.size ∧ ∀ j s, l[j]? = some s → w.cell? ⟨b, off + j, none⟩ = some (.string ⟨s.toArray⟩) := by
  obtain ⟨a, cap, rfl, h2, h3, h4⟩ := h
  rcases h4 with h4 | ⟨b, off, rfl, _, hlt, hc⟩
  · have := congrArg List.length h4; simp [strCells] at this; subst this; simp at hk
  · exact ⟨b, off, cap, rfl, h2, h3, hlt, fun j s hj => hc j _ (by simp [strCells, hj])⟩
section
variable {H : Type} {enc : TypeId × Value → H} {P : Program} {w : World} {base : Nat} {spare : Nat → Bool} {held : Bool}
theorem rdS_of {t e : TypeId} {fuel : Nat} {cs : List Value} {x : DataW H × List MemPlace} (ht : P.underlying t = some (.slice e)) (he : P.underlying e = some .string) (hc : P.cellsOf e = 1)
    (h : DataW.trod enc P w base spare held fuel t cs = some x) : ∃ v l, cs = [v] ∧ RdS w v l := by
  rcases open_slice1 ht hc h with ⟨rfl, _⟩ | ⟨a, len, cap, m, n, V, D, Pl, rfl, _, hl, hm, hmm, _, hx⟩
  · exact ⟨_, [], rfl, RdS.nil w⟩
  · have hlm : len ≤ m := by rw [hmm]; split <;> omega
    obtain ⟨f, hf⟩ := choose_lt (α := List UInt8) (n := len) (p := fun i s => V i = .string ⟨s.toArray⟩) (fun i hi => by
      obtain ⟨s, hs, _⟩ := DataW.trod_string he (hx i (by omega)).2
      simp only [List.cons.injEq, and_true] at hs
      exact ⟨s.data.toList, by rw [hs]⟩)
    refine ⟨_, (List.range len).map f, rfl, ?_⟩
    unfold RdS
    rw [show ((List.range len).map f).length = len by simp]
    refine ⟨some a, cap, rfl, hl, hm, ?_⟩
    by_cases h0 : len = 0
    · left; subst h0; simp [strCells]
    · right
      have hc0 := (hx 0 (by omega)).1
      have hs := spot_add0 hc0
      obtain ⟨b, off, sp⟩ := a
      simp only at hs
      subst hs
      refine ⟨b, off, rfl, trivial, by have := lt_of_cell hc0; simpa [Addr.add] using this, fun j u hj => ?_⟩
      have hjl : j < len := by
        have := (List.getElem?_eq_some_iff.1 hj).1
        simpa [strCells] using this
      have hu : Value.string ⟨(f j).toArray⟩ = u := by simpa [strCells, hjl] using hj
      rw [← add_plain, ← hu, ← hf j hjl]
      exact (hx j (by omega)).1
end
set_option maxRecDepth 100000 in
theorem equalS_c (u v : Value) (l m : List (List UInt8)) (w : World) (hu : RdS w u l) (hv : RdS w v m) :
    Calls Tryz.prog 133 #[u, v] w fun e w' => e = .returned (.bool (decide (l = m))) ∧ Dr w w' := by
  obtain ⟨a, capa, rfl, hca, hma, hxa⟩ := hu
  obtain ⟨b, capb, rfl, hcb, hmb, hxb⟩ := hv
  unfold maxLen at hma hmb
  by_cases hlen : l.length = m.length
  · have hl2 : ((l.length : Int) != m.length) = false := by simp; omega
    go_enter Tryz.func133, Tryz.ntmps133
    go_wp2
    go_loopw [13] (fun i wr => ∃ k : Nat, k ≤ l.length ∧ i = .int .i64 k ∧ l.take k = m.take k ∧ Dr w wr) (fun i _ => l.length - (intOf i).toNat)
    case atStart => exact ⟨0, Nat.zero_le _, rfl, rfl, Dr.refl _⟩
    case round =>
      obtain ⟨k, hk, rfl, htk, hdr⟩ := hrel
      have hfr := hdr.fr
      by_cases hlt : k < l.length
      · have hltm : k < m.length := by omega
        obtain ⟨b1, o1, rfl, hb1, hc1⟩ := SlAt.at (n := 0) (cap := 0) hxa (by simp [strCells]; intro h; subst h; simp at hlt)
        obtain ⟨b2, o2, rfl, hb2, hc2⟩ := SlAt.at (n := 0) (cap := 0) hxb (by simp [strCells]; intro h; subst h; simp at hltm)
        have hk1 : k < capa := by omega
        have hk2 : k < capb := by omega
        by_cases he : l[k] = m[k]
        · have hT := Lib.hid (take_next htk hlt hltm he)
          have c1 := hfr.keep (hc1 k (.string ⟨l[k].toArray⟩) (by simp [strCells, hlt]))
          have c2 := hfr.keep (hc2 k (.string ⟨m[k].toArray⟩) (by simp [strCells, hltm]))
          rw [← he] at c2
          generalize l[k] = x at c1 c2
          clear hc1 hc2 hxa hxb htk he
          go_wp2
          go_quiet (fail)
          go_wp2
          go_roundw
          case rel => exact ⟨k + 1, by omega, by go_num, hT.out, by repeat (with_reducible first | assumption | apply Dr.drewN)⟩
          case measure => simp [intOf]; omega
        · have hT := Lib.hid (ne_at hlt hltm he)
          have c1 := hfr.keep (hc1 k (.string ⟨l[k].toArray⟩) (by simp [strCells, hlt]))
          have c2 := hfr.keep (hc2 k (.string ⟨m[k].toArray⟩) (by simp [strCells, hltm]))
          have hne : (l[k] == m[k]) = false := by simpa using he
          have hne2 : (l[k] != m[k]) = true := by simpa using he
          generalize l[k] = x at c1 hne hne2
          generalize m[k] = y at c2 hne hne2
          clear hc1 hc2 hxa hxb htk he
          go_wp2
          go_quiet (fail)
          go_wp2
          go_ret
          exact ⟨by rw [decide_eq_false hT.out]; rfl, by repeat (with_reducible first | assumption | apply Dr.drewN)⟩
      · have hT := Lib.hid (eq_all htk hlt hlen)
        go_wp2
        go_ret
        exact ⟨by rw [decide_eq_true hT.out]; rfl, hdr⟩
  · have hl2 : ((l.length : Int) != m.length) = true := by simp; omega
    have hne : l ≠ m := fun h => hlen (by rw [h])
    have hT := Lib.hid hne
    clear hne hlen hxa hxb
    go_enter Tryz.func133, Tryz.ntmps133
    go_wp2
    go_ret
    exact ⟨by rw [decide_eq_false hT.out]; rfl, Dr.refl _⟩
end Go.Proofs.YtfklgaeejmeipaaGreatDoor
