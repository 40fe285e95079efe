/- Layer 28: the laws' helpers: few, same, tells, works: their walks. No condition but bounds. -/
import Derived.Test.YtadognaafgndnaaPSccComp
import Derived.Test.YtadognaafgndnaaPSccTurns
import Derived.Test.YtadognaafgndnaaPSccDocO
import Derived.Test.YtadognaafgndnaaPSccDoc
set_option linter.all false
set_option linter.unusedVariables false
set_option linter.unusedSimpArgs false
set_option linter.unnecessarySimpa false
/- Layer 28: the laws' helpers: few, same, tells, works: their walks. No condition but bounds. -/
namespace Go.Proofs.Ytadognaafgndnaa
open Go.RowKit
attribute [local go_sem] Oper.semAt_some

def fewB (G : List (List Int)) : Bool := (G.take 20).all (fun l => decide (l.length ≤ 30)) && decide (G.length ≤ 16)
theorem fewB_spec {G : List (List Int)} (h : fewB G = true) : G.length ≤ 16 ∧ ∀ l ∈ G, l.length ≤ 30 := by
  unfold fewB at h
  rw [Bool.and_eq_true, decide_eq_true_eq, List.all_eq_true] at h
  refine ⟨h.2, fun l hl => ?_⟩
  have := h.1 l (by rw [List.take_of_length_le (by omega)]; exact hl)
  simpa using this
set_option maxRecDepth 100000 in
set_option maxHeartbeats 1000000 in
theorem few28_c {w : World} {v : Value} {G : List (List Int)} (hv : RdGZ w v G) :
    Calls Try.prog 9 #[v] w fun e w' => e = .returned (.bool (fewB G)) ∧ Fr w w' := by
  obtain ⟨va, vc, rfl, hvc, hmx, hx⟩ := hv
  have HX := Lib.hid hx
  clear hx
  go_enter Try.func9, Try.ntmps9
  go_wp2_with fail
  go_loopw [3] (fun vi wr => ∃ i : Nat, i ≤ G.length ∧ i ≤ 20 ∧ vi = .int .i64 i ∧ Hid (wr = w ∧ (G.take i).all (fun l => decide (l.length ≤ 30)) = true)) (fun vi _ => G.length - (intOf vi).toNat)
  case atStart => exact ⟨0, Nat.zero_le _, by omega, rfl, rfl, by simp⟩
  case round =>
    obtain ⟨i, hi, hi20, rfl, HR⟩ := hrel
    obtain ⟨rfl, hall⟩ := HR.out
    have HA := Lib.hid hall
    clear HR hall
    by_cases hit : i < G.length
    · by_cases h20 : i < 20
      · obtain ⟨b, o, u, rfl, hc, ⟨ua, uc, rfl, huc, hum, _⟩⟩ := HX.out i hit
        have lb := lt_of_cell hc
        simp only at lb
        have HT : Hid ((G.take (i + 1)).all (fun l => decide (l.length ≤ 30)) = ((G.take i).all (fun l => decide (l.length ≤ 30)) && decide (G[i].length ≤ 30))) := Lib.hid (by rw [List.take_succ_eq_append_getElem hit, List.all_append]; simp)
        have HM : Hid (¬ G[i].length ≤ 30 → fewB G = false) := Lib.hid (fun h => by
          cases h2 : fewB G
          · rfl
          · unfold fewB at h2
            rw [Bool.and_eq_true, List.all_eq_true] at h2
            have := h2.1 G[i] (List.mem_take_iff_getElem.2 ⟨i, by omega, rfl⟩)
            simp at this
            omega)
        generalize G[i] = l at hc huc HT HM
        generalize l.length = ll at hc huc HT HM
        by_cases hl : ll ≤ 30
        · have hl2 : ¬ (ll : Int) > 30 := by omega
          have HN : Hid ((G.take (i + 1)).all (fun l => decide (l.length ≤ 30)) = true) := Lib.hid (by rw [HT.out, HA.out]; simpa using hl)
          clear HT HA HM
          go_wp2_with fail
          go_roundw
          case rel => exact ⟨i + 1, by omega, by omega, by go_num, by first | exact ⟨rfl, HN.out⟩ | exact ⟨trivial, HN.out⟩⟩
          case measure => first | (simp [intOf]; done) | (simp [intOf]; omega)
        · have hl2 : (ll : Int) > 30 := by omega
          have HN := Lib.hid (HM.out hl)
          clear HT HA HM hl
          go_wp2_with fail
          go_ret
          exact ⟨by rw [HN.out] <;> rfl, Fr.refl _⟩
      · have HN : Hid (fewB G = false) := Lib.hid (by
          unfold fewB
          have : decide (G.length ≤ 16) = false := by simp; omega
          rw [this, Bool.and_false])
        have hlen : ¬ G.length ≤ 16 := by omega
        go_wp2_with fail
        go_ret
        exact ⟨by rw [HN.out]; first | rfl | (simp; omega), Fr.refl _⟩
    · obtain rfl : i = G.length := by omega
      have HN : Hid (fewB G = decide (G.length ≤ 16)) := Lib.hid (by
        unfold fewB
        have h := HA.out
        rw [List.take_length] at h
        rw [List.take_of_length_le hi20, h, Bool.true_and])
      clear HA
      go_wp2_with fail
      go_ret
      exact ⟨by rw [HN.out]; first | rfl | (simp; done) | (simp; omega), Fr.refl _⟩
set_option maxRecDepth 100000 in
set_option maxHeartbeats 2000000 in
theorem same28_c {w : World} {va vb : Value} {l m : List Nat} (ha : RdI w va l) (hb : RdI w vb m) (hl : l.length ≤ 5864062014640) (hm : m.length ≤ 5864062014640) :
    Calls Try.prog 13 #[va, vb] w fun e w' => e = .returned (.bool (decide (l = m))) ∧ Fr w w' := by
  obtain ⟨aa, ac, rfl, hac, hax⟩ := ha
  obtain ⟨ba, bc, rfl, hbc, hbx⟩ := hb
  have HAX := Lib.hid hax
  have HBX := Lib.hid hbx
  clear hax hbx
  by_cases hlen : l.length = m.length
  · have HLE := Lib.hid hlen
    have HD : Hid ((∀ i (h1 : i < l.length) (h2 : i < m.length), l[i] = m[i]) → l = m) := Lib.hid (fun h => List.ext_getElem hlen h)
    have HE : Hid (∀ i (h1 : i < l.length) (h2 : i < m.length), l[i] ≠ m[i] → l ≠ m) := Lib.hid (fun i h1 h2 hne e => by subst e; exact hne rfl)
    obtain ⟨r, hr⟩ : ∃ r, r = decide (l = m) := ⟨_, rfl⟩
    rw [← hr]
    have HRR := Lib.hid hr
    have hmm : m.length = l.length := hlen.symm
    rw [hmm]
    rw [hmm] at hbc hm
    clear hr hlen hmm
    go_enter Try.func13, Try.ntmps13
    go_wp2_with fail
    go_loopw [5] (fun vi wr => ∃ i : Nat, i ≤ l.length ∧ vi = .int .i64 i ∧ Hid (Fr w wr ∧ ∀ j (h1 : j < l.length) (h2 : j < m.length), j < i → l[j] = m[j])) (fun vi _ => l.length - (intOf vi).toNat)
    case atStart => exact ⟨0, Nat.zero_le _, rfl, Fr.refl _, fun j _ _ h => absurd h (Nat.not_lt_zero j)⟩
    case round =>
      obtain ⟨i, hi, rfl, HI⟩ := hrel
      by_cases hit : i < l.length
      · have him : i < m.length := by have := HLE.out; omega
        obtain ⟨g1, o1, rfl, h1⟩ := HAX.out i hit
        obtain ⟨g2, o2, rfl, h2⟩ := HBX.out i him
        replace h1 := HI.out.1.keep h1
        replace h2 := HI.out.1.keep h2
        have l1 := lt_of_cell h1
        have l2 := lt_of_cell h2
        simp only at l1 l2
        have HE1 := Lib.hid (HE.out i hit him)
        have HS : Hid (l[i] = m[i] → ∀ j (h1 : j < l.length) (h2 : j < m.length), j < i + 1 → l[j] = m[j]) := Lib.hid (fun e j h1 h2 h => by
          by_cases hj : j = i
          · subst hj; exact e
          · exact HI.out.2 j h1 h2 (by omega))
        have HFF := Lib.hid HI.out.1
        unfold intV at h1 h2
        clear HI
        generalize l[i] = x at h1 HE1 HS
        generalize m[i] = y at h2 HE1 HS
        by_cases e : x = y
        · subst e
          have HN := Lib.hid (HS.out rfl)
          clear HS HE1
          go_wp2_with fail
          go_quiet (fail)
          go_wp2_with fail
          go_roundw
          case rel => exact ⟨i + 1, by omega, by go_num, HFF.out.trans (by first | exact Fr.refl _ | exact (Fr.refl _).drew | exact (Fr.refl _).drewN _), HN.out⟩
          case measure => first | (simp [intOf]; done) | (simp [intOf]; omega)
        · have HN : Hid (r = false) := Lib.hid (by rw [HRR.out]; exact decide_eq_false (HE1.out e))
          have e1 : ((x : Int) != (y : Int)) = true := by simp; omega
          have e2 : (x != y) = true := by simpa using e
          have e3 : (x == y) = false := by simpa using e
          clear HS HE1
          go_wp2_with fail
          go_quiet (fail)
          go_wp2_with fail
          go_ret
          exact ⟨by rw [HN.out] <;> rfl, HFF.out.trans (by first | exact Fr.refl _ | exact (Fr.refl _).drew | exact (Fr.refl _).drewN _)⟩
      · obtain rfl : i = l.length := by omega
        have HN : Hid (r = true) := Lib.hid (by rw [HRR.out]; exact decide_eq_true (HD.out fun j h1 h2 => HI.out.2 j h1 h2 h1))
        have HFF := Lib.hid HI.out.1
        clear HI
        go_wp2_with fail
        go_ret
        exact ⟨by rw [HN.out] <;> rfl, HFF.out⟩
  · have HN : Hid (decide (l = m) = false) := Lib.hid (decide_eq_false fun e => hlen (by rw [e]))
    have e1 : ((l.length : Int) != (m.length : Int)) = true := by simp; omega
    have e2 : (l.length != m.length) = true := by simpa using hlen
    go_enter Try.func13, Try.ntmps13
    go_wp2_with fail
    go_ret
    exact ⟨by rw [HN.out] <;> rfl, Fr.refl _⟩
/-- What the package and the document answer, of any graph. -/
def errZ (G : List (List Int)) : Int := if mayZ G then 0 else 2
def orderZ (G : List (List Int)) : List Nat := if mayZ G then orderOf (natG G) else []
def compsZ (G : List (List Int)) : List Nat := if mayZ G then compsOf (natG G) else []
def groupsZ (G : List (List Int)) : List (List Nat) := if mayZ G then sortG (groupsOf (natG G)) else []
def turnsZ (G : List (List Int)) : List Bool := if mayZ G then turnsOf (natG G) else []
theorem RdI.nil (w : World) : RdI w (.slice none 0 0) [] := ⟨none, 0, rfl, Nat.le_refl _, fun i hi => absurd hi (Nat.not_lt_zero i)⟩
theorem OrderZ_c {w : World} {v : Value} {G : List (List Int)} (hv : RdGZ w v G) (hb : G.length ≤ 5864062014634) :
    Calls Try.prog 11 #[v] w fun e w' => ∃ vo, e = .returned (.tuple #[vo, .int .i64 (errZ G)]) ∧ RdI w' vo (orderZ G) ∧ Fr w w' := by
  cases h : mayZ G
  · unfold errZ orderZ
    rw [h]
    refine (OrderNo_c hv h).mono ?_
    rintro e w' ⟨rfl, hf⟩
    exact ⟨_, rfl, RdI.nil w', hf⟩
  · unfold errZ orderZ
    rw [h]
    exact Order_c hv hb h
theorem CompsZ_c {w : World} {v : Value} {G : List (List Int)} (hv : RdGZ w v G) (hb : G.length ≤ 5864062014634) :
    Calls Try.prog 14 #[v] w fun e w' => ∃ vo, e = .returned (.tuple #[vo, .int .i64 (errZ G)]) ∧ RdI w' vo (compsZ G) ∧ Fr w w' := by
  cases h : mayZ G
  · unfold errZ compsZ
    rw [h]
    refine (ComponentsNo_c hv h).mono ?_
    rintro e w' ⟨rfl, hf⟩
    exact ⟨_, rfl, RdI.nil w', hf⟩
  · unfold errZ compsZ
    rw [h]
    exact Components_c hv hb h
theorem TurnsZ_c {w : World} {v : Value} {G : List (List Int)} (hv : RdGZ w v G) (hb : G.length ≤ 5864062014634) :
    Calls Try.prog 17 #[v] w fun e w' => ∃ vo, e = .returned (.tuple #[vo, .int .i64 (errZ G)]) ∧ RdB w' vo (turnsZ G) ∧ Fr w w' := by
  cases h : mayZ G
  · unfold errZ turnsZ
    rw [h]
    refine (TurnsNo_c hv h).mono ?_
    rintro e w' ⟨rfl, hf⟩
    exact ⟨_, rfl, ⟨none, 0, rfl, Nat.le_refl _, fun i hi => absurd hi (Nat.not_lt_zero i)⟩, hf⟩
  · unfold errZ turnsZ
    rw [h]
    exact Turns_c hv hb h
theorem GroupsZ_c {w : World} {v : Value} {G : List (List Int)} (hv : RdGZ w v G) (hb : G.length ≤ 5864062014634) :
    Calls Try.prog 16 #[v] w fun e w' => ∃ vo, e = .returned (.tuple #[vo, .int .i64 (errZ G)]) ∧ RdGr w' vo (groupsZ G) ∧ Fr w w' := by
  cases h : mayZ G
  · unfold errZ groupsZ
    rw [h]
    refine (GroupsNo_c hv h).mono ?_
    rintro e w' ⟨rfl, hf⟩
    exact ⟨_, rfl, ⟨none, 0, rfl, Nat.le_refl _, fun i hi => absurd hi (Nat.not_lt_zero i)⟩, hf⟩
  · unfold errZ groupsZ
    rw [h]
    exact Groups_c hv hb h
theorem docOrderZ_c {w : World} {v : Value} {G : List (List Int)} (hv : RdGZ w v G) (hb : G.length ≤ 5864062014634) :
    Calls Try.prog 12 #[v] w fun e w' => ∃ vo, e = .returned (.tuple #[vo, .int .i64 (errZ G)]) ∧ RdI w' vo (orderZ G) ∧ Fr w w' := by
  cases h : mayZ G
  · unfold errZ orderZ
    rw [h]
    refine (docOrderNo_c hv h).mono ?_
    rintro e w' ⟨rfl, hf⟩
    exact ⟨_, rfl, RdI.nil w', hf⟩
  · unfold errZ orderZ
    rw [h]
    have := docOrder_c hv hb h
    rw [docOrder_is (natG_may h)] at this
    exact this
theorem docCompsZ_c {w : World} {v : Value} {G : List (List Int)} (hv : RdGZ w v G) (hb : G.length ≤ 5864062014634) :
    Calls Try.prog 15 #[v] w fun e w' => ∃ vo, e = .returned (.tuple #[vo, .int .i64 (errZ G)]) ∧ RdI w' vo (compsZ G) ∧ Fr w w' := by
  cases h : mayZ G
  · unfold errZ compsZ
    rw [h]
    refine (docComponentsNo_c hv h).mono ?_
    rintro e w' ⟨rfl, hf⟩
    exact ⟨_, rfl, RdI.nil w', hf⟩
  · unfold errZ compsZ
    rw [h]
    have := docComponents_c hv hb h
    rw [docComps_is (natG_may h)] at this
    exact this
theorem compsZ_len (G : List (List Int)) : (compsZ G).length ≤ G.length := by
  unfold compsZ
  split
  · rw [compsOf_length, natG_length]; exact Nat.le_refl _
  · exact Nat.zero_le _
theorem orderZ_len (G : List (List Int)) : (orderZ G).length ≤ G.length := by
  unfold orderZ
  split
  · rename_i h
    have := (groups_len (natG_may h)).1
    rw [natG_length] at this
    rw [orderOf_length, sortG_length]; exact this
  · exact Nat.zero_le _
set_option maxRecDepth 100000 in
set_option maxHeartbeats 2000000 in
theorem tells28_c {w : World} {v vc vo : Value} {G : List (List Int)} (hv : RdGZ w v G) (hb : G.length ≤ 5864062014634) (hm : mayZ G = true) (hc : RdI w vc (compsOf (natG G))) (ho : RdI w vo (orderOf (natG G))) :
    Calls Try.prog 23 #[v, vc, vo] w fun e w' => e = .returned (.bool true) ∧ Fr w w' := by
  have HC := Lib.hid (Components_c hv hb hm)
  have HO := Lib.hid (fun W (f : Fr w W) => Order_c (hv.fr f) hb hm)
  have hl1 : (compsOf (natG G)).length ≤ 5864062014640 := by rw [compsOf_length, natG_length]; omega
  have hl2 : (orderOf (natG G)).length ≤ 5864062014640 := by
    have h := orderZ_len G
    unfold orderZ at h
    rw [hm, if_pos rfl] at h
    omega
  have HRC := Lib.hid hc
  have HRO := Lib.hid ho
  clear hv hc ho hm
  generalize compsOf (natG G) = C at HC HRC hl1
  generalize orderOf (natG G) = O at HO HRO hl2
  go_enter Try.func23, Try.ntmps23
  go_wp2_with fail
  refine HC.out.mono ?_
  rintro e w1 ⟨v1, rfl, h1, hf1⟩
  have HF1 := Lib.hid hf1
  have HR1 := Lib.hid h1
  have HO1 := Lib.hid (HO.out w1 hf1)
  clear hf1 h1 HC HO
  go_wp2_with fail
  refine HO1.out.mono ?_
  rintro e w2 ⟨v2, rfl, h2, hf2⟩
  have HF2 := Lib.hid (HF1.out.trans hf2)
  have HS1 := Lib.hid (same28_c (HR1.out.fr hf2) (HRC.out.fr HF2.out) hl1 hl1)
  have HR2 := Lib.hid h2
  clear hf2 h2 HO1 HR1
  rw [decide_eq_true rfl] at HS1
  go_wp2_with fail
  refine HS1.out.mono ?_
  rintro e w3 ⟨rfl, hf3⟩
  have HF3 := Lib.hid (HF2.out.trans hf3)
  have HS2 := Lib.hid (same28_c (HR2.out.fr hf3) (HRO.out.fr HF3.out) hl2 hl2)
  clear hf3 HS1 HR2
  rw [decide_eq_true rfl] at HS2
  go_wp2_with fail
  refine HS2.out.mono ?_
  rintro e w4 ⟨rfl, hf4⟩
  have HF4 := Lib.hid (HF3.out.trans hf4)
  clear hf4 HS2
  go_wp2_with fail
  go_ret
  exact ⟨rfl, HF4.out⟩
/-- Graphs that are written down. -/
theorem rdZ_lit {W : World} {b n : Nat} (l : List Int) (h : BoxAt W b (l.map zV).toArray 3) (hn : n = l.length) (hb : n ≤ 1000) : RdZ W (.slice (some ⟨b, 0, none⟩) n n) l := by
  subst hn
  refine ⟨_, l.length, rfl, Nat.le_refl _, by omega, fun i hi => ⟨b, 0, rfl, ?_⟩⟩
  rw [Nat.zero_add, h.cell]
  simp [hi, zV]
theorem rdZ_nil (W : World) : RdZ W (.slice none 0 0) [] := ⟨none, 0, rfl, Nat.le_refl _, by omega, fun i hi => absurd hi (Nat.not_lt_zero i)⟩
theorem rdGZ_lit {W : World} {b n : Nat} (rows : List (Value × List Int)) (h : BoxAt W b (rows.map (·.1)).toArray 25) (hn : n = rows.length) (hb : n ≤ 1000) (hr : ∀ p ∈ rows, RdZ W p.1 p.2) : RdGZ W (.slice (some ⟨b, 0, none⟩) n n) (rows.map (·.2)) := by
  subst hn
  refine ⟨some ⟨b, 0, none⟩, rows.length, by simp, by simp, by omega, fun i hi => ⟨b, 0, rows[i]'(by simpa using hi) |>.1, rfl, ?_, ?_⟩⟩
  · have hi' : i < rows.length := by simpa using hi
    rw [Nat.zero_add, h.cell]
    simp [hi']
  · have hi' : i < rows.length := by simpa using hi
    have := hr rows[i] (List.getElem_mem hi')
    simpa using this
theorem rdI_lit {W : World} {b n : Nat} (l : List Nat) (h : BoxAt W b (l.map intV).toArray 3) (hn : n = l.length) : RdI W (.slice (some ⟨b, 0, none⟩) n n) l := by
  subst hn
  refine ⟨_, l.length, rfl, Nat.le_refl _, fun i hi => ⟨b, 0, rfl, ?_⟩⟩
  rw [Nat.zero_add, h.cell]
  simp [hi, intV]
end Go.Proofs.Ytadognaafgndnaa

/- Layer 28: the law's works: its walk. No condition. -/
namespace Go.Proofs.Ytadognaafgndnaa
open Go.RowKit
attribute [local go_sem] Oper.semAt_some

theorem lit1 : compsOf (natG [[1], [2], [0], [2]]) = [0, 0, 0, 1] := by decide
theorem lit1o : orderOf (natG [[1], [2], [0], [2]]) = [0, 1] := by decide
theorem lit2 : compsOf (natG [[2], [0], [3], [2]]) = [0, 1, 2, 2] := by decide
theorem lit2o : orderOf (natG [[2], [0], [3], [2]]) = [2, 0, 1] := by decide
set_option maxRecDepth 100000 in
set_option maxHeartbeats 2000000 in
theorem works28_c (w : World) : Calls Try.prog 10 #[] w fun e w' => e = .returned (.bool true) ∧ Fr w w' := by
  go_enter Try.func10, Try.ntmps10
  go_wp2_with fail
  refine (tells28_c (G := [[1], [2], [0], [2]]) ?g1 (by decide) (by decide) ?c1 ?o1).mono ?_
  case g1 => exact rdGZ_lit [(.slice (some ⟨w.heap.size, 0, none⟩) 1 1, [1]), (.slice (some ⟨w.heap.size + 1, 0, none⟩) 1 1, [2]), (.slice (some ⟨w.heap.size + 1 + 1, 0, none⟩) 1 1, [0]), (.slice (some ⟨w.heap.size + 1 + 1 + 1, 0, none⟩) 1 1, [2])] (by repeat (first | (refine BoxAt.new' _ _ _ _ ?_; (first | rfl | (simp; done))) | refine BoxAt.alloc ?_ _)) rfl (by decide) (by
    intro p hp
    simp only [List.mem_cons, List.not_mem_nil, or_false] at hp
    rcases hp with rfl | rfl | rfl | rfl
    · exact rdZ_lit [1] (by repeat (first | (refine BoxAt.new' _ _ _ _ ?_; (first | rfl | (simp; done))) | refine BoxAt.alloc ?_ _)) rfl (by decide)
    · exact rdZ_lit [2] (by repeat (first | (refine BoxAt.new' _ _ _ _ ?_; (first | rfl | (simp; done))) | refine BoxAt.alloc ?_ _)) rfl (by decide)
    · exact rdZ_lit [0] (by repeat (first | (refine BoxAt.new' _ _ _ _ ?_; (first | rfl | (simp; done))) | refine BoxAt.alloc ?_ _)) rfl (by decide)
    · exact rdZ_lit [2] (by repeat (first | (refine BoxAt.new' _ _ _ _ ?_; (first | rfl | (simp; done))) | refine BoxAt.alloc ?_ _)) rfl (by decide))
  case c1 => rw [lit1]; exact rdI_lit [0, 0, 0, 1] (by repeat (first | (refine BoxAt.new' _ _ _ _ ?_; (first | rfl | (simp; done))) | refine BoxAt.alloc ?_ _)) rfl
  case o1 => rw [lit1o]; exact rdI_lit [0, 1] (by repeat (first | (refine BoxAt.new' _ _ _ _ ?_; (first | rfl | (simp; done))) | refine BoxAt.alloc ?_ _)) rfl
  rintro e w1 ⟨rfl, hf1⟩
  have HF1 : Hid (Fr w w1) := Lib.hid (by
    refine Fr.trans ?_ hf1
    repeat (first | exact Fr.refl _ | refine Fr.alloc ?_ _))
  clear hf1
  go_wp2_with fail
  refine (tells28_c (G := [[2], [0], [3], [2]]) ?g2 (by decide) (by decide) ?c2 ?o2).mono ?_
  case g2 => exact rdGZ_lit [(.slice (some ⟨w1.heap.size, 0, none⟩) 1 1, [2]), (.slice (some ⟨w1.heap.size + 1, 0, none⟩) 1 1, [0]), (.slice (some ⟨w1.heap.size + 1 + 1, 0, none⟩) 1 1, [3]), (.slice (some ⟨w1.heap.size + 1 + 1 + 1, 0, none⟩) 1 1, [2])] (by repeat (first | (refine BoxAt.new' _ _ _ _ ?_; (first | rfl | (simp; done))) | refine BoxAt.alloc ?_ _)) rfl (by decide) (by
    intro p hp
    simp only [List.mem_cons, List.not_mem_nil, or_false] at hp
    rcases hp with rfl | rfl | rfl | rfl
    · exact rdZ_lit [2] (by repeat (first | (refine BoxAt.new' _ _ _ _ ?_; (first | rfl | (simp; done))) | refine BoxAt.alloc ?_ _)) rfl (by decide)
    · exact rdZ_lit [0] (by repeat (first | (refine BoxAt.new' _ _ _ _ ?_; (first | rfl | (simp; done))) | refine BoxAt.alloc ?_ _)) rfl (by decide)
    · exact rdZ_lit [3] (by repeat (first | (refine BoxAt.new' _ _ _ _ ?_; (first | rfl | (simp; done))) | refine BoxAt.alloc ?_ _)) rfl (by decide)
    · exact rdZ_lit [2] (by repeat (first | (refine BoxAt.new' _ _ _ _ ?_; (first | rfl | (simp; done))) | refine BoxAt.alloc ?_ _)) rfl (by decide))
  case c2 => rw [lit2]; exact rdI_lit [0, 1, 2, 2] (by repeat (first | (refine BoxAt.new' _ _ _ _ ?_; (first | rfl | (simp; done))) | refine BoxAt.alloc ?_ _)) rfl
  case o2 => rw [lit2o]; exact rdI_lit [2, 0, 1] (by repeat (first | (refine BoxAt.new' _ _ _ _ ?_; (first | rfl | (simp; done))) | refine BoxAt.alloc ?_ _)) rfl
  rintro e w2 ⟨rfl, hf2⟩
  have HF2 : Hid (Fr w w2) := Lib.hid (by
    refine HF1.out.trans (Fr.trans ?_ hf2)
    repeat (first | exact Fr.refl _ | refine Fr.alloc ?_ _))
  clear hf2
  go_wp2_with fail
  go_ret
  exact ⟨rfl, HF2.out⟩
end Go.Proofs.Ytadognaafgndnaa

/- umpirelaw28.SccEnds: the law's walk. No condition but the graph's bound. -/
namespace Go.Proofs.Ytadognaafgndnaa
open Go.RowKit
attribute [local go_sem] Oper.semAt_some

structure EndsF (n : Nat) (N : List (List Nat)) (C O : List Nat) : Prop where
  len : N.length = n
  clen : C.length = n
  olen : O.length ≤ n
  clt : ∀ i, i < n → C.getD i 0 < O.length
  olt : ∀ i, i < O.length → O.getD i 0 < O.length
  fresh : ∀ i, i < O.length → placeTo O i (O.getD i 0) = 0
  edge : ∀ i (h : i < N.length), ∀ u ∈ N[i], u < n ∧ (C.getD i 0 ≠ C.getD u 0 → placeTo O O.length (C.getD u 0) < placeTo O O.length (C.getD i 0))
theorem placeTo_le (o : List Nat) (c : Nat) : ∀ i, placeTo o i c ≤ i
  | 0 => Nat.le_refl _
  | i + 1 => by
    have := placeTo_le o c i
    show (if c = o.getD i 0 then i + 1 else placeTo o i c) ≤ i + 1
    split <;> omega
theorem ends_facts {G : List (List Int)} (hm : mayZ G = true) : EndsF G.length (natG G) (compsOf (natG G)) (orderOf (natG G)) := by
  have hG := natG_may hm
  have hnl := natG_length G
  have HP := parts_of (groupsOf_is hG)
  have HL := groups_len hG
  have hol : (orderOf (natG G)).length = (sortG (groupsOf (natG G))).length := orderOf_length _
  refine ⟨hnl, by rw [compsOf_length, hnl], by rw [hol, sortG_length, ← hnl]; exact HL.1, fun i hi => ?_, fun i hi => ?_, fun i hi => ?_, fun i hi u hu => ?_⟩
  · rw [comps_getD (by omega), hol]
    exact (HP.at_ (by omega)).1
  · rw [getD_at hi]; exact orderOf_lt hG hi
  · refine placeTo_zero fun j hj e => ?_
    rw [getD_at (by omega), getD_at hi] at e
    have := orderOf_inj hG (by omega) hi e
    omega
  · have he : edge (natG G) i u := by
      unfold edge outs
      rw [List.getD_eq_getElem?_getD, List.getElem?_eq_getElem hi]
      exact hu
    have hul := (hG.edge he).2
    refine ⟨by omega, fun hne => ?_⟩
    rw [comps_getD hi, comps_getD hul] at hne ⊢
    exact order_ahead hG he hne
set_option maxRecDepth 100000 in
set_option maxHeartbeats 1200000 in
theorem sccEnds_c {w : World} {v : Value} {G : List (List Int)} (hv : RdGZ w v G) (hb : G.length ≤ 5864062014634) :
    Calls Try.prog 4 #[v] w fun e w' => e = .returned (.bool true) ∧ Fr w w' := by
  have HV := Lib.hid hv
  have HC := Lib.hid (CompsZ_c hv hb)
  have HO := Lib.hid (fun W (f : Fr w W) => OrderZ_c (HV.out.fr f) hb)
  have HF := Lib.hid (fun W (f : Fr w W) => few28_c (HV.out.fr f))
  cases hfew : fewB G
  · rw [hfew] at HF
    clear hv hb
    generalize errZ G = er at HC HO
    go_enter Try.func4, Try.ntmps4
    go_wp2_with fail
    refine HC.out.mono ?_
    rintro e w1 ⟨v1, rfl, h1, hf1⟩
    have HF1 := Lib.hid hf1
    have HO1 := Lib.hid (HO.out w1 hf1)
    clear hf1 h1 HC HO
    go_wp2_with fail
    refine HO1.out.mono ?_
    rintro e w2 ⟨v2, rfl, h2, hf2⟩
    have HF2 := Lib.hid (HF1.out.trans hf2)
    have HW2 := Lib.hid (HF.out w2 HF2.out)
    clear hf2 h2 HO1
    go_wp2_with fail
    refine HW2.out.mono ?_
    rintro e w3 ⟨rfl, hf3⟩
    have HF3 := Lib.hid (HF2.out.trans hf3)
    have HW3 := Lib.hid (HF.out w3 HF3.out)
    clear hf3 HW2 HF
    go_wp2_with fail
    refine HW3.out.mono ?_
    rintro e w4 ⟨rfl, hf4⟩
    have HF4 := Lib.hid (HF3.out.trans hf4)
    clear hf4 HW3
    go_wp2_with fail
    refine (works28_c w4).mono ?_
    rintro e w5 ⟨rfl, hf5⟩
    have HF5 := Lib.hid (HF4.out.trans hf5)
    clear hf5
    go_wp2_with fail
    go_ret
    exact ⟨rfl, HF5.out⟩
  · rw [hfew] at HF
    have hb16 := (fewB_spec hfew).1
    cases hm : mayZ G
    · have her : errZ G = 2 := by unfold errZ; rw [hm]; rfl
      rw [her] at HC HO
      clear hv her hb
      go_enter Try.func4, Try.ntmps4
      go_wp2_with fail
      refine HC.out.mono ?_
      rintro e w1 ⟨v1, rfl, h1, hf1⟩
      have HF1 := Lib.hid hf1
      have HO1 := Lib.hid (HO.out w1 hf1)
      clear hf1 h1 HC HO
      go_wp2_with fail
      refine HO1.out.mono ?_
      rintro e w2 ⟨v2, rfl, h2, hf2⟩
      have HF2 := Lib.hid (HF1.out.trans hf2)
      have HW2 := Lib.hid (HF.out w2 HF2.out)
      clear hf2 h2 HO1
      go_wp2_with fail
      refine HW2.out.mono ?_
      rintro e w3 ⟨rfl, hf3⟩
      have HF3 := Lib.hid (HF2.out.trans hf3)
      have HW3 := Lib.hid (HF.out w3 HF3.out)
      clear hf3 HW2 HF
      go_wp2_with fail
      refine HW3.out.mono ?_
      rintro e w4 ⟨rfl, hf4⟩
      have HF4 := Lib.hid (HF3.out.trans hf4)
      clear hf4 HW3
      go_wp2_with fail
      refine (works28_c w4).mono ?_
      rintro e w5 ⟨rfl, hf5⟩
      have HF5 := Lib.hid (HF4.out.trans hf5)
      clear hf5
      go_wp2_with fail
      go_ret
      exact ⟨rfl, HF5.out⟩
    · have her : errZ G = 0 := by unfold errZ; rw [hm]; rfl
      have hcz : compsZ G = compsOf (natG G) := by unfold compsZ; rw [hm]; rfl
      have hoz : orderZ G = orderOf (natG G) := by unfold orderZ; rw [hm]; rfl
      rw [her, hcz] at HC
      rw [her, hoz] at HO
      have HE := Lib.hid (ends_facts hm)
      have HN := Lib.hid (hv.nat hm)
      have hnl := natG_length G
      obtain ⟨va, vc, rfl⟩ := hv.form
      clear hv her hcz hoz hfew hm HV hb
      generalize compsOf (natG G) = C at HC HE
      generalize orderOf (natG G) = O at HO HE
      rw [← hnl] at hb16 HE HC HO HF HN ⊢
      clear hnl
      generalize natG G = N at hb16 HE HC HO HF HN ⊢
      go_enter Try.func4, Try.ntmps4
      go_wp2_with fail
      refine HC.out.mono ?_
      rintro e w1 ⟨v1, rfl, h1, hf1⟩
      have HF1 := Lib.hid hf1
      have HO1 := Lib.hid (HO.out w1 hf1)
      have HR1 := Lib.hid h1
      clear hf1 h1 HC HO
      go_wp2_with fail
      refine HO1.out.mono ?_
      rintro e w2 ⟨v2, rfl, h2, hf2⟩
      have HF2 := Lib.hid (HF1.out.trans hf2)
      have HW2 := Lib.hid (HF.out w2 HF2.out)
      have HR1 := Lib.hid (HR1.out.fr hf2)
      have HR2 := Lib.hid h2
      clear hf2 h2 HO1 HF
      go_wp2_with fail
      refine HW2.out.mono ?_
      rintro e w3 ⟨rfl, hf3⟩
      have HF3 := Lib.hid (HF2.out.trans hf3)
      obtain ⟨ca, cc, rfl, hcc, hcx⟩ := HR1.out.fr hf3
      obtain ⟨oa, oc, rfl, hoc, hox⟩ := HR2.out.fr hf3
      obtain ⟨na, nc, hne, hnc, hnx⟩ := HN.out.fr HF3.out
      cases hne
      have HCX : Hid (∀ i, i < N.length → ∃ g o, ca = some ⟨g, o, none⟩ ∧ w3.cell? ⟨g, o + i, none⟩ = some (.int .i64 (C.getD i 0 : Nat))) := Lib.hid (fun i hi => by
        have hi' : i < C.length := by rw [HE.out.clen]; exact hi
        obtain ⟨g, o, h1, h2⟩ := hcx i hi'
        refine ⟨g, o, h1, ?_⟩
        rw [h2, getD_at hi']; rfl)
      have HOX : Hid (∀ i, i < O.length → ∃ g o, oa = some ⟨g, o, none⟩ ∧ w3.cell? ⟨g, o + i, none⟩ = some (.int .i64 (O.getD i 0 : Nat))) := Lib.hid (fun i hi => by
        obtain ⟨g, o, h1, h2⟩ := hox i hi
        refine ⟨g, o, h1, ?_⟩
        rw [h2, getD_at hi]; rfl)
      have HNX := Lib.hid hnx
      have hol := HE.out.olen
      have hmk := mk_ints O.length (by omega)
      have HB0 : Hid (Fr w3 (w3.alloc (.cells (madeCells #[.int .i64 0] O.length) 3)) ∧ w3.heap.size < (w3.alloc (.cells (madeCells #[.int .i64 0] O.length) 3)).heap.size ∧ ∀ c, c < O.length → Cel (w3.alloc (.cells (madeCells #[.int .i64 0] O.length) 3)) w3.heap.size c (intV (placeTo O 0 c))) :=
        Lib.hid ⟨(Fr.refl w3).alloc _, by simp, fun i hi => (BoxAt.new' w3 _ _ _ rfl).cel i (made_at hi)⟩
      rw [HE.out.clen] at hcc ⊢
      clear hf3 HW2 HR1 HR2 HN hcx hox hnx
      go_wp2_with fail
      go_loopw [8] (fun vi wr => ∃ i : Nat, i ≤ O.length ∧ vi = .int .i64 i ∧ Hid (Fr w3 wr ∧ w3.heap.size < wr.heap.size ∧ ∀ c, c < O.length → Cel wr w3.heap.size c (intV (placeTo O i c)))) (fun vi _ => O.length - (intOf vi).toNat)
      case atStart => exact ⟨0, Nat.zero_le _, rfl, HB0⟩
      case round =>
        obtain ⟨i, hi, rfl, HR⟩ := hrel
        clear HB0 hmk
        by_cases hit : i < O.length
        · obtain ⟨og, oo, rfl, hz⟩ := HOX.out i hit
          have hz := HR.out.1.keep hz
          have lz := lt_of_cell hz
          simp only at lz
          have hxl := HE.out.olt i hit
          have hfr := HE.out.fresh i hit
          have hcel := HR.out.2.2 _ hxl
          rw [hfr] at hcel
          have c1 := hcel.1
          have f1 := hcel.2
          have l1 := hcel.lt
          have HPS : Hid (∀ c, placeTo O (i + 1) c = if c = O.getD i 0 then i + 1 else placeTo O i c) := Lib.hid (fun c => rfl)
          unfold intV at c1
          clear hcel hfr
          generalize O.getD i 0 = x at hz hxl c1 f1 HPS
          have HN : Hid (Fr w3 (wr.setCell ⟨w3.heap.size, x, none⟩ (.int .i64 ((i : Int) + 1))) ∧ w3.heap.size < (wr.setCell ⟨w3.heap.size, x, none⟩ (.int .i64 ((i : Int) + 1))).heap.size ∧ ∀ c, c < O.length → Cel (wr.setCell ⟨w3.heap.size, x, none⟩ (.int .i64 ((i : Int) + 1))) w3.heap.size c (intV (placeTo O (i + 1) c))) := Lib.hid (by
            refine ⟨((Chg.refl (fun b => b = w3.heap.size) wr).set (p := ⟨w3.heap.size, x, none⟩) (.inr rfl) _).fr HR.out.1 (fun b hb => by rw [hb]; exact Nat.le_refl _), by simpa using HR.out.2.1, fun c hc => ?_⟩
            rw [HPS.out c]
            by_cases e : c = x
            · subst e; rw [if_pos rfl]; exact (HR.out.2.2 c hc).set _
            · rw [if_neg e]; exact (HR.out.2.2 c hc).keepSet (.inr e) _)
          clear HPS HR
          go_wp2_with fail
          go_roundw
          case rel => exact ⟨i + 1, by omega, by go_num, HN⟩
          case measure => first | (simp [intOf]; done) | (simp [intOf]; omega)
        · obtain rfl : i = O.length := by omega
          obtain ⟨wo, rfl⟩ : ∃ wo, wo = wr := ⟨_, rfl⟩
          have lB := HR.out.2.1
          go_wp2_with fail
          go_loopw [9] (fun vi wr => ∃ i : Nat, i ≤ N.length ∧ vi = .int .i64 i ∧ Hid (Fr wo wr)) (fun vi _ => N.length - (intOf vi).toNat)
          case atStart => exact ⟨0, Nat.zero_le _, rfl, Fr.refl _⟩
          case round =>
            obtain ⟨i, hi, rfl, HI⟩ := hrel
            by_cases hit : i < N.length
            · obtain ⟨nb, no, u, rfl, hrw, ⟨ua, uc, rfl, huc, hux⟩, hul⟩ := HNX.out i hit
              obtain ⟨cg, co, rfl, hcz⟩ := HCX.out i hit
              have HUX := Lib.hid hux
              have HRW := Lib.hid hrw
              have HCZ := Lib.hid hcz
              have HED := Lib.hid (HE.out.edge i hit)
              have hxl := HE.out.clt i hit
              obtain ⟨wi, rfl⟩ : ∃ wi, wi = wr := ⟨_, rfl⟩
              clear hux hrw hcz
              generalize N[i] = l at HUX HRW HED huc hul
              go_wp2_with fail
              go_loopw [10] (fun vk wr => ∃ k : Nat, k ≤ l.length ∧ vk = .int .i64 k ∧ Hid (Fr wi wr)) (fun vk _ => l.length - (intOf vk).toNat)
              case atStart => exact ⟨0, Nat.zero_le _, rfl, Fr.refl _⟩
              case round =>
                obtain ⟨k, hk, rfl, HK⟩ := hrel
                have hfo := HI.out.trans HK.out
                have hf3 := HR.out.1.trans hfo
                have hrw := hf3.keep HRW.out
                have lrw := lt_of_cell hrw
                simp only at lrw
                by_cases hkt : k < l.length
                · obtain ⟨xg, xo, rfl, hxz⟩ := HUX.out k hkt
                  have hxz := hf3.keep hxz
                  have lxz := lt_of_cell hxz
                  obtain ⟨hun, hpl⟩ := HED.out l[k] (List.getElem_mem hkt)
                  obtain ⟨cg2, co2, e2, hcu⟩ := HCX.out _ hun
                  cases e2
                  have hcu := hf3.keep hcu
                  have hci := hf3.keep HCZ.out
                  have lci := lt_of_cell hci
                  have hyl := HE.out.clt _ hun
                  have hpa := (HR.out.2.2 _ hxl).1
                  have hpb := (HR.out.2.2 _ hyl).1
                  have hpa := hfo.keep hpa
                  have hpb := hfo.keep hpb
                  have lpa := lt_of_cell hpa
                  simp only at lxz lci lpa
                  have HPL := Lib.hid hpl
                  have hqa := placeTo_le O (C.getD i 0) O.length
                  have hqb := placeTo_le O (C.getD l[k] 0) O.length
                  have HFF : Hid (∀ W, Fr wr W → Fr wi W) := Lib.hid (fun W f => HK.out.trans f)
                  unfold intV at hxz hpa hpb
                  clear hpl hfo HK
                  generalize C.getD l[k] 0 = y at hcu hyl hpb HPL hqb
                  generalize l[k] = uu at hxz hun hcu
                  generalize C.getD i 0 = x at hci hpa HPL hqa hxl
                  generalize placeTo O O.length x = px at hpa HPL hqa
                  generalize placeTo O O.length y = py at hpb HPL hqb
                  have k1 : decide ((x : Int) < 0) = false := by simp
                  have k2 : decide ((y : Int) < 0) = false := by simp
                  have k3 : decide ((O.length : Int) ≤ (x : Int)) = false := by simp; omega
                  have k4 : decide ((O.length : Int) ≤ (y : Int)) = false := by simp; omega
                  have k5 : decide (O.length ≤ x) = false := by simp; omega
                  have k6 : decide (O.length ≤ y) = false := by simp; omega
                  by_cases hxy : x = y
                  · subst hxy
                    have e1 : ((x : Int) != (x : Int)) = false := by simp
                    have e2 : (x != x) = false := by simp
                    clear HPL hpb k2 k4 k6
                    go_wp2_with fail
                    go_quiet (fail)
                    go_wp2_with fail
                    go_quiet (fail)
                    go_wp2_with fail
                    go_roundw
                    case rel => exact ⟨k + 1, by omega, by go_num, HFF.out _ (by first | exact Fr.refl _ | exact (Fr.refl _).drew | exact (Fr.refl _).drewN _ | exact (Fr.refl _).drew.drew)⟩
                    case measure => first | (simp [intOf]; done) | (simp [intOf]; omega)
                  · have hlt := HPL.out hxy
                    have e1 : ((x : Int) != (y : Int)) = true := by simp; omega
                    have e2 : (x != y) = true := by simpa using hxy
                    have e3 : (x == y) = false := by simpa using hxy
                    have g1 : ¬ (py : Int) ≥ (px : Int) := by omega
                    have g2 : decide ((px : Int) ≤ (py : Int)) = false := by simp; omega
                    have g3 : decide (px ≤ py) = false := by simp; omega
                    clear HPL
                    go_wp2_with fail
                    go_quiet (fail)
                    go_wp2_with fail
                    go_quiet (fail)
                    go_wp2_with fail
                    go_roundw
                    case rel => exact ⟨k + 1, by omega, by go_num, HFF.out _ (by first | exact Fr.refl _ | exact (Fr.refl _).drew | exact (Fr.refl _).drewN _ | exact (Fr.refl _).drew.drew)⟩
                    case measure => first | (simp [intOf]; done) | (simp [intOf]; omega)
                · obtain rfl : k = l.length := by omega
                  have HN := Lib.hid hfo
                  clear hf3 hfo
                  go_wp2_with fail
                  go_roundw
                  case rel => exact ⟨i + 1, by omega, by go_num, HN⟩
                  case measure => first | (simp [intOf]; done) | (simp [intOf]; omega)
            · obtain rfl : i = N.length := by omega
              go_wp2_with fail
              refine (works28_c wr).mono ?_
              rintro e w8 ⟨rfl, hf8⟩
              have HN := Lib.hid (HF3.out.trans (HR.out.1.trans (HI.out.trans hf8)))
              clear hf8
              go_wp2_with fail
              go_ret
              exact ⟨rfl, HN.out⟩
end Go.Proofs.Ytadognaafgndnaa
