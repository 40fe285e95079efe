/- Layer 28: graphs in memory: what it is to read them. No condition but what each says. -/
import Derived.Test.YtadognaafgndnaaPGen
import Derived.Test.YtadognaafgndnaaPSccP
set_option linter.all false
set_option linter.unusedVariables false
set_option linter.unusedSimpArgs false
set_option linter.unnecessarySimpa false
/- Layer 28: graphs in memory: what it is to read them. No condition but what each says. -/
namespace Go.Proofs.Ytadognaafgndnaa
open Go.RowKit

/-- A graph in memory. -/
def RdGr (w : World) (v : Value) (G : List (List Nat)) : Prop := ∃ a c, v = .slice a G.length c ∧ G.length ≤ c ∧ ∀ i (hi : i < G.length), ∃ b o u, a = some ⟨b, o, none⟩ ∧ w.cell? ⟨b, o + i, none⟩ = some u ∧ RdI w u G[i] ∧ G[i].length ≤ 9223372036854775807
theorem RdGr.fr {w w' : World} {v : Value} {G : List (List Nat)} (h : RdGr w v G) (f : Fr w w') : RdGr w' v G := by
  obtain ⟨a, c, h1, h2, h3⟩ := h
  refine ⟨a, c, h1, h2, fun i hi => ?_⟩
  obtain ⟨b, o, u, h4, h5, h6, h7⟩ := h3 i hi
  exact ⟨b, o, u, h4, f.keep h5, h6.fr f, h7⟩
/-- Numbers in memory. -/
def RdZ (w : World) (v : Value) (l : List Int) : Prop := ∃ a cap, v = .slice a l.length cap ∧ l.length ≤ cap ∧ cap ≤ 9223372036854775807 ∧ ∀ i (hi : i < l.length), ∃ g o, a = some ⟨g, o, none⟩ ∧ w.cell? ⟨g, o + i, none⟩ = some (.int .i64 l[i])
theorem RdZ.fr {w w' : World} {v : Value} {l : List Int} (h : RdZ w v l) (f : Fr w w') : RdZ w' v l := by
  obtain ⟨a, c, h1, h2, h3, h4⟩ := h
  exact ⟨a, c, h1, h2, h3, fun i hi => by
    obtain ⟨g, o, h5, h6⟩ := h4 i hi
    exact ⟨g, o, h5, f.keep h6⟩⟩
/-- Rows of numbers in memory. -/
def RdGZ (w : World) (v : Value) (G : List (List Int)) : Prop := ∃ a c, v = .slice a G.length c ∧ G.length ≤ c ∧ c ≤ 9223372036854775807 ∧ ∀ i (hi : i < G.length), ∃ b o u, a = some ⟨b, o, none⟩ ∧ w.cell? ⟨b, o + i, none⟩ = some u ∧ RdZ w u G[i]
theorem RdGZ.fr {w w' : World} {v : Value} {G : List (List Int)} (h : RdGZ w v G) (f : Fr w w') : RdGZ w' v G := by
  obtain ⟨a, c, h1, h2, h3, h4⟩ := h
  refine ⟨a, c, h1, h2, h3, fun i hi => ?_⟩
  obtain ⟨b, o, u, h5, h6, h7⟩ := h4 i hi
  exact ⟨b, o, u, h5, f.keep h6, h7.fr f⟩
theorem RdGZ.form {w : World} {v : Value} {G : List (List Int)} (h : RdGZ w v G) : ∃ a c, v = .slice a G.length c := by
  obtain ⟨a, c, h, _⟩ := h
  exact ⟨a, c, h⟩
/-- May a graph be? -/
def badZ (n : Nat) (k : Int) : Bool := decide (k < 0) || decide ((n : Int) ≤ k)
def mayZ (G : List (List Int)) : Bool := G.all fun l => !(l.any (badZ G.length))
def natG (G : List (List Int)) : List (List Nat) := G.map fun l => l.map Int.toNat
theorem natG_length (G : List (List Int)) : (natG G).length = G.length := by simp [natG]
theorem natG_may {G : List (List Int)} (h : mayZ G = true) : MayG (natG G) := by
  intro l hl k hk
  obtain ⟨m, hm, rfl⟩ := List.mem_map.1 hl
  obtain ⟨z, hz, rfl⟩ := List.mem_map.1 hk
  have h1 := List.all_eq_true.1 h m hm
  have h2 : badZ G.length z = false := by
    cases h3 : badZ G.length z
    · rfl
    · have : m.any (badZ G.length) = true := List.any_eq_true.2 ⟨z, hz, h3⟩
      simp [this] at h1
  rw [natG_length]
  unfold badZ at h2
  simp at h2
  omega
theorem RdGZ.nat {w : World} {v : Value} {G : List (List Int)} (h : RdGZ w v G) (hm : mayZ G = true) : RdGr w v (natG G) := by
  obtain ⟨a, c, rfl, h2, h3, h4⟩ := h
  refine ⟨a, c, by rw [natG_length], by rw [natG_length]; exact h2, fun i hi => ?_⟩
  have hi' : i < G.length := by rw [natG_length] at hi; exact hi
  obtain ⟨b, o, u, h5, h6, a2, c2, rfl, h7, h8, h9⟩ := h4 i hi'
  have e : (natG G)[i] = G[i].map Int.toNat := by simp [natG]
  have hall := List.all_eq_true.1 hm G[i] (List.getElem_mem hi')
  refine ⟨b, o, _, h5, h6, ?_, by rw [e, List.length_map]; omega⟩
  rw [e]
  refine ⟨a2, c2, by rw [List.length_map], by rw [List.length_map]; exact h7, fun j hj => ?_⟩
  have hj' : j < G[i].length := by rw [List.length_map] at hj; exact hj
  obtain ⟨g, p, h10, h11⟩ := h9 j hj'
  refine ⟨g, p, h10, ?_⟩
  rw [h11, List.getElem_map]
  have h2 : badZ G.length G[i][j] = false := by
    cases h3 : badZ G.length G[i][j]
    · rfl
    · have : G[i].any (badZ G.length) = true := List.any_eq_true.2 ⟨_, List.getElem_mem hj', h3⟩
      simp [this] at hall
  unfold badZ at h2
  simp at h2
  unfold intV
  congr 2
  omega
end Go.Proofs.Ytadognaafgndnaa

/- Layer 28: the document's May and the law's may: their walks. No condition but that the graph can be read. -/
namespace Go.Proofs.Ytadognaafgndnaa
open Go.RowKit
attribute [local go_sem] Oper.semAt_some

set_option maxRecDepth 100000 in
set_option maxHeartbeats 4000000 in
theorem docMay_c {w : World} {v : Value} {G : List (List Int)} (hv : RdGZ w v G) :
    Calls Try.prog 27 #[v] w fun e w' => e = .returned (.bool (mayZ G)) ∧ Fr w w' := by
  obtain ⟨va, vc, rfl, hvc, hmx, hx⟩ := hv
  have HX := Lib.hid hx
  clear hx
  go_enter Try.func27, Try.ntmps27
  go_wp2_with fail
  go_loopw [3] (fun vi wr => ∃ i : Nat, i ≤ G.length ∧ vi = .int .i64 i ∧ Hid (Fr w wr ∧ (G.take i).all (fun l => !(l.any (badZ G.length))) = true)) (fun vi _ => G.length - (intOf vi).toNat)
  case atStart => exact ⟨0, Nat.zero_le _, rfl, ⟨Fr.refl _, by simp⟩⟩
  case round =>
    obtain ⟨i, hi, rfl, HR⟩ := hrel
    by_cases hit : i < G.length
    · obtain ⟨b, o, u, rfl, hc, a2, c2, rfl, hlc, hcm, hn⟩ := HX.out i hit
      have HT : Hid ((G.take (i + 1)).all (fun l => !(l.any (badZ G.length))) = ((G.take i).all (fun l => !(l.any (badZ G.length))) && !(G[i].any (badZ G.length)))) := Lib.hid (by rw [List.take_succ_eq_append_getElem hit, List.all_append]; simp)
      have HA : Hid (G[i].any (badZ G.length) = true → mayZ G = false) := Lib.hid (fun h => by
        cases h2 : mayZ G
        · rfl
        · have := List.all_eq_true.1 h2 G[i] (List.getElem_mem hit)
          rw [h] at this; cases this)
      have HC := Lib.hid hc
      have HN := Lib.hid hn
      clear hc hn
      generalize G[i] = l at HT HA HC HN hlc
      obtain ⟨wo, rfl⟩ : ∃ wo, wo = wr := ⟨_, rfl⟩
      have lb : b < w.heap.size := lt_of_cell HC.out
      go_wp2_with fail
      go_loopw [4] (fun vk wr => ∃ k : Nat, k ≤ l.length ∧ vk = .int .i64 k ∧ Hid (Fr wo wr ∧ (l.take k).any (badZ G.length) = false)) (fun vk _ => l.length - (intOf vk).toNat)
      case atStart => exact ⟨0, Nat.zero_le _, rfl, ⟨Fr.refl _, by simp⟩⟩
      case round =>
        obtain ⟨k, hk, rfl, HI⟩ := hrel
        have hf := HR.out.1.trans HI.out.1
        have c1 := hf.keep HC.out
        have l1 : b < wr.heap.size := Nat.lt_of_lt_of_le lb hf.size
        have HF := Lib.hid hf
        clear hf
        by_cases hkt : k < l.length
        · obtain ⟨g, p, rfl, hz⟩ := HN.out k hkt
          have c2' := HF.out.keep hz
          have l2 : g < wr.heap.size := lt_of_cell c2'
          have HTK : Hid ((l.take (k + 1)).any (badZ G.length) = ((l.take k).any (badZ G.length) || badZ G.length l[k])) := Lib.hid (by rw [List.take_succ_eq_append_getElem hkt, List.any_append]; simp)
          have HAK : Hid (badZ G.length l[k] = true → mayZ G = false) := Lib.hid (fun h => HA.out (List.any_eq_true.2 ⟨_, List.getElem_mem hkt, h⟩))
          clear hz
          generalize l[k] = z at c2' HTK HAK
          by_cases h1 : z < 0
          · have hd : decide (z < 0) = true := by simpa using h1
            have HY := Lib.hid (HAK.out (by unfold badZ; rw [hd]; rfl))
            clear HTK HAK
            go_wp2_with fail
            go_ret
            exact ⟨by rw [HY.out]; rfl, HF.out⟩
          · have hd : decide (z < 0) = false := by simpa using h1
            by_cases h2 : (G.length : Int) ≤ z
            · have hd2 : decide ((G.length : Int) ≤ z) = true := by simpa using h2
              have hge : z ≥ (G.length : Int) := h2
              have HY := Lib.hid (HAK.out (by unfold badZ; rw [hd2, Bool.or_true]))
              clear HTK HAK
              go_wp2_with fail
              go_ret
              exact ⟨by rw [HY.out]; rfl, HF.out⟩
            · have hd2 : decide ((G.length : Int) ≤ z) = false := by simpa using h2
              have hge : ¬ z ≥ (G.length : Int) := h2
              have HY : Hid (Fr wo wr ∧ (l.take (k + 1)).any (badZ G.length) = false) := Lib.hid ⟨HI.out.1, by rw [HTK.out, HI.out.2]; unfold badZ; rw [hd, hd2]; rfl⟩
              clear HTK HAK HI
              go_wp2_with fail
              go_roundw
              case rel => exact ⟨k + 1, by omega, by go_num, HY⟩
              case measure => first | (simp [intOf]; done) | (simp [intOf]; omega)
        · obtain rfl : k = l.length := by omega
          have HY : Hid (Fr w wr ∧ (G.take (i + 1)).all (fun l => !(l.any (badZ G.length))) = true) := Lib.hid ⟨HF.out, by
            have h := HI.out.2
            rw [List.take_length] at h
            rw [HT.out, HR.out.2, h]; rfl⟩
          clear HT HA HI
          go_wp2_with fail
          go_roundw
          case rel => exact ⟨i + 1, by omega, by go_num, HY⟩
          case measure => first | (simp [intOf]; done) | (simp [intOf]; omega)
    · obtain rfl : i = G.length := by omega
      have HR2 := HR.out
      rw [List.take_length] at HR2
      have HR3 := Lib.hid HR2
      clear HR2 HR
      go_wp2_with fail
      go_ret
      exact ⟨by unfold mayZ; rw [HR3.out.2]; rfl, HR3.out.1⟩
set_option maxRecDepth 100000 in
set_option maxHeartbeats 4000000 in
theorem lawMay_c {w : World} {v : Value} {G : List (List Int)} (hv : RdGZ w v G) :
    Calls Try.prog 21 #[v] w fun e w' => e = .returned (.bool (mayZ G)) ∧ Fr w w' := by
  obtain ⟨va, vc, rfl, hvc, hmx, hx⟩ := hv
  have HX := Lib.hid hx
  clear hx
  go_enter Try.func21, Try.ntmps21
  go_wp2_with fail
  go_loopw [3] (fun vi wr => ∃ i : Nat, i ≤ G.length ∧ vi = .int .i64 i ∧ Hid (Fr w wr ∧ (G.take i).all (fun l => !(l.any (badZ G.length))) = true)) (fun vi _ => G.length - (intOf vi).toNat)
  case atStart => exact ⟨0, Nat.zero_le _, rfl, ⟨Fr.refl _, by simp⟩⟩
  case round =>
    obtain ⟨i, hi, rfl, HR⟩ := hrel
    by_cases hit : i < G.length
    · obtain ⟨b, o, u, rfl, hc, a2, c2, rfl, hlc, hcm, hn⟩ := HX.out i hit
      have HT : Hid ((G.take (i + 1)).all (fun l => !(l.any (badZ G.length))) = ((G.take i).all (fun l => !(l.any (badZ G.length))) && !(G[i].any (badZ G.length)))) := Lib.hid (by rw [List.take_succ_eq_append_getElem hit, List.all_append]; simp)
      have HA : Hid (G[i].any (badZ G.length) = true → mayZ G = false) := Lib.hid (fun h => by
        cases h2 : mayZ G
        · rfl
        · have := List.all_eq_true.1 h2 G[i] (List.getElem_mem hit)
          rw [h] at this; cases this)
      have HC := Lib.hid hc
      have HN := Lib.hid hn
      clear hc hn
      generalize G[i] = l at HT HA HC HN hlc
      obtain ⟨wo, rfl⟩ : ∃ wo, wo = wr := ⟨_, rfl⟩
      have lb : b < w.heap.size := lt_of_cell HC.out
      go_wp2_with fail
      go_loopw [4] (fun vk wr => ∃ k : Nat, k ≤ l.length ∧ vk = .int .i64 k ∧ Hid (Fr wo wr ∧ (l.take k).any (badZ G.length) = false)) (fun vk _ => l.length - (intOf vk).toNat)
      case atStart => exact ⟨0, Nat.zero_le _, rfl, ⟨Fr.refl _, by simp⟩⟩
      case round =>
        obtain ⟨k, hk, rfl, HI⟩ := hrel
        have hf := HR.out.1.trans HI.out.1
        have c1 := hf.keep HC.out
        have l1 : b < wr.heap.size := Nat.lt_of_lt_of_le lb hf.size
        have HF := Lib.hid hf
        clear hf
        by_cases hkt : k < l.length
        · obtain ⟨g, p, rfl, hz⟩ := HN.out k hkt
          have c2' := HF.out.keep hz
          have l2 : g < wr.heap.size := lt_of_cell c2'
          have HTK : Hid ((l.take (k + 1)).any (badZ G.length) = ((l.take k).any (badZ G.length) || badZ G.length l[k])) := Lib.hid (by rw [List.take_succ_eq_append_getElem hkt, List.any_append]; simp)
          have HAK : Hid (badZ G.length l[k] = true → mayZ G = false) := Lib.hid (fun h => HA.out (List.any_eq_true.2 ⟨_, List.getElem_mem hkt, h⟩))
          clear hz
          generalize l[k] = z at c2' HTK HAK
          by_cases h1 : z < 0
          · have hd : decide (z < 0) = true := by simpa using h1
            have HY := Lib.hid (HAK.out (by unfold badZ; rw [hd]; rfl))
            clear HTK HAK
            go_wp2_with fail
            go_ret
            exact ⟨by rw [HY.out]; rfl, HF.out⟩
          · have hd : decide (z < 0) = false := by simpa using h1
            by_cases h2 : (G.length : Int) ≤ z
            · have hd2 : decide ((G.length : Int) ≤ z) = true := by simpa using h2
              have hge : z ≥ (G.length : Int) := h2
              have HY := Lib.hid (HAK.out (by unfold badZ; rw [hd2, Bool.or_true]))
              clear HTK HAK
              go_wp2_with fail
              go_ret
              exact ⟨by rw [HY.out]; rfl, HF.out⟩
            · have hd2 : decide ((G.length : Int) ≤ z) = false := by simpa using h2
              have hge : ¬ z ≥ (G.length : Int) := h2
              have HY : Hid (Fr wo wr ∧ (l.take (k + 1)).any (badZ G.length) = false) := Lib.hid ⟨HI.out.1, by rw [HTK.out, HI.out.2]; unfold badZ; rw [hd, hd2]; rfl⟩
              clear HTK HAK HI
              go_wp2_with fail
              go_roundw
              case rel => exact ⟨k + 1, by omega, by go_num, HY⟩
              case measure => first | (simp [intOf]; done) | (simp [intOf]; omega)
        · obtain rfl : k = l.length := by omega
          have HY : Hid (Fr w wr ∧ (G.take (i + 1)).all (fun l => !(l.any (badZ G.length))) = true) := Lib.hid ⟨HF.out, by
            have h := HI.out.2
            rw [List.take_length] at h
            rw [HT.out, HR.out.2, h]; rfl⟩
          clear HT HA HI
          go_wp2_with fail
          go_roundw
          case rel => exact ⟨i + 1, by omega, by go_num, HY⟩
          case measure => first | (simp [intOf]; done) | (simp [intOf]; omega)
    · obtain rfl : i = G.length := by omega
      have HR2 := HR.out
      rw [List.take_length] at HR2
      have HR3 := Lib.hid HR2
      clear HR2 HR
      go_wp2_with fail
      go_ret
      exact ⟨by unfold mayZ; rw [HR3.out.2]; rfl, HR3.out.1⟩
end Go.Proofs.Ytadognaafgndnaa
