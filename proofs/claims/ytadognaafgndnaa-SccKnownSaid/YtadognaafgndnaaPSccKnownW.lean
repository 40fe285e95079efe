/- umpirelaw28.SccKnown: the law's walk. No condition. -/
import Derived.Test.YtadognaafgndnaaPSccLawH
set_option linter.all false
set_option linter.unusedVariables false
set_option linter.unusedSimpArgs false
set_option linter.unnecessarySimpa false
/- umpirelaw28.SccKnown: the law's walk. No condition. -/
namespace Go.Proofs.Ytadognaafgndnaa
open Go.RowKit
attribute [local go_sem] Oper.semAt_some

theorem lit3 : compsOf (natG [[], [1], [0]]) = [0, 1, 2] := by decide
theorem lit3o : orderOf (natG [[], [1], [0]]) = [0, 1, 2] := by decide
theorem lit3t : turnsOf (natG [[], [1], [0]]) = [false, true, false] := by decide
theorem lit2g : sortG (groupsOf (natG [[2], [0], [3], [2]])) = [[0], [1], [2, 3]] := by decide
/-- The long way. -/
def ringZ (n i : Nat) : List (List Int) := (List.range i).map fun k => [(((k + 1) % n : Nat) : Int)]
theorem ringZ_succ (n i : Nat) : ringZ n (i + 1) = ringZ n i ++ [[(((i + 1) % n : Nat) : Int)]] := by
  unfold ringZ
  rw [List.range_succ, List.map_append]; rfl
theorem ringZ_len (n i : Nat) : (ringZ n i).length = i := by simp [ringZ]
theorem ringZ_nat (n : Nat) : natG (ringZ n n) = ring n := by
  unfold natG ringZ ring
  rw [List.map_map]
  refine List.map_congr_left fun k _ => ?_
  simp only [Function.comp_apply, List.map_cons, List.map_nil, Int.toNat_natCast]
theorem ringZ_may {n : Nat} (hn : 0 < n) : mayZ (ringZ n n) = true := by
  unfold mayZ
  rw [List.all_eq_true]
  intro l hl
  obtain ⟨k, _, rfl⟩ := List.mem_map.1 hl
  have h := Nat.mod_lt (k + 1) hn
  rw [ringZ_len]
  simp only [List.any_cons, List.any_nil, Bool.or_false, badZ, Bool.not_eq_true', Bool.or_eq_false_iff, decide_eq_false_iff_not]
  omega
theorem long_c {w : World} {v : Value} {n : Nat} (hn : 0 < n) (hb : n ≤ 1100000) (hv : RdGZ w v (ringZ n n)) :
    Calls Try.prog 14 #[v] w fun e w' => ∃ a c, e = .returned (.tuple #[.slice a n c, .int .i64 0]) ∧ n ≤ c ∧ (∀ i, i < n → ∃ g o, a = some ⟨g, o, none⟩ ∧ w'.cell? ⟨g, o + i, none⟩ = some (.int .i64 0)) ∧ Fr w w' := by
  have h := Components_c hv (by rw [ringZ_len]; exact hb) (ringZ_may hn)
  rw [ringZ_nat] at h
  refine h.mono ?_
  rintro e w' ⟨vo, rfl, ⟨a, c, rfl, h2, h3⟩, hf⟩
  have hl : (compsOf (ring n)).length = n := by rw [compsOf_length]; simp [ring]
  rw [hl] at h2 ⊢
  refine ⟨a, c, rfl, h2, fun i hi => ?_, hf⟩
  obtain ⟨g, o, h4, h5⟩ := h3 i (by rw [hl]; exact hi)
  refine ⟨g, o, h4, ?_⟩
  rw [h5]
  have h6 := ring_comps hi
  rw [List.getElem?_eq_getElem (by rw [hl]; exact hi)] at h6
  rw [Option.some.inj h6]; rfl
theorem rdGZ_nil (W : World) : RdGZ W (.slice none 0 0) [] := ⟨none, 0, rfl, Nat.le_refl _, by omega, fun i hi => absurd hi (Nat.not_lt_zero i)⟩
set_option maxRecDepth 100000 in
set_option maxHeartbeats 4000000 in
theorem sccKnown_c (w : World) : Calls Try.prog 8 #[] w fun e w' => e = .returned (.bool true) ∧ Fr w w' := by
  go_enter Try.func8, Try.ntmps8
  go_wp2_with fail
  refine (Turns_c (G := [[], [1], [0]]) ?g1 (by decide) (by decide)).mono ?_
  case g1 => exact rdGZ_lit [(.slice none 0 0, []), (.slice (some ⟨w.heap.size, 0, none⟩) 1 1, [1]), (.slice (some ⟨w.heap.size + 1, 0, none⟩) 1 1, [0])] (by repeat (first | (refine BoxAt.new' _ _ _ _ ?_; (first | rfl | (simp; done))) | refine BoxAt.alloc ?_ _)) rfl (by decide) (by
    intro p hp
    simp only [List.mem_cons, List.not_mem_nil, or_false] at hp
    rcases hp with rfl | rfl | rfl
    · exact rdZ_nil _
    · exact rdZ_lit [1] (by repeat (first | (refine BoxAt.new' _ _ _ _ ?_; (first | rfl | (simp; done))) | refine BoxAt.alloc ?_ _)) rfl (by decide)
    · exact rdZ_lit [0] (by repeat (first | (refine BoxAt.new' _ _ _ _ ?_; (first | rfl | (simp; done))) | refine BoxAt.alloc ?_ _)) rfl (by decide))
  rintro e w1 ⟨v1, rfl, h1, hf1⟩
  rw [lit3t] at h1
  have HF1 : Hid (Fr w w1) := Lib.hid (by
    refine Fr.trans ?_ hf1
    repeat (first | exact Fr.refl _ | refine Fr.alloc ?_ _))
  have HB1 := Lib.hid h1
  clear hf1 h1
  go_wp2_with fail
  refine (Groups_c (G := [[2], [0], [3], [2]]) ?g2 (by decide) (by decide)).mono ?_
  case g2 => exact rdGZ_lit [(.slice (some ⟨w1.heap.size, 0, none⟩) 1 1, [2]), (.slice (some ⟨w1.heap.size + 1, 0, none⟩) 1 1, [0]), (.slice (some ⟨w1.heap.size + 1 + 1, 0, none⟩) 1 1, [3]), (.slice (some ⟨w1.heap.size + 1 + 1 + 1, 0, none⟩) 1 1, [2])] (by repeat (first | (refine BoxAt.new' _ _ _ _ ?_; (first | rfl | (simp; done))) | refine BoxAt.alloc ?_ _)) rfl (by decide) (by
    intro p hp
    simp only [List.mem_cons, List.not_mem_nil, or_false] at hp
    rcases hp with rfl | rfl | rfl | rfl
    · exact rdZ_lit [2] (by repeat (first | (refine BoxAt.new' _ _ _ _ ?_; (first | rfl | (simp; done))) | refine BoxAt.alloc ?_ _)) rfl (by decide)
    · exact rdZ_lit [0] (by repeat (first | (refine BoxAt.new' _ _ _ _ ?_; (first | rfl | (simp; done))) | refine BoxAt.alloc ?_ _)) rfl (by decide)
    · exact rdZ_lit [3] (by repeat (first | (refine BoxAt.new' _ _ _ _ ?_; (first | rfl | (simp; done))) | refine BoxAt.alloc ?_ _)) rfl (by decide)
    · exact rdZ_lit [2] (by repeat (first | (refine BoxAt.new' _ _ _ _ ?_; (first | rfl | (simp; done))) | refine BoxAt.alloc ?_ _)) rfl (by decide))
  rintro e w2 ⟨v2, rfl, h2, hf2⟩
  rw [lit2g] at h2
  have hf12 : Fr w1 w2 := by
    refine Fr.trans ?_ hf2
    repeat (first | exact Fr.refl _ | refine Fr.alloc ?_ _)
  have HF2 : Hid (Fr w w2) := Lib.hid (HF1.out.trans hf12)
  have HB2 := Lib.hid (HB1.out.fr hf12)
  have HG2 := Lib.hid h2
  clear hf2 h2 hf12 HB1
  go_wp2_with fail
  refine (works28_c w2).mono ?_
  rintro e w3 ⟨rfl, hf3⟩
  have HF3 : Hid (Fr w w3) := Lib.hid (HF2.out.trans hf3)
  have HB3 := Lib.hid (HB2.out.fr hf3)
  have HG3 := Lib.hid (HG2.out.fr hf3)
  clear hf3 HB2 HG2
  go_wp2_with fail
  refine (tells28_c (G := [[], [1], [0]]) ?g3 (by decide) (by decide) ?c3 ?o3).mono ?_
  case g3 => exact rdGZ_lit [(.slice none 0 0, []), (.slice (some ⟨w3.heap.size, 0, none⟩) 1 1, [1]), (.slice (some ⟨w3.heap.size + 1, 0, none⟩) 1 1, [0])] (by repeat (first | (refine BoxAt.new' _ _ _ _ ?_; (first | rfl | (simp; done))) | refine BoxAt.alloc ?_ _)) rfl (by decide) (by
    intro p hp
    simp only [List.mem_cons, List.not_mem_nil, or_false] at hp
    rcases hp with rfl | rfl | rfl
    · exact rdZ_nil _
    · exact rdZ_lit [1] (by repeat (first | (refine BoxAt.new' _ _ _ _ ?_; (first | rfl | (simp; done))) | refine BoxAt.alloc ?_ _)) rfl (by decide)
    · exact rdZ_lit [0] (by repeat (first | (refine BoxAt.new' _ _ _ _ ?_; (first | rfl | (simp; done))) | refine BoxAt.alloc ?_ _)) rfl (by decide))
  case c3 => rw [lit3]; exact rdI_lit [0, 1, 2] (by repeat (first | (refine BoxAt.new' _ _ _ _ ?_; (first | rfl | (simp; done))) | refine BoxAt.alloc ?_ _)) rfl
  case o3 => rw [lit3o]; exact rdI_lit [0, 1, 2] (by repeat (first | (refine BoxAt.new' _ _ _ _ ?_; (first | rfl | (simp; done))) | refine BoxAt.alloc ?_ _)) rfl
  rintro e w4 ⟨rfl, hf4⟩
  have hf34 : Fr w3 w4 := by
    refine Fr.trans ?_ hf4
    repeat (first | exact Fr.refl _ | refine Fr.alloc ?_ _)
  have HF4 : Hid (Fr w w4) := Lib.hid (HF3.out.trans hf34)
  obtain ⟨ta, tc, hv1, htc, htx⟩ := HB3.out.fr hf34
  obtain ⟨ga, gc, hv2, hgc, hgx⟩ := HG3.out.fr hf34
  subst hv1 hv2
  obtain ⟨tb, to_, rfl, ht0⟩ := htx 0 (by decide)
  obtain ⟨tb1, to1, e1, ht1⟩ := htx 1 (by decide)
  cases e1
  obtain ⟨tb2, to2, e1, ht2⟩ := htx 2 (by decide)
  cases e1
  obtain ⟨gb, go, u, rfl, hg2, hr2, _⟩ := hgx 2 (by decide)
  rw [Nat.add_zero] at ht0
  have ht0 : w4.cell? ⟨tb, to_, none⟩ = some (.bool false) := ht0
  have ht1 : w4.cell? ⟨tb, to_ + 1, none⟩ = some (.bool true) := ht1
  have ht2 : w4.cell? ⟨tb, to_ + 2, none⟩ = some (.bool false) := ht2
  have hr2 : RdI w4 u [2, 3] := hr2
  have HR2 := Lib.hid hr2
  have htc : 3 ≤ tc := htc
  have hgc : 3 ≤ gc := hgc
  have lt := lt_of_cell ht0
  have lg := lt_of_cell hg2
  simp only at lt lg
  clear hf4 hf34 HB3 HG3 htx hgx hr2 HF3
  go_wp2_with fail
  refine (same28_c (HR2.out.fr (by repeat (first | exact Fr.refl _ | refine Fr.alloc ?_ _))) (rdI_lit [2, 3] (by repeat (first | (refine BoxAt.new' _ _ _ _ ?_; (first | rfl | (simp; done))) | refine BoxAt.alloc ?_ _)) rfl) (by decide) (by decide)).mono ?_
  rintro e w5 ⟨he5, hf5⟩
  have he5 : e = .returned (.bool true) := he5
  subst he5
  have HF5 : Hid (Fr w w5) := Lib.hid (by
    refine HF4.out.trans (Fr.trans ?_ hf5)
    repeat (first | exact Fr.refl _ | refine Fr.alloc ?_ _))
  clear hf5 HR2 HF4 ht0 ht1 ht2 hg2 lt lg
  have HS : Hid (∃ gs, RowsAt w5 w5 (.slice none 0 0) gs (ringZ 20000 0)) := Lib.hid ⟨[], RowsAt.nil w5⟩
  go_wp2_with fail
  go_loopw [5, 6] (fun vo vi wr => ∃ i : Nat, i ≤ 20000 ∧ vi = .int .i64 i ∧ Hid (∃ gs, RowsAt w5 wr vo gs (ringZ 20000 i))) (fun _ vi _ => 20000 - (intOf vi).toNat)
  case atStart => exact ⟨0, Nat.zero_le _, rfl, HS⟩
  case round =>
    obtain ⟨i, hi, rfl, HR⟩ := hrel
    clear HS
    obtain ⟨gs, hR⟩ := HR.out
    have HRA := Lib.hid hR
    clear hR HR
    by_cases hit : i < 20000
    · have hglen := HRA.out.glen
      rw [ringZ_len] at hglen
      obtain ⟨oa, oc, hvo⟩ := vals_form HRA.out.row
      rw [ringZ_len] at hvo
      subst hvo
      obtain ⟨x, hx⟩ : ∃ x, x = (i + 1) % 20000 := ⟨_, rfl⟩
      have hrem : Int.tmod ((i : Int) + 1) 20000 = (x : Int) := by
        rw [hx, Int.tmod_eq_emod_of_nonneg (by omega)]
        omega
      have HTK : Hid (ringZ 20000 (i + 1) = ringZ 20000 i ++ [[(x : Int)]]) := Lib.hid (by rw [ringZ_succ, hx])
      clear hx
      have hlen : gs.length ≤ 4000000 := by omega
      have hown := (HRA.out.row.alloc (.cells #[.int .i64 (x : Nat)] 3)).alloc (.cells #[.slice (some ⟨wr.heap.size, 0, none⟩) 1 1] 25)
      rw [ringZ_len] at hown
      have hown : ((wr.alloc (.cells #[.int .i64 (x : Nat)] 3)).alloc (.cells #[.slice (some ⟨wr.heap.size, 0, none⟩) 1 1] 25)).ownsRow w5.heap.size 25 1 (.slice oa i oc) gs.length gs := by rw [hglen]; exact hown
      have hy : ((wr.alloc (.cells #[.int .i64 (x : Nat)] 3)).alloc (.cells #[.slice (some ⟨wr.heap.size, 0, none⟩) 1 1] 25)).cell? ⟨wr.heap.size + 1, 0, none⟩ = some (.slice (some ⟨wr.heap.size, 0, none⟩) 1 1) := (BoxAt.new' (wr.alloc (.cells #[.int .i64 (x : Nat)] 3)) #[.slice (some ⟨wr.heap.size, 0, none⟩) 1 1] 25 _ (by simp)).at 0 rfl
      have HFA := Lib.hid (((Fr.refl wr).alloc (.cells #[.int .i64 (x : Nat)] 3)).alloc (.cells #[.slice (some ⟨wr.heap.size, 0, none⟩) 1 1] 25))
      have hsz := (HRA.out.frm.trans HFA.out).size
      have HGV : Hid (((wr.alloc (.cells #[.int .i64 (x : Nat)] 3)).alloc (.cells #[.slice (some ⟨wr.heap.size, 0, none⟩) 1 1] 25)).ownsRow w5.heap.size 3 1 (.slice (some ⟨wr.heap.size, 0, none⟩) 1 1) ([(x : Int)] : List Int).length (([(x : Int)] : List Int).map zV)) := Lib.hid (by
        refine ⟨by simp, .inr ⟨wr.heap.size, 1, #[.int .i64 (x : Nat)], rfl, HRA.out.frm.size, ((BoxAt.new' wr #[.int .i64 (x : Nat)] 3 _ rfl).alloc _), Nat.le_refl _, by decide, rfl, rfl⟩⟩)
      have HBN : Hid (∀ j, rowOb (.slice oa i oc) gs j ≠ some wr.heap.size) := Lib.hid (fun j h => by have := (HRA.out.ge h).2; omega)
      clear hglen
      go_wp2_with (at_builtin; refine wpList_appendVal (base := w5.heap.size) rfl (.tmp 92) (.tmp 97) rfl _ gs rfl hown hsz (wr.heap.size + 1) 1 _ rfl rfl hy hlen ?_)
      intro va2 vn vc6 w6 hO6 hch6 hat6
      have HN : Hid (∃ gs, RowsAt w5 w6 (.slice va2 vn vc6) gs (ringZ 20000 (i + 1))) := Lib.hid ⟨_, by
        rw [HTK.out]
        exact (HRA.out.fr HFA.out).snoc HGV.out (fun b hb j => by cases hb; exact HBN.out j) hch6 hO6 (fun b hb => (hat6 b hb).imp id fun e => by subst e; simp)⟩
      clear hO6 hch6 hat6 hown hy hsz HFA HRA HTK HGV HBN
      go_wp2_with fail
      go_roundw
      case rel => exact ⟨i + 1, by omega, by go_num, HN⟩
      case measure => first | (simp [intOf]; done) | (simp [intOf]; omega)
    · obtain rfl : i = 20000 := by omega
      have HLC := Lib.hid (fun W (f : Fr wr W) => long_c (n := 20000) (by decide) (by decide) (HRA.out.rd.fr f))
      have HF6 : Hid (Fr w wr) := Lib.hid (HF5.out.trans HRA.out.frm)
      obtain ⟨oa, oc, hvo⟩ := vals_form HRA.out.row
      rw [ringZ_len] at hvo
      subst hvo
      clear HRA
      go_wp2_with fail
      refine (HLC.out wr (Fr.refl _)).mono ?_
      rintro e w7 ⟨la, lc, rfl, hlc, hlx, hf7⟩
      have HF7 : Hid (Fr w w7) := Lib.hid (HF6.out.trans hf7)
      have HLX := Lib.hid hlx
      clear hf7 hlx HLC HF6
      go_wp2_with fail
      refine gen_w fun WX hWX => ?_
      have HFX : Hid (Fr w7 WX) := Lib.hid (by
        rw [hWX]
        repeat (first | exact Fr.refl _ | refine Fr.alloc ?_ _))
      have HB3 : Hid (BoxAt WX (w7.heap.size + 1 + 1 + 1 + 1 + 1 + 1) #[.slice (some ⟨w7.heap.size + 1, 0, none⟩) 1 1, .slice (some ⟨w7.heap.size + 1 + 1 + 1, 0, none⟩) 1 1, .slice (some ⟨w7.heap.size + 1 + 1 + 1 + 1 + 1, 0, none⟩) 2 2] 22) := Lib.hid (by rw [hWX]; repeat (first | (refine BoxAt.new' _ _ _ _ ?_; (first | rfl | (simp; done))) | refine BoxAt.alloc ?_ _))
      have HG0 : Hid (RdGZ WX (.slice (some ⟨w7.heap.size + 1, 0, none⟩) 1 1) [[1]]) := Lib.hid (by
        rw [hWX]
        exact rdGZ_lit [(.slice (some ⟨w7.heap.size, 0, none⟩) 1 1, [1])] (by repeat (first | (refine BoxAt.new' _ _ _ _ ?_; (first | rfl | (simp; done))) | refine BoxAt.alloc ?_ _)) rfl (by decide) (by
          intro p hp
          rw [List.mem_singleton] at hp
          subst hp
          exact rdZ_lit [1] (by repeat (first | (refine BoxAt.new' _ _ _ _ ?_; (first | rfl | (simp; done))) | refine BoxAt.alloc ?_ _)) rfl (by decide)))
      have HG1 : Hid (RdGZ WX (.slice (some ⟨w7.heap.size + 1 + 1 + 1, 0, none⟩) 1 1) [[-1]]) := Lib.hid (by
        rw [hWX]
        exact rdGZ_lit [(.slice (some ⟨w7.heap.size + 1 + 1, 0, none⟩) 1 1, [-1])] (by repeat (first | (refine BoxAt.new' _ _ _ _ ?_; (first | rfl | (simp; done))) | refine BoxAt.alloc ?_ _)) rfl (by decide) (by
          intro p hp
          rw [List.mem_singleton] at hp
          subst hp
          exact rdZ_lit [-1] (by repeat (first | (refine BoxAt.new' _ _ _ _ ?_; (first | rfl | (simp; done))) | refine BoxAt.alloc ?_ _)) rfl (by decide)))
      have HG2 : Hid (RdGZ WX (.slice (some ⟨w7.heap.size + 1 + 1 + 1 + 1 + 1, 0, none⟩) 2 2) [[], [0, 2]]) := Lib.hid (by
        rw [hWX]
        exact rdGZ_lit [(.slice none 0 0, []), (.slice (some ⟨w7.heap.size + 1 + 1 + 1 + 1, 0, none⟩) 2 2, [0, 2])] (by repeat (first | (refine BoxAt.new' _ _ _ _ ?_; (first | rfl | (simp; done))) | refine BoxAt.alloc ?_ _)) rfl (by decide) (by
          intro p hp
          simp only [List.mem_cons, List.not_mem_nil, or_false] at hp
          rcases hp with rfl | rfl
          · exact rdZ_nil _
          · exact rdZ_lit [0, 2] (by repeat (first | (refine BoxAt.new' _ _ _ _ ?_; (first | rfl | (simp; done))) | refine BoxAt.alloc ?_ _)) rfl (by decide)))
      clear hWX
      have HBAD : Hid (∀ i, i < 3 → ∃ v G, WX.cell? ⟨w7.heap.size + 1 + 1 + 1 + 1 + 1 + 1, i, none⟩ = some v ∧ RdGZ WX v G ∧ mayZ G = false) := Lib.hid (fun i hi => by
        match i, hi with
        | 0, _ => exact ⟨_, _, HB3.out.at 0 rfl, HG0.out, by decide⟩
        | 1, _ => exact ⟨_, _, HB3.out.at 1 rfl, HG1.out, by decide⟩
        | 2, _ => exact ⟨_, _, HB3.out.at 2 rfl, HG2.out, by decide⟩)
      have lbb := HB3.out.lt
      clear HB3 HG0 HG1 HG2
      go_loopw [10] (fun vi wr => ∃ i : Nat, i ≤ 3 ∧ vi = .int .i64 i ∧ Hid (Fr WX wr)) (fun vi _ => 3 - (intOf vi).toNat)
      case atStart => exact ⟨0, Nat.zero_le _, rfl, Fr.refl _⟩
      case round =>
        obtain ⟨i, hi, rfl, HI⟩ := hrel
        by_cases hit : i < 3
        · obtain ⟨v, G, hvc, hvr, hvm⟩ := HBAD.out i hit
          have HV := Lib.hid hvr
          have HVC := Lib.hid hvc
          have HM := Lib.hid hvm
          obtain ⟨ba, bc, rfl⟩ := hvr.form
          have c1 := HI.out.keep HVC.out
          have l1 := lt_of_cell c1
          simp only at l1
          clear hvc hvr hvm
          have HC1 := Lib.hid (ComponentsNo_c (HV.out.fr HI.out) HM.out)
          go_wp2_with fail
          refine HC1.out.mono ?_
          rintro e w8 ⟨rfl, hf8⟩
          have hf8 := HI.out.trans hf8
          have HF8 := Lib.hid hf8
          have HC2 := Lib.hid (GroupsNo_c (HV.out.fr hf8) HM.out)
          have c1 := hf8.keep HVC.out
          have l1 := lt_of_cell c1
          simp only at l1
          clear hf8 HC1
          go_wp2_with fail
          refine HC2.out.mono ?_
          rintro e w9 ⟨rfl, hf9⟩
          have hf9 := HF8.out.trans hf9
          have HF9 := Lib.hid hf9
          have HC3 := Lib.hid (TurnsNo_c (HV.out.fr hf9) HM.out)
          have c1 := hf9.keep HVC.out
          have l1 := lt_of_cell c1
          simp only at l1
          clear hf9 HC2
          go_wp2_with fail
          refine HC3.out.mono ?_
          rintro e w10 ⟨rfl, hf10⟩
          have hf10 := HF9.out.trans hf10
          have HF10 := Lib.hid hf10
          have HC4 := Lib.hid (OrderNo_c (HV.out.fr hf10) HM.out)
          have c1 := hf10.keep HVC.out
          have l1 := lt_of_cell c1
          simp only at l1
          clear hf10 HC3
          go_wp2_with fail
          refine HC4.out.mono ?_
          rintro e w11 ⟨rfl, hf11⟩
          have HF11 := Lib.hid (HF10.out.trans hf11)
          clear hf11 HC4 c1 l1
          go_wp2_with fail
          go_roundw
          case rel => exact ⟨i + 1, by omega, by go_num, HF11⟩
          case measure => first | (simp [intOf]; done) | (simp [intOf]; omega)
        · obtain rfl : i = 3 := by omega
          obtain ⟨lg, lo, rfl, hl0⟩ := HLX.out 0 (by decide)
          obtain ⟨lg1, lo1, e1, hl1⟩ := HLX.out 19999 (by decide)
          cases e1
          rw [Nat.add_zero] at hl0
          have hf7r := HFX.out.trans HI.out
          have hl0 := hf7r.keep hl0
          have hl1 := hf7r.keep hl1
          have ll := lt_of_cell hl0
          simp only at ll
          have HFR := Lib.hid (HF7.out.trans hf7r)
          clear hf7r HLX HBAD HFX HI
          go_wp2_with fail
          refine (tells28_c (G := []) (rdGZ_nil _) (by decide) (by decide) (RdI.nil _) (RdI.nil _)).mono ?_
          rintro e w8 ⟨rfl, hf8⟩
          have HF8 := Lib.hid (HFR.out.trans hf8)
          clear hf8
          go_wp2_with fail
          refine (works28_c w8).mono ?_
          rintro e w9 ⟨rfl, hf9⟩
          have HF9 := Lib.hid (HF8.out.trans hf9)
          clear hf9
          go_wp2_with fail
          go_ret
          exact ⟨rfl, HF9.out⟩
end Go.Proofs.Ytadognaafgndnaa
