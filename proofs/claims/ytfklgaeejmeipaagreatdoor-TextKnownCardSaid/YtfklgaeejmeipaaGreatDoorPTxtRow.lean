/- Layer 6: texts parted and joined, by any byte. No condition but what each says. -/
import Derived.Test.YtfklgaeejmeipaaGreatDoorPTxtRowA
import Derived.Test.YtfklgaeejmeipaaGreatDoorPWordsP
import Derived.Test.YtfklgaeejmeipaaGreatDoorPPu
import Derived.Test.YtfklgaeejmeipaaGreatDoorPItoa
set_option linter.all false
set_option linter.unusedVariables false
set_option linter.unusedSimpArgs false
set_option linter.unnecessarySimpa false
/- Layer 6: texts parted and joined, by any byte. No condition but what each says. -/
namespace Go.Proofs.YtfklgaeejmeipaaGreatDoor
open Go.RowKit

theorem RowS.ret {w0 w : World} {v : Value} {l : List W8} (h : RowS w0 w v l) : RetS w0 l (.returned v) w := ⟨v, rfl, h.rd, h.frm⟩
/-- A text's parts between a byte. -/
theorem parts_is (c : UInt8) (s : List UInt8) : (Lib.splitB ⟨#[c]⟩ 0 (Lib.countB ⟨s.toArray⟩ ⟨#[c]⟩) ⟨s.toArray⟩).map (·.data.toList) = splitS c s := by
  rw [Lib.splitB_data]
  have h1 : Lib.countB ⟨s.toArray⟩ ⟨#[c]⟩ = s.count c := by
    unfold Lib.countB Lib.count
    exact count_is _ _ (by simp)
  rw [h1]
  exact splitK_is _ _ (Nat.le_refl _)
theorem SplitC_c (c : UInt8) (s : List UInt8) (w : World) (hE : Env0 w) (hs : s.length < 1000000) : Calls Tryz.prog 43 #[.string ⟨s.toArray⟩, .string ⟨#[c]⟩] w fun e w' =>
    ∃ v, e = .returned v ∧ RowS w w' v (splitS c s) := by
  have hsz := size_mk s
  obtain ⟨m, hm⟩ := hE.maxl
  refine (Tryz.strings_Split ⟨s.toArray⟩ ⟨#[c]⟩ m w (by omega) hm (by show 1 ≤ 1; omega)).mono ?_
  rintro e w' ⟨rfl, rfl⟩
  refine ⟨_, rfl, ?_⟩
  have hlen : (Lib.countB ⟨s.toArray⟩ ⟨#[c]⟩) + 1 = (splitS c s).length := by rw [← parts_is, List.length_map, Lib.splitB_all (⟨#[c]⟩ : ByteArray) (by show 1 ≤ 1; omega) 0 _ (⟨s.toArray⟩ : ByteArray) rfl]
  have hc : (Lib.splitB ⟨#[c]⟩ 0 (Lib.countB ⟨s.toArray⟩ ⟨#[c]⟩) ⟨s.toArray⟩).map Value.string = strCells (splitS c s) := by
    rw [← parts_is]; unfold strCells; simp [Function.comp_def]
  rw [hc, hlen]
  have hle := splitS_len c s
  have hle2 : s.count c ≤ s.length := List.count_le_length
  exact RowS.lit (Fr.refl w) _ (by omega)
theorem JoinC_c (c : UInt8) (v : Value) (ls : List (List UInt8)) (w : World) (h : RdS w v ls) (hl : (Lib.join ls [c]).length < 1000000) (hn : ls.length < 1000000) : Calls Tryz.prog 27 #[v, .string ⟨#[c]⟩] w fun e w' => e = .returned (.string ⟨(Lib.join ls [c]).toArray⟩) ∧ Fr w w' := by
  have hmap : (ls.map fun s : List UInt8 => (⟨s.toArray⟩ : ByteArray)).map (·.data.toList) = ls := by simp [Function.comp_def]
  cases ls with
  | nil =>
    obtain ⟨a, k, rfl, _, _, _⟩ := h
    refine (Tryz.strings_Join_none a k ⟨#[c]⟩ w).mono ?_
    rintro e w' ⟨rfl, rfl⟩
    exact ⟨rfl, Fr.refl _⟩
  | cons s r =>
    obtain ⟨b, off, cap, rfl, hc, hm, hb, hcell⟩ := h.at (k := 0) (by simp)
    have := (Tryz.strings_Join b off cap ((s :: r).map fun s : List UInt8 => (⟨s.toArray⟩ : ByteArray)) ⟨#[c]⟩ w (fun j x hj => ?_) hb (by simp; simp at hn; omega) (by simpa using hc) (by rw [hmap]; simp only [List.toList_toArray]; omega))
    · rw [hmap, List.length_map] at this
      exact this
    · rw [List.getElem?_map] at hj
      obtain ⟨y, hy, rfl⟩ := Option.map_eq_some_iff.1 hj
      exact hcell j y hy
end Go.Proofs.YtfklgaeejmeipaaGreatDoor

/- text.list: the word of numbers. No condition but the tables' content and the numbers' bounds. -/
namespace Go.Proofs.YtfklgaeejmeipaaGreatDoor
open Go.RowKit

set_option maxRecDepth 100000 in
set_option maxHeartbeats 1000000 in
theorem list_c (v : Value) (l : List Nat) (w : World) (hE : Env0 w) (hl : Rd16 w v l) (hn : l.length ≤ 60000) (hb : ∀ n ∈ l, n < 65536) :
    Calls Tryz.prog 34 #[v] w fun e w' => e = .returned (.string ⟨(listWord l).toArray⟩) ∧ Fr w w' := by
  obtain ⟨a, cap, rfl, hc1, hc2, hx⟩ := hl
  by_cases h0 : l = []
  · subst h0
    go_enter Tryz.func34, Tryz.ntmps34
    go_wp2
    go_ret
    exact ⟨rfl, Fr.refl _⟩
  · have hne : l.length ≠ 0 := fun h => h0 (List.eq_nil_of_length_eq_zero h)
    have hz : ((l.length : Int) == 0) = false := by simpa using h0
    obtain ⟨b, off, rfl, hlt, hcell⟩ := SlAt.at (n := 0) (cap := 0) hx (by simp [u16Cells]; exact h0)
    have HT := Lib.hid (fun (n : Nat) (hn : n < 65536) W (f : Fr w W) => num16_c n W (hE.keep f) hn)
    have HJ := Lib.hid (show Lib.join (l.map Lib.decDigits) [44] = listWord l by unfold listWord; rw [if_neg h0])
    have HL := Lib.hid (show (Lib.join (l.map Lib.decDigits) [44]).length < 1000000 from Nat.lt_of_le_of_lt (join_le 44 _ 5 (fun x hx => by obtain ⟨n, hn1, rfl⟩ := List.mem_map.1 hx; exact decDigits_short (hb n hn1))) (by rw [List.length_map]; omega))
    clear hE hx
    unfold maxLen at hc2
    go_enter Tryz.func34, Tryz.ntmps34
    go_wp2
    go_loopw [3, 11] (fun s i wr => ∃ k : Nat, k ≤ l.length ∧ i = .int .i64 k ∧ RowS w wr s ((l.take k).map Lib.decDigits)) (fun _ i _ => l.length - (intOf i).toNat)
    case atStart => exact ⟨0, Nat.zero_le _, rfl, RowS.nil (by first | exact Fr.refl _ | exact (Fr.refl _).drew)⟩
    case round =>
      obtain ⟨k, hk, rfl, hrow⟩ := hrel
      by_cases hlt2 : k < l.length
      · have hnk := hb l[k] (List.getElem_mem hlt2)
        have HK := Lib.hid (show (l.take k).map Lib.decDigits ++ [Lib.decDigits l[k]] = (l.take (k + 1)).map Lib.decDigits by rw [List.take_succ_eq_append_getElem hlt2, List.map_append]; rfl)
        have c1 := hrow.frm.keep (hcell k (.int .u16 l[k]) (by simp [u16Cells, hlt2]))
        have hk1 : k < cap := by omega
        have hlen : ((l.take k).map Lib.decDigits).length ≤ 60000 := by rw [List.length_map, List.length_take]; omega
        generalize (l.take k).map Lib.decDigits = acc at hrow HK hlen
        generalize l[k] = x at c1 HK hnk
        clear hcell
        have HR := Lib.hid hrow
        go_wp2_with fail
        refine (HT.out x hnk _ (by first | exact HR.out.frm | exact HR.out.frm.drew)).mono ?_
        rintro e w1 ⟨rfl, hb1⟩
        have hro := hrow.fr hb1
        have hlit := (RowS.lit (w0 := w) hro.frm [Lib.decDigits x] (by simp)).rd
        go_wp2_with (at_builtin; refine wpList_appendS rfl (.tmp 15) (.tmp 18) rfl _ acc [Lib.decDigits x] rfl (hro.fr ((Fr.refl _).alloc _)) _ rfl hlit (by simp; omega) ?_)
        intro v' w' hro'
        rw [HK.out] at hro'
        go_wp2
        go_roundw
        case rel => exact ⟨k + 1, by omega, by go_num, hro'⟩
        case measure => simp [intOf]; omega
      · have hkl : l.take k = l := List.take_of_length_le (by omega)
        rw [hkl] at hrow
        have hrd := hrow.rd
        have HF := Lib.hid hrow.frm
        clear hkl hcell hrow
        have hlen : (l.map Lib.decDigits).length < 1000000 := by rw [List.length_map]; omega
        have HJC := Lib.hid (JoinC_c 44 _ _ wr hrd HL.out hlen)
        go_wp2_with fail
        refine (HJC.out).mono ?_
        rintro e w1 ⟨rfl, hb1⟩
        rw [HJ.out]
        go_wp2
        go_ret
        exact ⟨rfl, HF.out.trans hb1⟩
end Go.Proofs.YtfklgaeejmeipaaGreatDoor
