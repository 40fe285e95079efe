/- strconv.Itoa, out of the shelf's contract: a number's decimal numeral; nothing that stood is changed. -/
import Derived.Test.YthlngegfodomgaaDoorPBase
import Derived.Test.YthlngegfodomgaaDoorPShelf
import Derived.Sort.Grow
import Derived.Lib.ItoaMem
import Derived.Lib.ItoaLen
import Derived.Deep.QuietTactic
import Derived.BigQuiet
import Derived.Shelf.SlIterI.Nil
import Derived.Shelf.SlIterI.Sorted
import Derived.Shelf.SortM.Plain
import Derived.Shelf.SortM.SortNone
set_option linter.all false
set_option linter.unusedVariables false
set_option linter.unusedSimpArgs false
set_option linter.unnecessarySimpa false
/- strconv.Itoa, out of the shelf's contract: a number's decimal numeral; nothing that stood is changed. -/
namespace Go.Proofs.YthlngegfodomgaaDoor
open Go.RowKit

theorem Fr.grow {a w : World} (h : Fr a w) (os : Array Obj) : Fr a (Go.Sort.grow w os) :=
  Below.trans h ⟨rfl, rfl, rfl, by simp, fun k hk => by
    have : k < w.heap.size := by have := h.size; omega
    show (w.heap ++ os)[k]? = _
    rw [Array.getElem?_append_left this]⟩
theorem Itoa_c (n : Nat) (w : World) (hE : Env0 w) (hn : n ≤ 9223372036854775807) :
    Calls Tryd.prog 17 #[.int .i64 n] w fun e w' => e = .returned (.string ⟨(Lib.decDigits n).toArray⟩) ∧ Fr w w' := by
  refine (Tryd.strconv_Itoa n (by omega) (by omega) w hE.pow10).mono ?_
  rintro e w' ⟨rfl, k, os, rfl⟩
  exact ⟨by rw [Lib.itoa_nonneg], ((Fr.refl w).drewN k).grow os⟩
end Go.Proofs.YthlngegfodomgaaDoor

/- The walks of part.Name and umpireref21.Name. No condition but the tables' content. -/
namespace Go.Proofs.YthlngegfodomgaaDoor
open Go.RowKit

def nameS (m n : Int) (p : Bool) : List UInt8 :=
  if n < 0 ∨ countN m p ≤ n then [] else if p then (if m = 2 then [111, 98, 106, 101, 99, 116, 32] ++ Lib.decDigits (n / 8).toNat ++ [32, 107, 101, 121, 32] ++ Lib.decDigits (n % 8).toNat else [111, 98, 106, 101, 99, 116, 32] ++ Lib.decDigits n.toNat) else [97, 108, 108]
theorem countN_le (m : Int) (p : Bool) : 0 ≤ countN m p ∧ countN m p ≤ 64 := by unfold countN; repeat' split <;> omega

theorem Name_none (m n : Int) (p : Bool) (w : World) (h : n < 0 ∨ countN m p ≤ n) :
    Calls Tryd.prog 11 #[.int .u8 m, .int .i64 n, .bool p] w fun e w' => e = .returned (.string ⟨#[]⟩) ∧ Fr w w' := by
  have hl := countN_le m p
  by_cases h0 : n < 0
  · go_enter Tryd.func11, Tryd.ntmps11
    go_wp2
    go_ret
    exact ⟨rfl, Fr.refl _⟩
  · have hx : decide (countN m p ≤ n) = true := by simp; omega
    go_enter Tryd.func11, Tryd.ntmps11
    go_wp2_with (go_at_call 10; refine (Count_c m p _).mono ?_; rintro e w1 ⟨rfl, hb⟩)
    go_ret
    exact ⟨rfl, by repeat (first | exact Fr.refl _ | assumption)⟩
theorem Name_all (m n : Int) (w : World) (h0 : 0 ≤ n) (h1 : n < countN m false) :
    Calls Tryd.prog 11 #[.int .u8 m, .int .i64 n, .bool false] w fun e w' => e = .returned (.string ⟨#[97, 108, 108]⟩) ∧ Fr w w' := by
  have hl := countN_le m false
  go_enter Tryd.func11, Tryd.ntmps11
  go_wp2_with (go_at_call 10; refine (Count_c m false _).mono ?_; rintro e w1 ⟨rfl, hb⟩)
  go_ret
  exact ⟨rfl, by repeat (first | exact Fr.refl _ | assumption)⟩
theorem Name_key (n : Nat) (w : World) (hE : Env w) (h1 : n < 64) :
    Calls Tryd.prog 11 #[.int .u8 2, .int .i64 n, .bool true] w fun e w' => e = .returned (.string ⟨([111, 98, 106, 101, 99, 116, 32] ++ Lib.decDigits (n / 8) ++ [32, 107, 101, 121, 32] ++ Lib.decDigits (n % 8)).toArray⟩) ∧ Fr w w' := by
  have d1 := decDigits_len (n / 8) (by omega)
  have d2 := decDigits_len (n % 8) (by omega)
  have c1 : (n : Int) / 8 = ((n / 8 : Nat) : Int) := by omega
  have c2 : (n : Int) % 8 = ((n % 8 : Nat) : Int) := by omega
  have C1 := Lib.hid c1; clear c1
  have C2 := Lib.hid c2; clear c2
  go_enter Tryd.func11, Tryd.ntmps11
  go_wp2_with fail
  refine (Count_c 2 true _).mono ?_
  rintro e w1 ⟨rfl, hb⟩
  have hE1 := hE.keep hb
  have hn : ¬ countN 2 true ≤ (n : Int) := by rw [show countN 2 true = 64 from rfl]; omega
  go_wp2_with fail
  rw [C1.out]
  refine (Itoa_c _ _ hE1 (by omega)).mono ?_
  rintro e w2 ⟨rfl, hb2⟩
  have hE2 := hE1.keep hb2
  go_wp2_with fail
  rw [C2.out]
  refine (Itoa_c _ _ hE2 (by omega)).mono ?_
  rintro e w3 ⟨rfl, hb3⟩
  go_wp2
  go_ret
  exact ⟨ret_str (by simp), by repeat (first | exact Fr.refl _ | assumption | refine Fr.trans ?_ (by assumption))⟩
theorem Name_obj (m : Int) (n : Nat) (w : World) (hE : Env w) (hm : m ≤ 3) (hm2 : (m == 2) = false) (h1 : n < 8) :
    Calls Tryd.prog 11 #[.int .u8 m, .int .i64 n, .bool true] w fun e w' => e = .returned (.string ⟨([111, 98, 106, 101, 99, 116, 32] ++ Lib.decDigits n).toArray⟩) ∧ Fr w w' := by
  have d1 := decDigits_len n (by omega)
  have hc : Hid (countN m true = 8) := by simp at hm2; simp [Hid, countN, hm2]; omega
  go_enter Tryd.func11, Tryd.ntmps11
  go_wp2_with fail
  refine (Count_c m true _).mono ?_
  rw [hc.out]
  rintro e w1 ⟨rfl, hb⟩
  have hE1 := hE.keep hb
  go_wp2_with fail
  refine (Itoa_c _ _ hE1 (by omega)).mono ?_
  rintro e w2 ⟨rfl, hb2⟩
  go_wp2
  go_ret
  exact ⟨ret_str (by simp), by repeat (first | exact Fr.refl _ | assumption | refine Fr.trans ?_ (by assumption))⟩

theorem Name_c (m n : Int) (p : Bool) (w : World) (hE : Env w) :
    Calls Tryd.prog 11 #[.int .u8 m, .int .i64 n, .bool p] w fun e w' => e = .returned (.string ⟨(nameS m n p).toArray⟩) ∧ Fr w w' := by
  by_cases h : n < 0 ∨ countN m p ≤ n
  · rw [nameS, if_pos h]; exact Name_none m n p w h
  · rw [nameS, if_neg h]
    have hl := countN_le m p
    obtain ⟨k, rfl⟩ := Int.eq_ofNat_of_zero_le (show 0 ≤ n by omega)
    cases p
    · exact Name_all m k w (by omega) (by omega)
    · rw [if_pos rfl]
      by_cases h2 : m = 2
      · subst h2
        rw [if_pos rfl]
        exact Name_key k w hE (by have : countN 2 true = 64 := rfl; omega)
      · rw [if_neg h2]
        by_cases h4 : 4 ≤ m
        · exfalso; apply h; right; rw [countN, if_pos h4]; omega
        · exact Name_obj m k w hE (by omega) (by simp [h2]) (by have : countN m true = 8 := by simp [countN, h2, h4]
                                                                omega)
end Go.Proofs.YthlngegfodomgaaDoor

/- The walks of umpirelaw21.is, awake, PartOf: the statement's own body. No condition but the tables' content and the numbers' bounds. -/
namespace Go.Proofs.YthlngegfodomgaaDoor
open Go.RowKit

theorem is_yes (m : Int) (F : Nat) (O K A B : Int) (p : Bool) (want : Int) (w : World) (hE : Env w) (hF : F ≤ 255) (hO : 0 ≤ O) (hO1 : O ≤ 255) (hK : 0 ≤ K) (hK1 : K ≤ 255) (h : checkN m F O K A B = 0) (hw : partN m O K p = want) :
    Calls Tryd.prog 9 #[.int .u8 m, .agg #[.int .u8 F, .int .u8 O, .int .u8 K, .int .u16 A, .int .u16 B], .bool p, .int .i64 want] w fun e w' => e = .returned (.bool true) ∧ Fr w w' := by
  have H := Lib.hid h; clear h
  have HW := Lib.hid hw; clear hw
  go_enter Tryd.func9, Tryd.ntmps9
  go_wp2_with fail
  refine (Of_yes m F O K A B p _ (by repeat (first | assumption | apply Env.alloc)) hF hO hO1 hK hK1 H.out).mono ?_
  rw [HW.out]
  rintro e w1 ⟨rfl, hb⟩
  go_wp2
  go_ret
  exact ⟨rfl, by repeat (first | exact Fr.refl _ | assumption | apply Fr.alloc | refine Fr.trans ?_ (by assumption))⟩

theorem name19 : nameS 2 19 true = [111, 98, 106, 101, 99, 116, 32, 50, 32, 107, 101, 121, 32, 51] := by
  simp [nameS, countN, Lib.decDigits_one]
theorem awake_c (w : World) (hE : Env w) : Calls Tryd.prog 5 #[] w fun e w' => e = .returned (.bool true) ∧ Fr w w' := by
  go_enter Tryd.func5, Tryd.ntmps5
  go_wp2_with fail
  refine (is_yes 2 6 2 3 0 0 true 19 _ (by repeat (first | assumption | apply Env.alloc)) (by omega) (by omega) (by omega) (by omega) (by omega) (by decide) (by decide)).mono ?_
  rintro e w1 ⟨rfl, hb⟩
  have hc := hb.cell
  have hz := hb.size1
  have hE1 := Env.keep (hE.alloc _) hb
  go_wp2_with fail
  refine (is_yes 2 6 2 3 0 0 false 0 _ hE1 (by omega) (by omega) (by omega) (by omega) (by omega) (by decide) (by decide)).mono ?_
  rintro e w2 ⟨rfl, hb2⟩
  have hE2 := hE1.keep hb2
  go_wp2_with fail
  refine (Count_c 2 true _).mono ?_
  rintro e w3 ⟨rfl, hb3⟩
  have hE3 := hE2.keep hb3
  go_wp2_with fail
  refine (Name_c 2 19 true _ hE3).mono ?_
  rw [name19]
  rintro e w4 ⟨rfl, hb4⟩
  go_wp2
  go_ret
  exact ⟨rfl, by repeat (first | exact Fr.refl _ | assumption | apply Fr.alloc | refine Fr.trans ?_ (by assumption))⟩

end Go.Proofs.YthlngegfodomgaaDoor

/- slices.Sorted(maps.Keys(m)) of a map over ints: the keys, sorted. No condition but the map's bound. -/
namespace Go.Proofs.YthlngegfodomgaaDoor
open Go.RowKit Go.Maps Go.Sort Go.Shelf Go.Proofs

theorem keys_c (b : Nat) (w : World) : Calls Tryd.prog 13 #[.map (some b)] w fun e w' => e = .returned (.func (.func 20) #[] #[.pointer (some ⟨w.heap.size, 0, none⟩)]) ∧ w' = w.alloc (.cells #[.map (some b)] 50) :=
  (callsIn_wide (n := 5)).1 (AnyZI.keys_in Tryd.keysA Fence.wide 5 trivial rfl (some b) w)
theorem sorts_in (m : Nat) : AnyZI.SortsIn Tryd.prog Tryd.sortedA_ren Fence.wide m :=
  ⟨fun blk off cap ss W hH hblk hsz => callsIn_wide.2 (AnyM.slices_Sort_int Tryd.laysSlM5_f19 blk off cap ss W hH hblk hsz),
   fun p cap W => callsIn_wide.2 (AnyM.slices_Sort_int_none Tryd.laysSlM5_f19 p cap W)⟩
set_option maxHeartbeats 1000000 in
theorem sorted_c {H : Type} (B b nn : Nat) (D0 : DataW H) (R : Value → Option (DataW H × List MemPlace)) (w : World) (hB : B < w.heap.size) (hm : w.cell? ⟨B, 0, none⟩ = some (.map (some b))) (hown : w.ownsMap Tryd.prog 3 R b nn D0) (hmax : Maps.size D0 ≤ maxLen) (hbytes : Maps.size D0 * 8 ≤ 140737488355328) :
    Calls Tryd.prog 12 #[.func (.func 20) #[] #[.pointer (some ⟨B, 0, none⟩)]] w fun e w' => ∃ (v : Value) (ss : List Int), e = .returned v ∧ ss.Perm (intKeys D0) ∧
      w'.ownsRow w.heap.size 3 1 v ss.length ((ss.mergeSort (fun x y => decide (x ≤ y))).map encZ) ∧ Fr w w' := by
  have hseq : SeqGives Fence.wide 2 Tryd.prog 20 #[.pointer (some ⟨B, 0, none⟩)] encZ (fun ss => ss.Perm (intKeys D0)) (Maps.size D0) w :=
    AnyZI.keys_gives (ρ := Tryd.keysA_ren) { Tryd.keysA with } Fence.wide _ trivial rfl (by omega) B b nn D0 _ hB hm hown
  have cS := AnyZI.sorted_in Tryd.sortedA Fence.wide 5 trivial trivial trivial trivial rfl (by omega) (sorts_in _) (enters_of Tryd.func19 (by kernel_rfl) rfl) 20 #[.pointer (some ⟨B, 0, none⟩)] trivial (enters_of Tryd.func20 (by kernel_rfl) rfl) _ _ hmax hbytes _ hseq
  refine ((callsIn_wide (n := 5)).1 cS).mono ?_
  rintro e w' ⟨v, ss, rfl, hS, hrow, hnil, hb⟩
  exact ⟨v, ss, rfl, hS, hrow, hb⟩
end Go.Proofs.YthlngegfodomgaaDoor
