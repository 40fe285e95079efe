/- strconv.ParseUint at base 10 and 16 bits, strings.Split, Join and Cut, out of the library's contracts. No condition but that strings are not endless, and what the errors' variables hold. -/
import Derived.Test.YtfklgaeejmeipaaGreatDoorPShelf
import Derived.Test.YtfklgaeejmeipaaGreatDoorPArg
import Derived.Test.YtfklgaeejmeipaaGreatDoorPNum
import Derived.Lib.SmallJoins
set_option linter.all false
set_option linter.unusedVariables false
set_option linter.unusedSimpArgs false
set_option linter.unnecessarySimpa false
/- strconv.ParseUint at base 10 and 16 bits, strings.Split, Join and Cut, out of the library's contracts. No condition but that strings are not endless, and what the errors' variables hold. -/
namespace Go.Proofs.YtfklgaeejmeipaaGreatDoor
open Go.RowKit

/-- It returns the number, and an error or none. -/
def PuRet (w : World) (n : Nat) (e : Ending) (w' : World) : Prop := ∃ er, e = .returned (.tuple #[.int .u64 n, er]) ∧ Fr w w'
theorem bytesWorld_fr (w : World) (t : TypeId) (s : ByteArray) : Fr w (Lib.bytesWorld w t s) := Go.Joins.below_bytesWorld _ w t s (Nat.le_refl _)
theorem PU_c (s : List UInt8) (w : World) (hE : Env0 w) (hs : s.length < 1000000) : Calls Tryz.prog 135 #[.string ⟨s.toArray⟩, .int .i64 10, .int .i64 16] w (PuRet w (num16 s)) := by
  have hsz := size_mk s
  cases hp : Lib.parseUintB 16 s with
  | ok u =>
    refine (Any.strconv_ParseUint_10_at16_ok Tryz.laysPu14 ⟨s.toArray⟩ (by omega) u (by simpa using hp) w).mono ?_
    rintro e w' ⟨rfl, hw⟩
    refine ⟨_, by unfold num16; rw [hp], ?_⟩
    rcases hw with rfl | rfl
    · exact Fr.refl _
    · exact bytesWorld_fr _ _ _
  | range =>
    obtain ⟨te, pe, he⟩ := hE.errR
    refine (Any.strconv_ParseUint_10_at16_range Tryz.laysPu14 ⟨s.toArray⟩ (by omega) (by simpa using hp) _ w he (.inr ⟨te, pe, rfl⟩)).mono ?_
    rintro e w' ⟨N, rfl, _, _, hb⟩
    exact ⟨_, by unfold num16; rw [hp]; rfl, hb⟩
  | _ =>
    obtain ⟨te, pe, he⟩ := hE.errS
    refine (Any.strconv_ParseUint_10_at16_syntax Tryz.laysPu14 ⟨s.toArray⟩ (by omega) (by simpa using hp) _ w he (.inr ⟨te, pe, rfl⟩)).mono ?_
    rintro e w' ⟨N, rfl, _, _, hb⟩
    exact ⟨_, by unfold num16; rw [hp]; rfl, hb⟩
theorem Cut_c (s : List UInt8) (w : World) (hE : Env0 w) (hs : s.length < 1000000) : Calls Tryz.prog 134 #[.string ⟨s.toArray⟩, .string ⟨#[32]⟩] w fun e w' =>
    e = .returned (.tuple #[.string ⟨(Lib.cut s [32]).1.toArray⟩, .string ⟨(Lib.cut s [32]).2.1.toArray⟩, .bool (Lib.cut s [32]).2.2]) ∧ Fr w w' := by
  have hsz := size_mk s
  obtain ⟨m, hm⟩ := hE.maxl
  refine (Tryz.strings_Cut ⟨s.toArray⟩ ⟨#[32]⟩ m w (by omega) hm).mono ?_
  rintro e w' ⟨rfl, n, rfl⟩
  exact ⟨rfl, (Fr.refl w).drewN n⟩
/-- The parts of a text between its blanks. -/
def blanks (s : List UInt8) : List (List UInt8) := (Lib.splitB ⟨#[32]⟩ 0 (Lib.countB ⟨s.toArray⟩ ⟨#[32]⟩) ⟨s.toArray⟩).map (·.data.toList)
def RetS' (w : World) (ls : List (List UInt8)) (e : Ending) (w' : World) : Prop := ∃ v, e = .returned v ∧ RdS w' v ls ∧ Fr w w'
theorem Split_c (s : List UInt8) (w : World) (hE : Env0 w) (hs : s.length < 1000000) : Calls Tryz.prog 43 #[.string ⟨s.toArray⟩, .string ⟨#[32]⟩] w (RetS' w (blanks s)) := by
  have hsz := size_mk s
  obtain ⟨m, hm⟩ := hE.maxl
  refine (Tryz.strings_Split ⟨s.toArray⟩ ⟨#[32]⟩ m w (by omega) hm (by decide)).mono ?_
  rintro e w' ⟨rfl, rfl⟩
  refine ⟨_, rfl, ?_, (Fr.refl w).alloc _⟩
  have hlen := Lib.splitB_all (⟨#[32]⟩ : ByteArray) (by decide) 0 _ (⟨s.toArray⟩ : ByteArray) rfl
  have hle := Lib.countB_le (⟨#[32]⟩ : ByteArray) (by decide) (⟨s.toArray⟩ : ByteArray).size (⟨s.toArray⟩ : ByteArray) (Nat.le_refl _)
  unfold RdS
  have h1 : (blanks s).length = Lib.countB ⟨s.toArray⟩ ⟨#[32]⟩ + 1 := by unfold blanks; rw [List.length_map, hlen]
  rw [h1]
  refine ⟨_, _, rfl, Nat.le_refl _, by unfold maxLen; omega, .inr ⟨_, 0, rfl, trivial, by simp, fun j u hj => ?_⟩⟩
  have hj2 : ((Lib.splitB ⟨#[32]⟩ 0 (Lib.countB ⟨s.toArray⟩ ⟨#[32]⟩) ⟨s.toArray⟩).map Value.string)[j]? = some u := by
    rw [← hj]
    unfold strCells blanks
    simp [List.getElem?_map, Function.comp_def]
  simpa using hj2
theorem Join_c (v : Value) (ls : List (List UInt8)) (w : World) (h : RdS w v ls) (hl : (Lib.join ls [32]).length < 1000000) (hn : ls.length < 1000000) : Calls Tryz.prog 27 #[v, .string ⟨#[32]⟩] w fun e w' => e = .returned (.string ⟨(Lib.join ls [32]).toArray⟩) ∧ Fr w w' := by
  have hmap : (ls.map fun s : List UInt8 => (⟨s.toArray⟩ : ByteArray)).map (·.data.toList) = ls := by simp [Function.comp_def]
  cases ls with
  | nil =>
    obtain ⟨a, c, rfl, _, _, _⟩ := h
    refine (Tryz.strings_Join_none a c ⟨#[32]⟩ w).mono ?_
    rintro e w' ⟨rfl, rfl⟩
    exact ⟨rfl, Fr.refl _⟩
  | cons s r =>
    obtain ⟨b, off, cap, rfl, hc, hm, hb, hcell⟩ := h.at (k := 0) (by simp)
    have := (Tryz.strings_Join b off cap ((s :: r).map fun s : List UInt8 => (⟨s.toArray⟩ : ByteArray)) ⟨#[32]⟩ w (fun j x hj => ?_) hb (by simp; simp at hn; omega) (by simpa using hc) (by rw [hmap]; simp only [List.toList_toArray]; omega))
    · rw [hmap, List.length_map] at this
      exact this
    · rw [List.getElem?_map] at hj
      obtain ⟨y, hy, rfl⟩ := Option.map_eq_some_iff.1 hj
      exact hcell j y hy
end Go.Proofs.YtfklgaeejmeipaaGreatDoor
