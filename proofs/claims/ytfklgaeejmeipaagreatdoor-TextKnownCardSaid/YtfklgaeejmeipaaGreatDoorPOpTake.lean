/- The walks of umpire/op: the operation that bytes begin with. No condition but the tables' content and the numbers' bounds. -/
import Derived.Test.YtfklgaeejmeipaaGreatDoorPOp
import Derived.Test.YtfklgaeejmeipaaGreatDoorPReader
import Derived.RegionTactic
import Derived.BigRegion
import Derived.Test.YtfklgaeejmeipaaGreatDoorPBase
set_option linter.all false
set_option linter.unusedVariables false
set_option linter.unusedSimpArgs false
set_option linter.unnecessarySimpa false
/- The walks of umpire/op: the operation that bytes begin with. No condition but the tables' content and the numbers' bounds. -/
namespace Go.Proofs.YtfklgaeejmeipaaGreatDoor
open Go.RowKit

theorem or16 (a b : UInt8) : bits BinOp.or IntKind.u16 (IntKind.u16.wrap (bits BinOp.or IntKind.u16 0 (IntKind.u16.wrap (a.toNat : Int)) * 256)) (IntKind.u16.wrap (b.toNat : Int)) = ((a.toNat * 256 + b.toNat : Nat) : Int) := by
  have ha := a.toNat_lt
  have hb := b.toNat_lt
  rw [IntWalk.u16_in (a.toNat : Int) (by omega), IntWalk.u16_in (b.toNat : Int) (by omega)]
  have e0 : bits BinOp.or IntKind.u16 0 (a.toNat : Int) = (a.toNat : Int) := by
    have := u16_or_nat 0 a.toNat (by omega) (by omega)
    simpa using this
  rw [e0, IntWalk.u16_in _ (by omega)]
  have e1 : (a.toNat : Int) * 256 = ((256 * a.toNat : Nat) : Int) := by omega
  rw [e1, u16_or_nat _ _ (by omega) (by omega), Nat.mul_comm a.toNat 256]
  exact congrArg _ (Nat.two_pow_add_eq_or_of_lt (i := 8) (b := b.toNat) (by omega) a.toNat).symm
theorem or8 (a : UInt8) : bits BinOp.or IntKind.u16 0 (IntKind.u16.wrap (a.toNat : Int)) % 256 = (a.toNat : Int) := by
  have ha := a.toNat_lt
  rw [IntWalk.u16_in (a.toNat : Int) (by omega)]
  have e0 : bits BinOp.or IntKind.u16 0 (a.toNat : Int) = (a.toNat : Int) := by
    have := u16_or_nat 0 a.toNat (by omega) (by omega)
    simpa using this
  rw [e0]; omega
theorem setCell_comm (w : World) (a b : Addr) (u v : Value) (h : a.block ≠ b.block) : (w.setCell a u).setCell b v = (w.setCell b v).setCell a u := by
  unfold World.setCell
  congr 1
  apply Array.ext_getElem?
  intro i
  simp only [Array.getElem?_modify]
  by_cases h1 : a.block = i <;> by_cases h2 : b.block = i <;> simp_all
theorem extract_tail2 (a b : UInt8) (s : List UInt8) : (⟨(a :: b :: s).toArray⟩ : ByteArray).extract 2 (s.length + 1 + 1) = ⟨s.toArray⟩ := by
  apply ByteArray.ext; simp [ByteArray.data_extract]
theorem extract_tail1 (a : UInt8) (s : List UInt8) : (⟨(a :: s).toArray⟩ : ByteArray).extract 1 (s.length + 1) = ⟨s.toArray⟩ := by
  apply ByteArray.ext; simp [ByteArray.data_extract]
theorem opTake16_skip (q x o : Nat) (w : World) :
    Calls Tryz.prog 177 #[.pointer (some ⟨q, 0, none⟩), .pointer (some ⟨x, o, none⟩), .int .i64 2, .bool false] w fun e w' => e = .returned (.bool true) ∧ w = w' := by
  go_enter Tryz.func177, Tryz.ntmps177
  go_wp2
  go_ret
  exact ⟨rfl, rfl⟩
theorem opTake16_torn (q x o : Nat) (s : List UInt8) (w : World) (hs : w.cell? ⟨q, 0, none⟩ = some (.string ⟨s.toArray⟩)) (hl : s.length < 2) :
    Calls Tryz.prog 177 #[.pointer (some ⟨q, 0, none⟩), .pointer (some ⟨x, o, none⟩), .int .i64 2, .bool true] w fun e w' => e = .returned (.bool false) ∧ w = w' := by
  have hsz := size_mk s
  have hl2 : (s.length : Int) < 2 := by omega
  go_enter Tryz.func177, Tryz.ntmps177
  go_wp2
  go_ret
  exact ⟨rfl, rfl⟩
theorem opTake16_ok (q x o : Nat) (a b : UInt8) (s : List UInt8) (w : World) (hs : w.cell? ⟨q, 0, none⟩ = some (.string ⟨(a :: b :: s).toArray⟩)) (hq : w.frozen? ⟨q, 0, none⟩ = false) (v : Value) (hx : w.cell? ⟨x, o, none⟩ = some v) (hf : w.frozen? ⟨x, o, none⟩ = false) (hne : q ≠ x) (hbig : s.length ≤ 140737488355328) :
    Calls Tryz.prog 177 #[.pointer (some ⟨q, 0, none⟩), .pointer (some ⟨x, o, none⟩), .int .i64 2, .bool true] w fun e w' => e = .returned (.bool true) ∧ w' = ((w.setCell ⟨x, o, none⟩ (.int .u16 ((a.toNat * 256 + b.toNat : Nat) : Int))).setCell ⟨q, 0, none⟩ (.string ⟨s.toArray⟩)).drew := by
  have hsz := size_mk (a :: b :: s)
  have hl2 : ¬ ((a :: b :: s).length : Int) < 2 := by simp; omega
  have hi0 : (⟨(a :: b :: s).toArray⟩ : ByteArray)[0]! = a := by rfl
  go_enter Tryz.func177, Tryz.ntmps177
  go_wp2
  refine wp_loop_rounds 3 ?_
  rw [rounds_succ]
  go_wp2
  rw [rounds_succ]
  go_wp2
  rw [rounds_succ]
  go_wp2
  generalize hval : bits BinOp.or IntKind.u16 (IntKind.u16.wrap (bits BinOp.or IntKind.u16 0 (IntKind.u16.wrap ((⟨(a :: b :: s).toArray⟩ : ByteArray)[0].toNat : Int)) * 256)) (IntKind.u16.wrap ((⟨(a :: b :: s).toArray⟩ : ByteArray)[1].toNat : Int)) = val
  have hv2 : val = ((a.toNat * 256 + b.toNat : Nat) : Int) := by rw [← hval]; exact or16 a b
  have HV := Lib.hid hv2
  clear hval hv2
  go_region
  all_goals
    go_wp2
    go_ret
    refine ⟨rfl, ?_⟩
    rw [HV.out, extract_tail2]
theorem opTake8_skip (q x o : Nat) (w : World) :
    Calls Tryz.prog 176 #[.pointer (some ⟨q, 0, none⟩), .pointer (some ⟨x, o, none⟩), .int .i64 1, .bool false] w fun e w' => e = .returned (.bool true) ∧ w = w' := by
  go_enter Tryz.func176, Tryz.ntmps176
  go_wp2
  go_ret
  exact ⟨rfl, rfl⟩
theorem opTake8_torn (q x o : Nat) (w : World) (hs : w.cell? ⟨q, 0, none⟩ = some (.string ⟨#[]⟩)) :
    Calls Tryz.prog 176 #[.pointer (some ⟨q, 0, none⟩), .pointer (some ⟨x, o, none⟩), .int .i64 1, .bool true] w fun e w' => e = .returned (.bool false) ∧ w = w' := by
  go_enter Tryz.func176, Tryz.ntmps176
  go_wp2
  go_ret
  exact ⟨rfl, rfl⟩
theorem opTake8_ok (q x o : Nat) (a : UInt8) (s : List UInt8) (w : World) (hs : w.cell? ⟨q, 0, none⟩ = some (.string ⟨(a :: s).toArray⟩)) (hq : w.frozen? ⟨q, 0, none⟩ = false) (v : Value) (hx : w.cell? ⟨x, o, none⟩ = some v) (hf : w.frozen? ⟨x, o, none⟩ = false) (hne : q ≠ x) (hbig : s.length ≤ 140737488355328) :
    Calls Tryz.prog 176 #[.pointer (some ⟨q, 0, none⟩), .pointer (some ⟨x, o, none⟩), .int .i64 1, .bool true] w fun e w' => e = .returned (.bool true) ∧ w' = ((w.setCell ⟨x, o, none⟩ (.int .u8 (a.toNat : Int))).setCell ⟨q, 0, none⟩ (.string ⟨s.toArray⟩)).drew := by
  have hsz := size_mk (a :: s)
  have hl2 : ¬ ((a :: s).length : Int) < 1 := by simp; omega
  go_enter Tryz.func176, Tryz.ntmps176
  go_wp2
  refine wp_loop_rounds 2 ?_
  rw [rounds_succ]
  go_wp2
  rw [rounds_succ]
  go_wp2
  generalize hval : bits BinOp.or IntKind.u16 0 (IntKind.u16.wrap ((⟨(a :: s).toArray⟩ : ByteArray)[0].toNat : Int)) = val
  have hv2 : val % 256 = (a.toNat : Int) := by rw [← hval]; exact or8 a
  have HV := Lib.hid hv2
  clear hval hv2
  go_region
  all_goals
    go_wp2
    go_ret
    refine ⟨rfl, ?_⟩
    rw [HV.out, extract_tail1]

/-- A number out of the next bytes, if it is wanted; none: bytes are missing. -/
def tk (n : Nat) (needed : Bool) (r : List UInt8) : Option (Nat × List UInt8) := if needed then (if r.length < n then none else some (ofBe (r.take n), r.drop n)) else some (0, r)
/-- Where op.Take stands: the operation's box (the first block behind 'w0'), the rest's box behind it, the kind's box. -/
structure TkAt (w0 : World) (kb : Nat) (cs : List Value) (rest : List UInt8) (N : Int) (wi : World) : Prop where
  fr : Fr w0 wi
  c : ∀ j v, cs[j]? = some v → wi.cell? ⟨w0.heap.size, j, none⟩ = some v
  f : ∀ j, wi.frozen? ⟨w0.heap.size, j, none⟩ = false
  r : wi.cell? ⟨w0.heap.size + 1, 0, none⟩ = some (.string ⟨rest.toArray⟩)
  fr1 : wi.frozen? ⟨w0.heap.size + 1, 0, none⟩ = false
  k : wi.cell? ⟨kb, 2, none⟩ = some (.int .u8 N)
  hk : w0.heap.size + 1 < kb
theorem TkAt.step {w0 wi : World} {kb o : Nat} {cs : List Value} {rest rest' : List UInt8} {N : Int} {v : Value} (h : TkAt w0 kb cs rest N wi) (ho : o < cs.length) :
    TkAt w0 kb (cs.set o v) rest' N ((wi.setCell ⟨w0.heap.size, o, none⟩ v).setCell ⟨w0.heap.size + 1, 0, none⟩ (.string ⟨rest'.toArray⟩)).drew where
  fr := ((h.fr.setCell (p := ⟨w0.heap.size, o, none⟩) (Nat.le_refl _) v).setCell (p := ⟨w0.heap.size + 1, 0, none⟩) (Nat.le_succ _) _).drew
  c := fun j u hj => by
    rw [World.cell?_drew, World.cell?_setCell_other _ _ _ _ (by simp)]
    by_cases e : o = j
    · subst e
      rw [List.getElem?_set_self ho] at hj
      obtain rfl := Option.some.inj hj
      exact World.cell?_setCell_same _ _ _ (h.c o _ (List.getElem?_eq_getElem ho))
    · rw [List.getElem?_set_ne e] at hj
      rw [World.cell?_setCell_other _ _ _ _ (by simp <;> exact e)]
      exact h.c j u hj
  f := fun j => by
    show World.frozen? (World.setCell _ _ _) _ = _
    rw [World.frozen?_setCell, World.frozen?_setCell]; exact h.f j
  r := by
    rw [World.cell?_drew]
    exact World.cell?_setCell_same _ _ _ (by rw [World.cell?_setCell_other _ _ _ _ (by simp)]; exact h.r)
  fr1 := by
    show World.frozen? (World.setCell _ _ _) _ = _
    rw [World.frozen?_setCell, World.frozen?_setCell]; exact h.fr1
  k := by
    have := h.hk
    rw [World.cell?_drew, World.cell?_setCell_other _ _ _ _ (by simp <;> omega), World.cell?_setCell_other _ _ _ _ (by simp <;> omega)]; exact h.k
  hk := h.hk
/-- What a take leaves. -/
def TkPost (w0 : World) (kb o n : Nat) (k : IntKind) (needed : Bool) (cs : List Value) (rest : List UInt8) (N : Int) (e : Ending) (w' : World) : Prop :=
  match tk n needed rest with
  | none => e = .returned (.bool false) ∧ TkAt w0 kb cs rest N w'
  | some (v, r) => e = .returned (.bool true) ∧ TkAt w0 kb (cs.set o (.int k v)) r N w'
theorem TkAt.keep {w0 wi w' : World} {kb : Nat} {cs : List Value} {rest : List UInt8} {N : Int} (h : TkAt w0 kb cs rest N wi) (f : Fr wi w') (hc : 0 < cs.length := by simp) : TkAt w0 kb cs rest N w' :=
  have hb : w0.heap.size < wi.heap.size := lt_of_cell (h.c 0 _ (List.getElem?_eq_getElem hc))
  ⟨h.fr.trans f, fun j v hj => f.keep (h.c j v hj), fun j => (f.frozen _ j hb).trans (h.f j), f.keep h.r, (f.frozen _ 0 (lt_of_cell h.r)).trans h.fr1, f.keep h.k, h.hk⟩
theorem TkAt.facts {w0 wi : World} {kb : Nat} {c0 c1 c2 c3 c4 : Value} {rest : List UInt8} {N : Int} (h : TkAt w0 kb [c0, c1, c2, c3, c4] rest N wi) :
    (wi.cell? ⟨w0.heap.size, 0, none⟩ = some c0 ∧ wi.cell? ⟨w0.heap.size, 1, none⟩ = some c1 ∧ wi.cell? ⟨w0.heap.size, 2, none⟩ = some c2 ∧ wi.cell? ⟨w0.heap.size, 3, none⟩ = some c3 ∧ wi.cell? ⟨w0.heap.size, 4, none⟩ = some c4 ∧ wi.cell? ⟨w0.heap.size + 1, 0, none⟩ = some (.string ⟨rest.toArray⟩) ∧ wi.cell? ⟨kb, 2, none⟩ = some (.int .u8 N)) ∧
    (wi.frozen? ⟨w0.heap.size, 0, none⟩ = false ∧ wi.frozen? ⟨w0.heap.size, 1, none⟩ = false ∧ wi.frozen? ⟨w0.heap.size, 2, none⟩ = false ∧ wi.frozen? ⟨w0.heap.size, 3, none⟩ = false ∧ wi.frozen? ⟨w0.heap.size, 4, none⟩ = false ∧ wi.frozen? ⟨w0.heap.size + 1, 0, none⟩ = false) ∧
    w0.heap.size < wi.heap.size ∧ w0.heap.size + 1 < wi.heap.size :=
  ⟨⟨h.c 0 _ rfl, h.c 1 _ rfl, h.c 2 _ rfl, h.c 3 _ rfl, h.c 4 _ rfl, h.r, h.k⟩, ⟨h.f 0, h.f 1, h.f 2, h.f 3, h.f 4, h.fr1⟩, lt_of_cell (h.c 0 _ rfl), lt_of_cell h.r⟩
theorem set_self {cs : List Value} {o : Nat} {v : Value} (h : cs[o]? = some v) : cs.set o v = cs := by
  apply List.ext_getElem?
  intro i
  by_cases e : o = i
  · subst e
    have := (List.getElem?_eq_some_iff.1 h).1
    rw [List.getElem?_set_self this, h]
  · rw [List.getElem?_set_ne e]
theorem tk8_c (w0 wi : World) (kb o : Nat) (needed : Bool) (cs : List Value) (rest : List UInt8) (N : Int) (h : TkAt w0 kb cs rest N wi) (h0 : cs[o]? = some (.int .u8 0)) (hb : rest.length ≤ 140737488355328) :
    Calls Tryz.prog 176 #[.pointer (some ⟨w0.heap.size + 1, 0, none⟩), .pointer (some ⟨w0.heap.size, o, none⟩), .int .i64 1, .bool needed] wi (TkPost w0 kb o 1 .u8 needed cs rest N) := by
  have ho := (List.getElem?_eq_some_iff.1 h0).1
  cases needed
  · refine (opTake8_skip _ _ _ wi).mono fun e w' ⟨he, hw⟩ => ?_
    subst he hw
    exact ⟨rfl, by rw [show ((0 : Nat) : Int) = 0 from rfl, set_self h0]; exact h⟩
  · cases rest with
    | nil => exact (opTake8_torn _ _ o wi h.r).mono fun e w' ⟨he, hw⟩ => ⟨he, by rw [← hw]; exact h⟩
    | cons a s =>
      refine (opTake8_ok _ _ o a s wi h.r h.fr1 _ (h.c o _ h0) (h.f o) (by simp) (by simp at hb; omega)).mono fun e w' ⟨he, hw⟩ => ?_
      subst he hw
      have e1 : ofBe ((a :: s).take 1) = a.toNat := by simp [ofBe]
      simp only [TkPost, tk, if_true, List.length_cons, show ¬ (s.length + 1 < 1) by omega, if_false, e1]
      exact ⟨trivial, h.step ho⟩
theorem tk16_c (w0 wi : World) (kb o : Nat) (needed : Bool) (cs : List Value) (rest : List UInt8) (N : Int) (h : TkAt w0 kb cs rest N wi) (h0 : cs[o]? = some (.int .u16 0)) (hb : rest.length ≤ 140737488355328) :
    Calls Tryz.prog 177 #[.pointer (some ⟨w0.heap.size + 1, 0, none⟩), .pointer (some ⟨w0.heap.size, o, none⟩), .int .i64 2, .bool needed] wi (TkPost w0 kb o 2 .u16 needed cs rest N) := by
  have ho := (List.getElem?_eq_some_iff.1 h0).1
  cases needed
  · refine (opTake16_skip _ _ _ wi).mono fun e w' ⟨he, hw⟩ => ?_
    subst he hw
    exact ⟨rfl, by rw [show ((0 : Nat) : Int) = 0 from rfl, set_self h0]; exact h⟩
  · by_cases hl : rest.length < 2
    · refine (opTake16_torn _ _ o rest wi h.r hl).mono fun e w' ⟨he, hw⟩ => ?_
      simp only [TkPost, tk, if_true, if_pos hl]
      exact ⟨he, by rw [← hw]; exact h⟩
    · obtain ⟨a, b, s, rfl⟩ : ∃ a b s, rest = a :: b :: s := by
        match rest, hl with
        | [], hl => simp at hl
        | [a], hl => simp at hl
        | a :: b :: s, _ => exact ⟨a, b, s, rfl⟩
      · refine (opTake16_ok _ _ o a b s wi h.r h.fr1 _ (h.c o _ h0) (h.f o) (by simp) (by simp at hb; omega)).mono fun e w' ⟨he, hw⟩ => ?_
        subst he hw
        have e1 : ofBe ((a :: b :: s).take 2) = a.toNat * 256 + b.toNat := by simp [ofBe]
        simp only [TkPost, tk, if_true, if_neg hl, e1]
        exact ⟨trivial, h.step ho⟩
end Go.Proofs.YtfklgaeejmeipaaGreatDoor

/- op.Take: the operation that bytes begin with. No condition but the tables' content and that the bytes are fewer than 2^47. -/
namespace Go.Proofs.YtfklgaeejmeipaaGreatDoor
open Go.RowKit

/-- An operation's five numbers. -/
structure OpD where
  F : Nat
  O : Nat
  K : Nat
  A : Nat
  B : Nat
  deriving DecidableEq
def OpD.zero : OpD := ⟨0, 0, 0, 0, 0⟩
def OpD.cells (x : OpD) : List Value := [.int .u8 x.F, .int .u8 x.O, .int .u8 x.K, .int .u16 x.A, .int .u16 x.B]
def OpD.may (x : OpD) : Bool := mayB x.F x.O x.K x.A x.B
/-- The operation that bytes begin with, what is behind it, and why there is none. -/
def takeOp : List UInt8 → OpD × List UInt8 × Nat
  | [] => (.zero, [], 5)
  | f :: s =>
    if f.toNat = 0 ∨ 12 ≤ f.toNat then (.zero, [], 4) else
    match tk 1 true s with
    | none => (.zero, [], 5)
    | some (O, r1) =>
      match tk 1 (hasK f.toNat) r1 with
      | none => (.zero, [], 5)
      | some (K, r2) =>
        match tk 2 (hasA f.toNat) r2 with
        | none => (.zero, [], 5)
        | some (A, r3) =>
          match tk 2 (hasB f.toNat) r3 with
          | none => (.zero, [], 5)
          | some (B, r4) => if (OpD.mk f.toNat O K A B).may then (⟨f.toNat, O, K, A, B⟩, r4, 0) else (.zero, [], 4)

theorem tk_len {n : Nat} {needed : Bool} {r r' : List UInt8} {v m : Nat} (h : tk n needed r = some (v, r')) (hr : r.length ≤ m) : r'.length ≤ m := by
  unfold tk at h
  split at h
  · split at h
    · cases h
    · cases h; simp; omega
  · cases h; exact hr
theorem Take_nil (w : World) :
    Calls Tryz.prog 151 #[.string ⟨#[]⟩] w fun e w' => e = .returned (.tuple #[.agg #[.int .u8 0, .int .u8 0, .int .u8 0, .int .u16 0, .int .u16 0], .string ⟨#[]⟩, .int .i64 5]) ∧ Fr w w' := by
  go_enter Tryz.func151, Tryz.ntmps151
  go_wp2
  exact bodyPost_ret (v := .tuple #[.agg #[.int .u8 0, .int .u8 0, .int .u8 0, .int .u16 0, .int .u16 0], .string ⟨#[]⟩, .int .i64 5]) (by simp [results, Tryz.results151, go_sem]) rfl ⟨rfl, ((Fr.refl _).alloc _).alloc _⟩
/-- The two boxes of op.Take, in whatever world keeps them. -/
theorem twoBox {w w1 : World} {c0 c1 c2 c3 c4 r : Value} {t u : TypeId} (h : Fr ((w.alloc (.cells #[c0, c1, c2, c3, c4] t)).alloc (.cells #[r] u)) w1) :
    (w1.cell? ⟨w.heap.size, 0, none⟩ = some c0 ∧ w1.cell? ⟨w.heap.size, 1, none⟩ = some c1 ∧ w1.cell? ⟨w.heap.size, 2, none⟩ = some c2 ∧ w1.cell? ⟨w.heap.size, 3, none⟩ = some c3 ∧ w1.cell? ⟨w.heap.size, 4, none⟩ = some c4 ∧ w1.cell? ⟨w.heap.size + 1, 0, none⟩ = some r) ∧
    ((∀ j, w1.frozen? ⟨w.heap.size, j, none⟩ = false) ∧ w1.frozen? ⟨w.heap.size + 1, 0, none⟩ = false) ∧ w.heap.size < w1.heap.size ∧ w.heap.size + 1 < w1.heap.size := by
  have hs := h.size2
  have e : ∀ b o, b < w.heap.size + 2 → w1.cell? ⟨b, o, none⟩ = ((w.alloc (.cells #[c0, c1, c2, c3, c4] t)).alloc (.cells #[r] u)).cell? ⟨b, o, none⟩ := fun b o hb => h.cell b o (by simp; omega)
  have f : ∀ b o, b < w.heap.size + 2 → w1.frozen? ⟨b, o, none⟩ = ((w.alloc (.cells #[c0, c1, c2, c3, c4] t)).alloc (.cells #[r] u)).frozen? ⟨b, o, none⟩ := fun b o hb => h.frozen b o (by simp; omega)
  have g : ∀ o, ((w.alloc (.cells #[c0, c1, c2, c3, c4] t)).alloc (.cells #[r] u)).cell? ⟨w.heap.size, o, none⟩ = #[c0, c1, c2, c3, c4][o]? := fun o => by
    rw [World.cell?_alloc_lt _ _ _ (by simp), World.cell?_alloc_new]
  have g1 : ((w.alloc (.cells #[c0, c1, c2, c3, c4] t)).alloc (.cells #[r] u)).cell? ⟨w.heap.size + 1, 0, none⟩ = some r := by
    simp
  refine ⟨⟨?_, ?_, ?_, ?_, ?_, ?_⟩, ⟨fun j => ?_, ?_⟩, by omega, hs⟩
  · rw [e _ _ (by omega), g]; rfl
  · rw [e _ _ (by omega), g]; rfl
  · rw [e _ _ (by omega), g]; rfl
  · rw [e _ _ (by omega), g]; rfl
  · rw [e _ _ (by omega), g]; rfl
  · rw [e _ _ (by omega), g1]
  · rw [f _ _ (by omega)]; simp
  · rw [f _ _ (by omega)]; simp
set_option maxHeartbeats 800000 in
theorem Take_none (f : UInt8) (s : List UInt8) (w : World) (hf : f.toNat = 0 ∨ 12 ≤ f.toNat) (hb : s.length ≤ 140737488355328) :
    Calls Tryz.prog 151 #[.string ⟨(f :: s).toArray⟩] w fun e w' => e = .returned (.tuple #[.agg #[.int .u8 0, .int .u8 0, .int .u8 0, .int .u16 0, .int .u16 0], .string ⟨#[]⟩, .int .i64 4]) ∧ Fr w w' := by
  have hlt := f.toNat_lt
  have hfind := fun W => find_no (f.toNat : Int) W (by omega) (by omega) (by omega)
  have HF := Lib.hid hfind
  clear hfind hlt hf
  have hsz := size_mk (f :: s)
  go_enter Tryz.func151, Tryz.ntmps151
  go_wp2_with fail
  refine (HF.out _).mono ?_
  rintro e w1 ⟨rfl, hb1⟩
  have hfr1 : Fr w w1 := Fr.trans (((Fr.refl w).alloc _).alloc _) hb1
  obtain ⟨⟨a0, a1, a2, a3, a4, a5⟩, ⟨z0, z5⟩, s0, s1⟩ := twoBox hb1
  have z00 := z0 0
  have z01 := z0 1
  have z02 := z0 2
  have z03 := z0 3
  have z04 := z0 4
  clear z0
  go_wp2
  refine bodyPost_ret (v := .tuple #[.agg #[.int .u8 0, .int .u8 0, .int .u8 0, .int .u16 0, .int .u16 0], .string ⟨#[]⟩, .int .i64 4]) (by simp [results, Tryz.results151, go_sem, a0, a1, a2, a3, a4, a5, s0, s1]) rfl ⟨rfl, ?_⟩
  repeat (with_reducible first | assumption | apply Fr.alloc | refine Fr.setCell ?_ (by simp) _)
def OpD.val (x : OpD) : Value := .agg #[.int .u8 x.F, .int .u8 x.O, .int .u8 x.K, .int .u16 x.A, .int .u16 x.B]
theorem TkAt.start {w w1 : World} {c0 c1 c2 c3 c4 r r' k0 k1 v : Value} {t u : TypeId} {kt : TypeId} {N : Int} {s : List UInt8} (h : Fr ((w.alloc (.cells #[c0, c1, c2, c3, c4] t)).alloc (.cells #[r] u)) w1) (hr : r' = .string ⟨s.toArray⟩) :
    TkAt w w1.heap.size [v, c1, c2, c3, c4] s N (((w1.setCell ⟨w.heap.size, 0, none⟩ v).setCell ⟨w.heap.size + 1, 0, none⟩ r').alloc (.cells #[k0, k1, .int .u8 N] kt)).drew := by
  obtain ⟨⟨a0, a1, a2, a3, a4, a5⟩, ⟨z0, z5⟩, s0, s1⟩ := twoBox h
  have hfr1 : Fr w w1 := Fr.trans (((Fr.refl w).alloc _).alloc _) h
  subst hr
  have hsz : ((w1.setCell ⟨w.heap.size, 0, none⟩ v).setCell ⟨w.heap.size + 1, 0, none⟩ (.string ⟨s.toArray⟩)).heap.size = w1.heap.size := by simp
  refine ⟨(((hfr1.setCell (p := ⟨w.heap.size, 0, none⟩) (Nat.le_refl _) v).setCell (p := ⟨w.heap.size + 1, 0, none⟩) (Nat.le_succ _) _).alloc _).drew, fun j u hj => ?_, fun j => ?_, ?_, ?_, ?_, s1⟩
  · rw [World.cell?_drew, World.cell?_alloc_lt _ _ _ (by rw [hsz]; exact s0), World.cell?_setCell_other _ _ _ _ (by simp)]
    match j, hj with
    | 0, hj => simp at hj; subst hj; exact World.cell?_setCell_same _ _ _ a0
    | 1, hj => simp at hj; subst hj; rw [World.cell?_setCell_other _ _ _ _ (by simp)]; exact a1
    | 2, hj => simp at hj; subst hj; rw [World.cell?_setCell_other _ _ _ _ (by simp)]; exact a2
    | 3, hj => simp at hj; subst hj; rw [World.cell?_setCell_other _ _ _ _ (by simp)]; exact a3
    | 4, hj => simp at hj; subst hj; rw [World.cell?_setCell_other _ _ _ _ (by simp)]; exact a4
  · show World.frozen? (World.alloc _ _) _ = _
    rw [World.frozen?_alloc_past _ _ _ (by rw [hsz]; exact s0), World.frozen?_setCell, World.frozen?_setCell]; exact z0 j
  · rw [World.cell?_drew, World.cell?_alloc_lt _ _ _ (by rw [hsz]; exact s1)]
    exact World.cell?_setCell_same _ _ _ (by rw [World.cell?_setCell_other _ _ _ _ (by simp)]; exact a5)
  · show World.frozen? (World.alloc _ _) _ = _
    rw [World.frozen?_alloc_past _ _ _ (by rw [hsz]; exact s1), World.frozen?_setCell, World.frozen?_setCell]; exact z5
  · rw [World.cell?_drew, ← hsz, World.cell?_alloc_new]; rfl
set_option maxHeartbeats 2000000 in
set_option maxRecDepth 100000 in
theorem Take_some (f : UInt8) (s : List UInt8) (w : World) (hE : Env w) (hf : 1 ≤ f.toNat ∧ f.toNat ≤ 11) (hb : s.length ≤ 140737488355327) :
    Calls Tryz.prog 151 #[.string ⟨(f :: s).toArray⟩] w fun e w' => e = .returned (.tuple #[(takeOp (f :: s)).1.val, .string ⟨(takeOp (f :: s)).2.1.toArray⟩, .int .i64 (takeOp (f :: s)).2.2]) ∧ Fr w w' := by
  have hlt := f.toNat_lt
  have hsz := size_mk (f :: s)
  have hfind := fun W hE => find_yes f.toNat W hf.1 hf.2 hE
  have HF := Lib.hid hfind
  have hfn : ¬ (f.toNat = 0 ∨ 12 ≤ f.toNat) := by omega
  have hto : takeOp (f :: s) = match tk 1 true s with
    | none => (.zero, [], 5)
    | some (O, r1) =>
      match tk 1 (hasK f.toNat) r1 with
      | none => (.zero, [], 5)
      | some (K, r2) =>
        match tk 2 (hasA f.toNat) r2 with
        | none => (.zero, [], 5)
        | some (A, r3) =>
          match tk 2 (hasB f.toNat) r3 with
          | none => (.zero, [], 5)
          | some (B, r4) => if (OpD.mk f.toNat O K A B).may then (⟨f.toNat, O, K, A, B⟩, r4, 0) else (.zero, [], 4) := by
    rw [takeOp, if_neg hfn]
  generalize takeOp (f :: s) = T at hto ⊢
  have HT := Lib.hid hto
  clear hfind hto
  have e0 : ∀ h, (⟨(f :: s).toArray⟩ : ByteArray)[0]'h = f := fun _ => rfl
  go_enter Tryz.func151, Tryz.ntmps151
  go_wp2_with fail
  refine (HF.out _ (by repeat (first | assumption | apply Env.alloc))).mono ?_
  rintro e w1 ⟨rfl, hb1⟩
  obtain ⟨⟨a0, a1, a2, a3, a4, a5⟩, ⟨z0, z5⟩, s0, s1⟩ := twoBox hb1
  have z00 := z0 0
  have hfr1 : Fr w w1 := Fr.trans (((Fr.refl w).alloc _).alloc _) hb1
  clear z0
  go_wp2_with fail
  go_region
  go_wp2_with fail
  have hTk := TkAt.start (v := .int .u8 (f.toNat : Int)) (k0 := .int .u8 (kModel f.toNat)) (k1 := .string ⟨(kName f.toNat).toArray⟩) (kt := 120) (N := kNeeds f.toNat) hb1 (congrArg Value.string (extract_tail1 f s))
  have hE6 : Env (((w1.setCell ⟨w.heap.size, 0, none⟩ (.int .u8 (f.toNat : Int))).setCell ⟨w.heap.size + 1, 0, none⟩ (.string ((⟨(f :: s).toArray⟩ : ByteArray).extract 1 (s.length + 1)))).alloc (.cells #[.int .u8 (kModel f.toNat), .string ⟨(kName f.toNat).toArray⟩, .int .u8 (kNeeds f.toNat)] 120)).drew := hE.keep hTk.fr
  have hlen : s.length ≤ 140737488355328 := by omega
  generalize w1.heap.size = kb at hTk ⊢
  generalize hWW : (((w1.setCell ⟨w.heap.size, 0, none⟩ (.int .u8 (f.toNat : Int))).setCell ⟨w.heap.size + 1, 0, none⟩ (.string ((⟨(f :: s).toArray⟩ : ByteArray).extract 1 (s.length + 1)))).alloc (.cells #[.int .u8 (kModel f.toNat), .string ⟨(kName f.toNat).toArray⟩, .int .u8 (kNeeds f.toNat)] 120)).drew = W6 at hTk ⊢
  clear hWW a0 a1 a2 a3 a4 a5 z5 s0 s1 z00 hb1 hfr1 hsz HF hE6
  refine (tk8_c w _ kb 1 true _ s _ hTk rfl hlen).mono ?_
  intro e w7 hp
  cases h1 : tk 1 true s with
  | none =>
    simp only [TkPost, h1] at hp
    obtain ⟨rfl, hTk⟩ := hp
    obtain ⟨⟨a0, a1, a2, a3, a4, a5, a6⟩, ⟨z0, z1, z2, z3, z4, z5⟩, s0, s1⟩ := hTk.facts
    have hfr := hTk.fr
    go_wp2
    refine bodyPost_ret (v := .tuple #[.agg #[.int .u8 0, .int .u8 0, .int .u8 0, .int .u16 0, .int .u16 0], .string ⟨#[]⟩, .int .i64 5]) (by simp [results, Tryz.results151, go_sem, a0, a1, a2, a3, a4, a5, s0, s1]) rfl ⟨?_, ?_⟩
    · rw [HT.out]; simp only [h1]; rfl
    · repeat (with_reducible first | assumption | apply Fr.alloc | refine Fr.setCell ?_ (by simp) _)
  | some y =>
    obtain ⟨O, r1⟩ := y
    simp only [TkPost, h1] at hp
    obtain ⟨rfl, hTk⟩ := hp
    have hlen1 : r1.length ≤ 140737488355328 := tk_len h1 hlen
    simp only [List.set] at hTk
    have a6 := hTk.k
    go_wp2_with fail
    clear a6
    refine (tk8_c w _ kb 2 (hasK f.toNat) _ r1 _ hTk rfl hlen1).mono ?_
    intro e w8 hp
    cases h2 : tk 1 (hasK f.toNat) r1 with
    | none =>
      simp only [TkPost, h2] at hp
      obtain ⟨rfl, hTk⟩ := hp
      obtain ⟨⟨a0, a1, a2, a3, a4, a5, a6⟩, ⟨z0, z1, z2, z3, z4, z5⟩, s0, s1⟩ := hTk.facts
      have hfr := hTk.fr
      go_wp2
      refine bodyPost_ret (v := .tuple #[.agg #[.int .u8 0, .int .u8 0, .int .u8 0, .int .u16 0, .int .u16 0], .string ⟨#[]⟩, .int .i64 5]) (by simp [results, Tryz.results151, go_sem, a0, a1, a2, a3, a4, a5, s0, s1]) rfl ⟨?_, ?_⟩
      · rw [HT.out]; simp only [h1, h2]; rfl
      · repeat (with_reducible first | assumption | apply Fr.alloc | refine Fr.setCell ?_ (by simp) _)
    | some y =>
      obtain ⟨K, r2⟩ := y
      simp only [TkPost, h2] at hp
      obtain ⟨rfl, hTk⟩ := hp
      have hlen2 : r2.length ≤ 140737488355328 := tk_len h2 hlen1
      simp only [List.set] at hTk
      have a6 := hTk.k
      go_wp2_with fail
      clear a6
      refine (tk16_c w _ kb 3 (hasA f.toNat) _ r2 _ hTk rfl hlen2).mono ?_
      intro e w9 hp
      cases h3 : tk 2 (hasA f.toNat) r2 with
      | none =>
        simp only [TkPost, h3] at hp
        obtain ⟨rfl, hTk⟩ := hp
        obtain ⟨⟨a0, a1, a2, a3, a4, a5, a6⟩, ⟨z0, z1, z2, z3, z4, z5⟩, s0, s1⟩ := hTk.facts
        have hfr := hTk.fr
        go_wp2
        refine bodyPost_ret (v := .tuple #[.agg #[.int .u8 0, .int .u8 0, .int .u8 0, .int .u16 0, .int .u16 0], .string ⟨#[]⟩, .int .i64 5]) (by simp [results, Tryz.results151, go_sem, a0, a1, a2, a3, a4, a5, s0, s1]) rfl ⟨?_, ?_⟩
        · rw [HT.out]; simp only [h1, h2, h3]; rfl
        · repeat (with_reducible first | assumption | apply Fr.alloc | refine Fr.setCell ?_ (by simp) _)
      | some y =>
        obtain ⟨A, r3⟩ := y
        simp only [TkPost, h3] at hp
        obtain ⟨rfl, hTk⟩ := hp
        have hlen3 : r3.length ≤ 140737488355328 := tk_len h3 hlen2
        simp only [List.set] at hTk
        have a6 := hTk.k
        go_wp2_with fail
        clear a6
        refine (tk16_c w _ kb 4 (hasB f.toNat) _ r3 _ hTk rfl hlen3).mono ?_
        intro e w10 hp
        cases h4 : tk 2 (hasB f.toNat) r3 with
        | none =>
          simp only [TkPost, h4] at hp
          obtain ⟨rfl, hTk⟩ := hp
          obtain ⟨⟨a0, a1, a2, a3, a4, a5, a6⟩, ⟨z0, z1, z2, z3, z4, z5⟩, s0, s1⟩ := hTk.facts
          have hfr := hTk.fr
          go_wp2
          refine bodyPost_ret (v := .tuple #[.agg #[.int .u8 0, .int .u8 0, .int .u8 0, .int .u16 0, .int .u16 0], .string ⟨#[]⟩, .int .i64 5]) (by simp [results, Tryz.results151, go_sem, a0, a1, a2, a3, a4, a5, s0, s1]) rfl ⟨?_, ?_⟩
          · rw [HT.out]; simp only [h1, h2, h3, h4]; rfl
          · repeat (with_reducible first | assumption | apply Fr.alloc | refine Fr.setCell ?_ (by simp) _)
        | some y =>
          obtain ⟨B, r4⟩ := y
          simp only [TkPost, h4] at hp
          obtain ⟨rfl, hTk⟩ := hp
          have hlen4 : r4.length ≤ 140737488355328 := tk_len h4 hlen3
          simp only [List.set] at hTk
          have a6 := hTk.k
          obtain ⟨⟨a0, a1, a2, a3, a4, a5, a6'⟩, ⟨z0, z1, z2, z3, z4, z5⟩, s0, s1⟩ := hTk.facts
          have hfr := hTk.fr
          have hE9 := hE.keep hfr
          go_wp2_with fail
          refine (may_c f.toNat O K A B _ hE9 (by omega)).mono ?_
          cases hm : mayB f.toNat O K A B with
          | false =>
            rintro e w11 ⟨rfl, hb11⟩
            have hTk2 := hTk.keep hb11
            clear a0 a1 a2 a3 a4 a5 a6' z0 z1 z2 z3 z4 z5 s0 s1 hfr hE9 hTk
            obtain ⟨⟨a0, a1, a2, a3, a4, a5, a6⟩, ⟨z0, z1, z2, z3, z4, z5⟩, s0, s1⟩ := hTk2.facts
            have hfr := hTk2.fr
            have HM := Lib.hid hm
            clear hm
            go_wp2
            refine bodyPost_ret (v := .tuple #[.agg #[.int .u8 0, .int .u8 0, .int .u8 0, .int .u16 0, .int .u16 0], .string ⟨#[]⟩, .int .i64 4]) (by simp [results, Tryz.results151, go_sem, a0, a1, a2, a3, a4, a5, s0, s1]) rfl ⟨?_, ?_⟩
            · rw [HT.out]; simp only [h1, h2, h3, h4, OpD.may, HM.out]; rfl
            · repeat (with_reducible first | assumption | apply Fr.alloc | refine Fr.setCell ?_ (by simp) _)
          | true =>
            rintro e w11 ⟨rfl, hb11⟩
            have hTk2 := hTk.keep hb11
            clear a0 a1 a2 a3 a4 a5 a6' z0 z1 z2 z3 z4 z5 s0 s1 hfr hE9 hTk
            obtain ⟨⟨a0, a1, a2, a3, a4, a5, a6⟩, ⟨z0, z1, z2, z3, z4, z5⟩, s0, s1⟩ := hTk2.facts
            have hfr := hTk2.fr
            have HM := Lib.hid hm
            clear hm
            go_wp2
            refine bodyPost_ret (v := .tuple #[.agg #[.int .u8 f.toNat, .int .u8 O, .int .u8 K, .int .u16 A, .int .u16 B], .string ⟨r4.toArray⟩, .int .i64 0]) (by simp [results, Tryz.results151, go_sem, a0, a1, a2, a3, a4, a5, s0, s1]) rfl ⟨?_, ?_⟩
            · rw [HT.out]; simp only [h1, h2, h3, h4, OpD.may, HM.out]; rfl
            · repeat (with_reducible first | assumption | apply Fr.alloc | refine Fr.setCell ?_ (by simp) _)
theorem opTake_c (s : List UInt8) (w : World) (hE : Env w) (hb : s.length ≤ 140737488355328) :
    Calls Tryz.prog 151 #[.string ⟨s.toArray⟩] w fun e w' => e = .returned (.tuple #[(takeOp s).1.val, .string ⟨(takeOp s).2.1.toArray⟩, .int .i64 (takeOp s).2.2]) ∧ Fr w w' := by
  cases s with
  | nil => exact Take_nil w
  | cons f s =>
    have hl := f.toNat_lt
    simp only [List.length_cons] at hb
    by_cases hf : f.toNat = 0 ∨ 12 ≤ f.toNat
    · rw [takeOp, if_pos hf]; exact Take_none f s w hf (by omega)
    · exact Take_some f s w hE (by omega) (by omega)
end Go.Proofs.YtfklgaeejmeipaaGreatDoor

/- The walks of umpireref04: an operation's bytes, and the operation that bytes begin with. No condition but the numbers' bounds. -/
namespace Go.Proofs.YtfklgaeejmeipaaGreatDoor
open Go.RowKit


theorem opBoxOnly {w wi : World} {c0 c1 c2 c3 c4 : Value} {t : TypeId} (h : Fr (w.alloc (.cells #[c0, c1, c2, c3, c4] t)) wi) :
    wi.cell? ⟨w.heap.size, 0, none⟩ = some c0 ∧ wi.cell? ⟨w.heap.size, 1, none⟩ = some c1 ∧ wi.cell? ⟨w.heap.size, 2, none⟩ = some c2 ∧ wi.cell? ⟨w.heap.size, 3, none⟩ = some c3 ∧ wi.cell? ⟨w.heap.size, 4, none⟩ = some c4 ∧ w.heap.size < wi.heap.size := by
  have e : ∀ o, wi.cell? ⟨w.heap.size, o, none⟩ = #[c0, c1, c2, c3, c4][o]? := fun o => by
    rw [h.cell _ _ (by simp), World.cell?_alloc_new]
  exact ⟨by rw [e]; rfl, by rw [e]; rfl, by rw [e]; rfl, by rw [e]; rfl, by rw [e]; rfl, h.size1⟩
theorem ret_str2 {a : ByteArray} {l : List UInt8} {v : Value} (h : a.data.toList = l) : Ending.returned (.tuple #[.string a, v]) = Ending.returned (.tuple #[.string ⟨l.toArray⟩, v]) := by subst h; simp
theorem opBytes_of {F O K A B : Nat} {k a b : Bool} (hk : hasK F = k) (ha : hasA F = a) (hb : hasB F = b) : opBytes F O K A B = [UInt8.ofNat F, UInt8.ofNat O] ++ (if k then [UInt8.ofNat K] else []) ++ (if a then be A 2 else []) ++ (if b then be B 2 else []) := by
  subst hk ha hb; rfl
end Go.Proofs.YtfklgaeejmeipaaGreatDoor

/- umpireref04.Take: the operation that bytes begin with. No condition but that the bytes are fewer than 2^47. -/
namespace Go.Proofs.YtfklgaeejmeipaaGreatDoor
open Go.RowKit

def b2n (k : Bool) (n : Nat) : Nat := if k then n else 0
theorem opBoxFr {w wi : World} {c0 c1 c2 c3 c4 : Value} {t : TypeId} (h : Fr (w.alloc (.cells #[c0, c1, c2, c3, c4] t)) wi) :
    wi.frozen? ⟨w.heap.size, 0, none⟩ = false ∧ wi.frozen? ⟨w.heap.size, 1, none⟩ = false ∧ wi.frozen? ⟨w.heap.size, 2, none⟩ = false ∧ wi.frozen? ⟨w.heap.size, 3, none⟩ = false ∧ wi.frozen? ⟨w.heap.size, 4, none⟩ = false := by
  have e : ∀ o, wi.frozen? ⟨w.heap.size, o, none⟩ = false := fun o => by
    rw [h.frozen _ _ (by simp)]; simp
  exact ⟨e _, e _, e _, e _, e _⟩

-- GENERATED BELOW (gen_reftake.py)






end Go.Proofs.YtfklgaeejmeipaaGreatDoor

/- umpireref04.Take, whole: what 'takeOp' tells. -/
namespace Go.Proofs.YtfklgaeejmeipaaGreatDoor
open Go.RowKit

theorem hasKAB {F : Nat} (h0 : 1 ≤ F) (h1 : F ≤ 11) : (hasK F = false ∧ hasA F = false ∧ hasB F = false) ∨ (hasK F = true ∧ hasA F = false ∧ hasB F = false) ∨ (hasK F = false ∧ hasA F = true ∧ hasB F = false) ∨ (hasK F = true ∧ hasA F = true ∧ hasB F = false) ∨ (hasK F = false ∧ hasA F = true ∧ hasB F = true) ∨ (hasK F = true ∧ hasA F = true ∧ hasB F = true) := by
  rcases kNeeds_cases (f := F) (by omega) (by omega) with h | h | h | h | h | h <;> simp only [hasK, hasA, hasB, h] <;> decide
theorem takeOp_torn {k a b : Bool} {f : UInt8} {s : List UInt8} (hf : 1 ≤ f.toNat ∧ f.toNat ≤ 11) (hk : hasK f.toNat = k) (ha : hasA f.toNat = a) (hb : hasB f.toNat = b) (hl : s.length < 1 + b2n k 1 + b2n a 2 + b2n b 2) : takeOp (f :: s) = (.zero, [], 5) := by
  have hn : ¬ (f.toNat = 0 ∨ 12 ≤ f.toNat) := by omega
  rw [takeOp, if_neg hn, hk, ha, hb]
  clear hk ha hb hn hf
  rcases s with _ | ⟨o, _ | ⟨x1, _ | ⟨x2, _ | ⟨x3, _ | ⟨x4, _ | ⟨x5, s⟩⟩⟩⟩⟩⟩ <;> cases k <;> cases a <;> cases b <;> first | (exfalso; simp [b2n] at hl; done) | (exfalso; simp [b2n] at hl; omega) | simp [tk]
theorem tk_no (n : Nat) (r : List UInt8) : tk n false r = some (0, r) := by simp [tk]
theorem tk_one (c : UInt8) (r : List UInt8) : tk 1 true (c :: r) = some (c.toNat, r) := by simp [tk, ofBe]
theorem tk_two (c d : UInt8) (r : List UInt8) : tk 2 true (c :: d :: r) = some (c.toNat * 256 + d.toNat, r) := by
  have h : ¬ (c :: d :: r).length < 2 := by simp
  simp only [tk, if_true, if_neg h]; simp [ofBe]
end Go.Proofs.YtfklgaeejmeipaaGreatDoor

/- Events: what one is; two are the same or not, by the program and by the document. No condition but that both can be read. -/
namespace Go.Proofs.YtfklgaeejmeipaaGreatDoor
open Go.RowKit

/-- Lists of numbers that can be read. -/
structure RdR (w : World) (v : Value) (ls : List (List Nat)) : Prop where
  cells : ∃ vs : List Value, vs.length = ls.length ∧ SlAt w Any v ls.length vs ∧ ∀ (i : Nat) (l : List Nat) (u : Value), ls[i]? = some l → vs[i]? = some u → Rd16 w u l
theorem RdR.keep {w w' : World} {v : Value} {ls : List (List Nat)} (h : RdR w v ls) (f : Fr w w') : RdR w' v ls := by
  obtain ⟨vs, h1, h2, h3⟩ := h
  exact ⟨vs, h1, h2.fr f, fun i l u hl hu => (h3 i l u hl hu).keep f⟩
theorem RdR.at {w : World} {a : Option Addr} {n cap k : Nat} {vs : List Value} {ls : List (List Nat)} (hlen : vs.length = ls.length) (hx : vs = [] ∨ ∃ b off, a = some ⟨b, off, none⟩ ∧ Any b ∧ b < w.heap.size ∧ ∀ j u, vs[j]? = some u → w.cell? ⟨b, off + j, none⟩ = some u)
    (h3 : ∀ (i : Nat) (l : List Nat) (u : Value), ls[i]? = some l → vs[i]? = some u → Rd16 w u l) (hk : k < ls.length) : ∃ b off u, a = some ⟨b, off, none⟩ ∧ w.cell? ⟨b, off + k, none⟩ = some u ∧ Rd16 w u ls[k] := by
  have hk2 : k < vs.length := by omega
  rcases hx with rfl | ⟨b, off, h1, _, h2, hc⟩
  · simp at hk2
  · exact ⟨b, off, vs[k], h1, hc k _ (by simp [hk2]), h3 k _ _ (by simp [hk]) (by simp [hk2])⟩

set_option maxRecDepth 100000 in
theorem equalR_c (u v : Value) (l m : List (List Nat)) (w : World) (hu : RdR w u l) (hv : RdR w v m) :
    Calls Tryz.prog 56 #[u, v, .func (.func 57) #[] #[]] w fun e w' => e = .returned (.bool (decide (l = m))) ∧ Fr w w' := by
  obtain ⟨us, hlu, ⟨a, capa, rfl, hca, hma, hxa⟩, h3a⟩ := hu
  obtain ⟨vs, hlv, ⟨b, capb, rfl, hcb, hmb, hxb⟩, h3b⟩ := hv
  unfold maxLen at hma hmb
  by_cases hlen : l.length = m.length
  · have hl2 : ((l.length : Int) != m.length) = false := by simp; omega
    have HL := Lib.hid hlen
    clear hlen
    go_enter Tryz.func56, Tryz.ntmps56
    go_wp2
    go_loopw [17] (fun i wr => ∃ k : Nat, k ≤ l.length ∧ i = .int .i64 k ∧ l.take k = m.take k ∧ Fr w wr) (fun i _ => l.length - (intOf i).toNat)
    case atStart => exact ⟨0, Nat.zero_le _, rfl, rfl, Fr.refl _⟩
    case round =>
      obtain ⟨k, hk, rfl, htk, hfr⟩ := hrel
      by_cases hlt : k < l.length
      · have hltm : k < m.length := HL.out ▸ hlt
        obtain ⟨b1, o1, u1, rfl, hc1, hr1⟩ := RdR.at (n := 0) (cap := 0) hlu hxa h3a hlt
        obtain ⟨b2, o2, u2, rfl, hc2, hr2⟩ := RdR.at (n := 0) (cap := 0) hlv hxb h3b hltm
        have c1 := hfr.keep hc1
        have c2 := hfr.keep hc2
        have r1 := hr1.keep hfr
        have r2 := hr2.keep hfr
        have hk1 : k < capa := by omega
        have hk2 : k < capb := by omega
        clear hc1 hc2 hr1 hr2 hxa hxb h3a h3b
        by_cases he : l[k] = m[k]
        · have hT := Lib.hid (take_next htk hlt hltm he)
          rw [← he] at r2
          generalize l[k] = x at r1 r2
          clear htk he
          go_wp2_with (go_at_call 57; refine (equal16_c _ _ x x _ r1 r2).mono ?_; rintro e w1 ⟨rfl, hb1⟩; have hb1 := hb1.fr; rw [decide_eq_true rfl])
          go_roundw
          case rel => exact ⟨k + 1, by omega, by go_num, hT.out, hfr.trans hb1⟩
          case measure => simp [intOf]; omega
        · have hT := Lib.hid (ne_at hlt hltm he)
          generalize l[k] = x at r1 he
          generalize m[k] = y at r2 he
          have he2 := decide_eq_false he
          clear htk he
          go_wp2_with (go_at_call 57; refine (equal16_c _ _ x y _ r1 r2).mono ?_; rintro e w1 ⟨rfl, hb1⟩; have hb1 := hb1.fr; rw [he2])
          go_ret
          exact ⟨by rw [decide_eq_false hT.out]; rfl, hfr.trans hb1⟩
      · have hT := Lib.hid (eq_all htk hlt HL.out)
        go_wp2
        go_ret
        exact ⟨by rw [decide_eq_true hT.out]; rfl, hfr⟩
  · have hl2 : ((l.length : Int) != m.length) = true := by simp; omega
    have hne : l ≠ m := fun h => hlen (by rw [h])
    have hT := Lib.hid hne
    clear hne hlen hxa hxb
    go_enter Tryz.func56, Tryz.ntmps56
    go_wp2
    go_ret
    exact ⟨by rw [decide_eq_false hT.out]; rfl, Fr.refl _⟩

/-- A config. -/
structure Cfg where
  model : Nat
  opens : Int
  states : Int
  steps : Int
  part : Bool
  cut : Bool
  memo : Bool
  deriving DecidableEq
def Cfg.zero : Cfg := ⟨0, 0, 0, 0, false, false, false⟩
def Cfg.cells (g : Cfg) : List Value := [.int .u8 g.model, .int .i64 g.opens, .int .i64 g.states, .int .i64 g.steps, .bool g.part, .bool g.cut, .bool g.memo]
/-- An event. -/
structure Ev where
  kind : Nat
  client : Nat
  id : Nat
  op : OpD
  rk : Nat
  rv : Nat
  txn : List Mic
  reads : List (List Nat)
  cfg : Cfg
  deriving DecidableEq
def Ev.zero : Ev := ⟨0, 0, 0, .zero, 0, 0, [], [], .zero⟩
/-- An event's value, its two slices apart. -/
def Ev.val (x : Ev) (t r : Value) : Value := .agg #[.int .u8 x.kind, .int .u8 x.client, .int .u16 x.id, .int .u8 x.op.F, .int .u8 x.op.O, .int .u8 x.op.K, .int .u16 x.op.A, .int .u16 x.op.B, .int .u8 x.rk, .int .u16 x.rv, t, r, .int .u8 x.cfg.model, .int .i64 x.cfg.opens, .int .i64 x.cfg.states, .int .i64 x.cfg.steps, .bool x.cfg.part, .bool x.cfg.cut, .bool x.cfg.memo]
/-- A value that is an event. -/
structure EvAt (w : World) (v : Value) (x : Ev) : Prop where
  is : ∃ t r, v = x.val t r ∧ RdM w t x.txn ∧ RdR w r x.reads
theorem EvAt.keep {w w' : World} {v : Value} {x : Ev} (h : EvAt w v x) (f : Fr w w') : EvAt w' v x := by
  obtain ⟨t, r, h1, h2, h3⟩ := h
  exact ⟨t, r, h1, h2.keep f, h3.keep f⟩
end Go.Proofs.YtfklgaeejmeipaaGreatDoor

/- slices.IndexFunc and ContainsFunc with the two tests of event. No condition but that the list can be read. -/
namespace Go.Proofs.YtfklgaeejmeipaaGreatDoor
open Go.RowKit

/-- A micro that may not be. -/
def micBad (m : Mic) : Bool := decide (8 ≤ m.key) || (m.read && decide (m.v ≠ 0))
/-- A list that is too long. -/
def listBad (l : List Nat) : Bool := decide (32 < l.length)
theorem any_take {α : Type} {p : α → Bool} {l : List α} {k : Nat} (h : (l.take k).any p = false) (hk : k < l.length) (hp : p l[k] = false) : (l.take (k + 1)).any p = false := by
  rw [List.take_succ_eq_append_getElem hk, List.any_append, h]; simp [hp]
theorem any_at {α : Type} {p : α → Bool} {l : List α} {k : Nat} (hk : k < l.length) (hp : p l[k] = true) : l.any p = true := List.any_eq_true.2 ⟨_, List.getElem_mem hk, hp⟩
theorem any_none {α : Type} {p : α → Bool} {l : List α} {k : Nat} (h : (l.take k).any p = false) (hk : ¬ k < l.length) : l.any p = false := by
  rwa [List.take_of_length_le (by omega)] at h

theorem micBad_c (m : Mic) (w : World) :
    Calls Tryz.prog 154 #[.agg #[.bool m.read, .int .u8 m.key, .int .u16 m.v]] w fun e w' => e = .returned (.bool (micBad m)) ∧ Fr w w' := by
  obtain ⟨r, k, v⟩ := m
  have hB : micBad ⟨r, k, v⟩ = (decide (8 ≤ k) || (r && decide (v ≠ 0))) := rfl
  have HB := Lib.hid hB
  clear hB
  by_cases h : 8 ≤ k
  · have h1 : (8 : Int) ≤ k := by omega
    have hd := decide_eq_true h
    have HD := Lib.hid hd
    clear h hd
    go_enter Tryz.func154, Tryz.ntmps154
    go_wp2
    go_ret
    exact ⟨by rw [HB.out, HD.out]; rfl, (Fr.refl _).alloc _⟩
  · have h1 : ¬ (8 : Int) ≤ k := by omega
    have hd := decide_eq_false h
    have HD := Lib.hid hd
    clear h hd
    cases r
    · go_enter Tryz.func154, Tryz.ntmps154
      go_wp2
      go_ret
      exact ⟨by rw [HB.out, HD.out]; rfl, (Fr.refl _).alloc _⟩
    · have h2 : ((v : Int) != 0) = decide (v ≠ 0) := by
        by_cases hv : v = 0
        · simp [hv]
        · simp [hv]
      generalize decide (v ≠ 0) = b at h2 HB
      go_enter Tryz.func154, Tryz.ntmps154
      go_wp2
      go_ret
      exact ⟨by rw [HB.out, HD.out]; rfl, (Fr.refl _).alloc _⟩
theorem listBad_c (v : Value) (l : List Nat) (w : World) (hv : Rd16 w v l) :
    Calls Tryz.prog 156 #[v] w fun e w' => e = .returned (.bool (listBad l)) ∧ Fr w w' := by
  obtain ⟨a, cap, rfl, _⟩ := hv
  have hB : listBad l = decide ((32 : Int) < l.length) := by unfold listBad; by_cases h : 32 < l.length <;> simp [h] <;> omega
  rw [hB]
  clear hB
  go_enter Tryz.func156, Tryz.ntmps156
  go_wp2
  go_ret
  exact ⟨rfl, Fr.refl _⟩
set_option maxRecDepth 100000 in
theorem indexMic_c (u : Value) (l : List Mic) (w : World) (hu : RdM w u l) :
    Calls Tryz.prog 179 #[u, .func (.func 154) #[] #[]] w fun e w' => (∃ r : Int, e = .returned (.int .i64 r) ∧ decide (0 ≤ r) = l.any micBad) ∧ Fr w w' := by
  obtain ⟨a, capa, rfl, hca, hma, hxa⟩ := hu
  unfold maxLen at hma
  go_enter Tryz.func179, Tryz.ntmps179
  go_wp2
  go_loopw [8] (fun i wr => ∃ k : Nat, k ≤ l.length ∧ i = .int .i64 k ∧ (l.take k).any micBad = false ∧ Fr w wr) (fun i _ => l.length - (intOf i).toNat)
  case atStart => exact ⟨0, Nat.zero_le _, rfl, rfl, Fr.refl _⟩
  case round =>
    obtain ⟨k, hk, rfl, htk, hfr⟩ := hrel
    by_cases hlt : k < l.length
    · obtain ⟨b1, o1, rfl, hb1, hc1⟩ := SlAt.at (n := 0) (cap := 0) hxa (mic_ne_nil hlt)
      obtain ⟨c10, c11, c12⟩ := micAt hfr hc1 hlt
      have hk1 : k < capa := by omega
      by_cases he : micBad l[k] = true
      · have hT := Lib.hid (any_at hlt he)
        have hcall := fun W (_ : True) => micBad_c l[k] W
        generalize l[k] = x at c10 c11 c12 hcall he
        rw [he] at hcall
        have HC := Lib.hid hcall
        clear hcall htk he hxa hc1
        go_wp2_with fail
        refine (HC.out _ trivial).mono ?_
        rintro e w1 ⟨rfl, hb1⟩
        go_wp2
        go_ret
        exact ⟨⟨k, rfl, by rw [hT.out]; simp⟩, hfr.trans hb1⟩
      · rw [Bool.not_eq_true] at he
        have hT := Lib.hid (any_take htk hlt he)
        have hcall := fun W (_ : True) => micBad_c l[k] W
        generalize l[k] = x at c10 c11 c12 hcall he
        rw [he] at hcall
        have HC := Lib.hid hcall
        clear hcall htk he hxa hc1
        go_wp2_with fail
        refine (HC.out _ trivial).mono ?_
        rintro e w1 ⟨rfl, hb1⟩
        go_wp2
        go_roundw
        case rel => exact ⟨k + 1, by omega, by go_num, hT.out, hfr.trans hb1⟩
        case measure => simp [intOf]; omega
    · have hT := Lib.hid (any_none htk hlt)
      go_wp2
      go_ret
      exact ⟨⟨-1, rfl, by rw [hT.out]; rfl⟩, hfr⟩
theorem containsMic_c (u : Value) (l : List Mic) (w : World) (hu : RdM w u l) :
    Calls Tryz.prog 155 #[u, .func (.func 154) #[] #[]] w fun e w' => e = .returned (.bool (l.any micBad)) ∧ Fr w w' := by
  have hi := fun W hW => indexMic_c u l W hW
  generalize l.any micBad = b at hi ⊢
  have HI := Lib.hid hi
  clear hi
  go_enter Tryz.func155, Tryz.ntmps155
  go_wp2_with fail
  refine (HI.out _ hu).mono ?_
  rintro e w1 ⟨⟨r, rfl, hr⟩, hb⟩
  go_wp2
  go_ret
  exact ⟨rfl, hb⟩
set_option maxRecDepth 100000 in
theorem indexR_c (u : Value) (l : List (List Nat)) (w : World) (hu : RdR w u l) :
    Calls Tryz.prog 180 #[u, .func (.func 156) #[] #[]] w fun e w' => (∃ r : Int, e = .returned (.int .i64 r) ∧ decide (0 ≤ r) = l.any listBad) ∧ Fr w w' := by
  obtain ⟨us, hlu, ⟨a, capa, rfl, hca, hma, hxa⟩, h3a⟩ := hu
  unfold maxLen at hma
  go_enter Tryz.func180, Tryz.ntmps180
  go_wp2
  go_loopw [8] (fun i wr => ∃ k : Nat, k ≤ l.length ∧ i = .int .i64 k ∧ (l.take k).any listBad = false ∧ Fr w wr) (fun i _ => l.length - (intOf i).toNat)
  case atStart => exact ⟨0, Nat.zero_le _, rfl, rfl, Fr.refl _⟩
  case round =>
    obtain ⟨k, hk, rfl, htk, hfr⟩ := hrel
    by_cases hlt : k < l.length
    · obtain ⟨b1, o1, u1, rfl, hc1, hr1⟩ := RdR.at (n := 0) (cap := 0) hlu hxa h3a hlt
      have c1 := hfr.keep hc1
      have r1 := hr1.keep hfr
      have hk1 : k < capa := by omega
      by_cases he : listBad l[k] = true
      · have hT := Lib.hid (any_at hlt he)
        have hcall := fun W (hh : Rd16 W u1 (l[k])) => listBad_c u1 (l[k]) W hh
        generalize l[k] = x at r1 hcall he hr1
        rw [he] at hcall
        have HC := Lib.hid hcall
        clear hcall htk he hxa hc1 hr1 h3a
        go_wp2_with fail
        refine (HC.out _ r1).mono ?_
        rintro e w1 ⟨rfl, hb1⟩
        go_wp2
        go_ret
        exact ⟨⟨k, rfl, by rw [hT.out]; simp⟩, hfr.trans hb1⟩
      · rw [Bool.not_eq_true] at he
        have hT := Lib.hid (any_take htk hlt he)
        have hcall := fun W (hh : Rd16 W u1 (l[k])) => listBad_c u1 (l[k]) W hh
        generalize l[k] = x at r1 hcall he hr1
        rw [he] at hcall
        have HC := Lib.hid hcall
        clear hcall htk he hxa hc1 hr1 h3a
        go_wp2_with fail
        refine (HC.out _ r1).mono ?_
        rintro e w1 ⟨rfl, hb1⟩
        go_wp2
        go_roundw
        case rel => exact ⟨k + 1, by omega, by go_num, hT.out, hfr.trans hb1⟩
        case measure => simp [intOf]; omega
    · have hT := Lib.hid (any_none htk hlt)
      go_wp2
      go_ret
      exact ⟨⟨-1, rfl, by rw [hT.out]; rfl⟩, hfr⟩
theorem containsR_c (u : Value) (l : List (List Nat)) (w : World) (hu : RdR w u l) :
    Calls Tryz.prog 157 #[u, .func (.func 156) #[] #[]] w fun e w' => e = .returned (.bool (l.any listBad)) ∧ Fr w w' := by
  have hi := fun W hW => indexR_c u l W hW
  generalize l.any listBad = b at hi ⊢
  have HI := Lib.hid hi
  clear hi
  go_enter Tryz.func157, Tryz.ntmps157
  go_wp2_with fail
  refine (HI.out _ hu).mono ?_
  rintro e w1 ⟨⟨r, rfl, hr⟩, hb⟩
  go_wp2
  go_ret
  exact ⟨rfl, hb⟩
end Go.Proofs.YtfklgaeejmeipaaGreatDoor

/- What an event's bytes are, and which event any bytes are, in plain Lean: no program in sight. -/
namespace Go.Proofs.YtfklgaeejmeipaaGreatDoor
open Go.RowKit

/-- An event with what its kind needs, and nothing else. -/
def Ev.needed (x : Ev) : Ev :=
  if x.kind = 1 then { Ev.zero with kind := x.kind, cfg := x.cfg }
  else if x.kind = 2 then { Ev.zero with kind := x.kind, client := x.client, id := x.id, op := x.op }
  else if x.kind = 3 then { Ev.zero with kind := x.kind, client := x.client, id := x.id, rk := x.rk, rv := x.rv }
  else if x.kind = 5 then { Ev.zero with kind := x.kind, client := x.client, id := x.id, txn := x.txn }
  else if x.kind = 6 then { Ev.zero with kind := x.kind, client := x.client, id := x.id, reads := x.reads }
  else { Ev.zero with kind := x.kind, client := x.client, id := x.id }
def cfgMay (c : Cfg) : Bool := decide (c.model ≤ 4) && (decide (1 ≤ c.opens) && decide (c.opens ≤ 32)) && (decide (1 ≤ c.states) && decide (c.states ≤ 4096)) && (decide (1 ≤ c.steps) && decide (c.steps ≤ 1048576))
def txnMay (l : List Mic) : Bool := decide (1 ≤ l.length) && decide (l.length ≤ 8) && !l.any micBad
def readsMay (l : List (List Nat)) : Bool := decide (l.length ≤ 8) && !l.any listBad
/-- May what the kind needs be? -/
def Ev.kindMay (x : Ev) : Bool :=
  if x.kind = 1 then cfgMay x.cfg else if x.kind = 2 then x.op.may else if x.kind = 3 then goodB x.rk x.rv else if x.kind = 5 then txnMay x.txn else if x.kind = 6 then readsMay x.reads
  else x.kind == 4 || x.kind == 7
def Ev.may (x : Ev) : Bool := x.kindMay && decide (x.client < 16) && decide (x = x.needed)
def Ev.check (x : Ev) : Nat := if x.may then 0 else 4

def micBytes (m : Mic) : List UInt8 := if m.read then be (m.key + 128) 1 else be m.key 1 ++ be m.v 2
def bitsOf (a b c : Bool) : Nat := a.toNat + 2 * b.toNat + 4 * c.toNat
def cfgBytes (c : Cfg) : List UInt8 := be c.model 1 ++ be (bitsOf c.part c.cut c.memo) 1 ++ be c.opens.toNat 1 ++ be c.states.toNat 2 ++ be c.steps.toNat 4
/-- What stands behind the kind, and behind client and ID. -/
def Ev.tail (x : Ev) : List UInt8 :=
  if x.kind = 1 then cfgBytes x.cfg
  else if x.kind = 2 then opBytes x.op.F x.op.O x.op.K x.op.A x.op.B
  else if x.kind = 3 then resBytes x.rk x.rv
  else if x.kind = 5 then be x.txn.length 1 ++ x.txn.flatMap micBytes
  else if x.kind = 6 then be x.reads.length 1 ++ x.reads.flatMap listBytes
  else []
def Ev.head (x : Ev) : List UInt8 := if x.kind = 1 then be x.kind 1 else be x.kind 1 ++ be x.client 1 ++ be x.id 2
def Ev.bytes (x : Ev) : List UInt8 := x.head ++ x.tail
def Ev.put (x : Ev) : List UInt8 × Nat := if x.may then (x.bytes, 0) else ([], 4)

/-- Micros out of bytes: so many, until one is torn. -/
def rdMics : Nat → Nat → List UInt8 → Nat → List Mic × Nat × Nat
  | 0, e, _, at_ => ([], e, at_)
  | n + 1, e, s, at_ =>
    if e ≠ 0 then ([], e, at_) else
    let x := rdRaw 0 s at_ 1
    let y := if 128 ≤ ofBe x.1 then ([], x.2) else rdRaw x.2.1 s x.2.2 2
    let z := rdMics n y.2.1 s y.2.2
    (⟨decide (128 ≤ ofBe x.1), ofBe x.1 % 128, ofBe y.1⟩ :: z.1, z.2)
/-- Lists out of bytes: so many, until one is torn. -/
def rdLists : Nat → Nat → List UInt8 → Nat → List (List Nat) × Nat × Nat
  | 0, e, _, at_ => ([], e, at_)
  | n + 1, e, s, at_ =>
    if e ≠ 0 then ([], e, at_) else
    let x := rdList 0 s at_
    let z := rdLists n x.2.1 s x.2.2
    (x.1 :: z.1, z.2)
/-- A config out of bytes. -/
def rdCfg (e : Nat) (s : List UInt8) (at_ : Nat) : Cfg × Nat × Nat :=
  let a := rdRaw e s at_ 1
  let b := rdRaw a.2.1 s a.2.2 1
  let c := rdRaw b.2.1 s b.2.2 1
  let d := rdRaw c.2.1 s c.2.2 2
  let f := rdRaw d.2.1 s d.2.2 4
  (⟨ofBe a.1, ofBe c.1, ofBe d.1, ofBe f.1, ofBe b.1 % 2 == 1, ofBe b.1 / 2 % 2 == 1, ofBe b.1 / 4 % 2 == 1⟩, f.2)
def rdTxn (e : Nat) (s : List UInt8) (at_ : Nat) : List Mic × Nat × Nat :=
  let a := rdRaw e s at_ 1
  rdMics (ofBe a.1) a.2.1 s a.2.2
def rdReads (e : Nat) (s : List UInt8) (at_ : Nat) : List (List Nat) × Nat × Nat :=
  let a := rdRaw e s at_ 1
  rdLists (ofBe a.1) a.2.1 s a.2.2
/-- An operation to the end of the bytes. -/
def rdOp (e : Nat) (s : List UInt8) (at_ : Nat) : OpD × Nat :=
  if e ≠ 0 then (.zero, e) else
  let t := takeOp (s.drop at_)
  (t.1, if t.2.2 = 0 ∧ t.2.1 ≠ [] then 4 else t.2.2)
/-- What stands behind client and ID. -/
def rdBody (x : Ev) (e : Nat) (s : List UInt8) (at_ : Nat) : Ev × Nat :=
  if x.kind = 1 then ({ x with cfg := (rdCfg e s at_).1 }, (rdCfg e s at_).2.1)
  else if x.kind = 2 then ({ x with op := (rdOp e s at_).1 }, (rdOp e s at_).2)
  else if x.kind = 3 then ({ x with rk := (takeRes e s at_).1.1, rv := (takeRes e s at_).1.2.1 }, (takeRes e s at_).1.2.2)
  else if x.kind = 5 then ({ x with txn := (rdTxn e s at_).1 }, (rdTxn e s at_).2.1)
  else if x.kind = 6 then ({ x with reads := (rdReads e s at_).1 }, (rdReads e s at_).2.1)
  else (x, e)
def rdEv (k : Nat) (s : List UInt8) : Ev × Nat :=
  if k = 1 then rdBody { Ev.zero with kind := k } 0 s 1
  else
    let a := rdRaw 0 s 1 1
    let b := rdRaw a.2.1 s a.2.2 2
    rdBody { Ev.zero with kind := k, client := ofBe a.1, id := ofBe b.1 } b.2.1 s b.2.2
/-- The event that bytes are, or why they are none. -/
def takeEv : List UInt8 → Ev × Nat
  | [] => (.zero, 5)
  | k :: s =>
    if k.toNat < 1 ∨ 7 < k.toNat then (.zero, 4) else
    let y := rdEv k.toNat (k :: s)
    if y.2 ≠ 0 then (.zero, y.2) else if y.1.put = (k :: s, 0) then (y.1, 0) else (.zero, 4)
end Go.Proofs.YtfklgaeejmeipaaGreatDoor
