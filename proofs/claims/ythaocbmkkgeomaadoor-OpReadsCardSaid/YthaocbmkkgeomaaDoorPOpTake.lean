/- The walks of umpire/op: the operation that bytes begin with. No condition but the tables' content and the numbers' bounds. -/
import Derived.Test.YthaocbmkkgeomaaDoorPOpPut
import Derived.Test.YthaocbmkkgeomaaDoorPReader
import Derived.RegionTactic
import Derived.BigRegion
import Derived.Test.YthaocbmkkgeomaaDoorPBase
set_option linter.all false
set_option linter.unusedVariables false
set_option linter.unusedSimpArgs false
set_option linter.unnecessarySimpa false
/- The walks of umpire/op: the operation that bytes begin with. No condition but the tables' content and the numbers' bounds. -/
namespace Go.Proofs.YthaocbmkkgeomaaDoor
open Go.RowKit

theorem or16 (a b : UInt8) : bits BinOp.or IntKind.u16 (IntKind.u16.wrap (bits BinOp.or IntKind.u16 0 (IntKind.u16.wrap (a.toNat : Int)) * 256)) (IntKind.u16.wrap (b.toNat : Int)) = ((a.toNat * 256 + b.toNat : Nat) : Int) := by
  have ha := a.toNat_lt
  have hb := b.toNat_lt
  rw [IntWalk.u16_in (a.toNat : Int) (by omega), IntWalk.u16_in (b.toNat : Int) (by omega)]
  have e0 : bits BinOp.or IntKind.u16 0 (a.toNat : Int) = (a.toNat : Int) := by
    have := u16_or_nat 0 a.toNat (by omega) (by omega)
    simpa using this
  rw [e0, IntWalk.u16_in _ (by omega)]
  have e1 : (a.toNat : Int) * 256 = ((256 * a.toNat : Nat) : Int) := by omega
  rw [e1, u16_or_nat _ _ (by omega) (by omega), Nat.mul_comm a.toNat 256]
  exact congrArg _ (Nat.two_pow_add_eq_or_of_lt (i := 8) (b := b.toNat) (by omega) a.toNat).symm
theorem or8 (a : UInt8) : bits BinOp.or IntKind.u16 0 (IntKind.u16.wrap (a.toNat : Int)) % 256 = (a.toNat : Int) := by
  have ha := a.toNat_lt
  rw [IntWalk.u16_in (a.toNat : Int) (by omega)]
  have e0 : bits BinOp.or IntKind.u16 0 (a.toNat : Int) = (a.toNat : Int) := by
    have := u16_or_nat 0 a.toNat (by omega) (by omega)
    simpa using this
  rw [e0]; omega
theorem setCell_comm (w : World) (a b : Addr) (u v : Value) (h : a.block ≠ b.block) : (w.setCell a u).setCell b v = (w.setCell b v).setCell a u := by
  unfold World.setCell
  congr 1
  apply Array.ext_getElem?
  intro i
  simp only [Array.getElem?_modify]
  by_cases h1 : a.block = i <;> by_cases h2 : b.block = i <;> simp_all
theorem extract_tail2 (a b : UInt8) (s : List UInt8) : (⟨(a :: b :: s).toArray⟩ : ByteArray).extract 2 (s.length + 1 + 1) = ⟨s.toArray⟩ := by
  apply ByteArray.ext; simp [ByteArray.data_extract]
theorem extract_tail1 (a : UInt8) (s : List UInt8) : (⟨(a :: s).toArray⟩ : ByteArray).extract 1 (s.length + 1) = ⟨s.toArray⟩ := by
  apply ByteArray.ext; simp [ByteArray.data_extract]
theorem opTake16_skip (q x o : Nat) (w : World) :
    Calls Tryd.prog 66 #[.pointer (some ⟨q, 0, none⟩), .pointer (some ⟨x, o, none⟩), .int .i64 2, .bool false] w fun e w' => e = .returned (.bool true) ∧ w = w' := by
  go_enter Tryd.func66, Tryd.ntmps66
  go_wp2
  go_ret
  exact ⟨rfl, rfl⟩
theorem opTake16_torn (q x o : Nat) (s : List UInt8) (w : World) (hs : w.cell? ⟨q, 0, none⟩ = some (.string ⟨s.toArray⟩)) (hl : s.length < 2) :
    Calls Tryd.prog 66 #[.pointer (some ⟨q, 0, none⟩), .pointer (some ⟨x, o, none⟩), .int .i64 2, .bool true] w fun e w' => e = .returned (.bool false) ∧ w = w' := by
  have hsz := size_mk s
  have hl2 : (s.length : Int) < 2 := by omega
  go_enter Tryd.func66, Tryd.ntmps66
  go_wp2
  go_ret
  exact ⟨rfl, rfl⟩
theorem opTake16_ok (q x o : Nat) (a b : UInt8) (s : List UInt8) (w : World) (hs : w.cell? ⟨q, 0, none⟩ = some (.string ⟨(a :: b :: s).toArray⟩)) (hq : w.frozen? ⟨q, 0, none⟩ = false) (v : Value) (hx : w.cell? ⟨x, o, none⟩ = some v) (hf : w.frozen? ⟨x, o, none⟩ = false) (hne : q ≠ x) (hbig : s.length ≤ 140737488355328) :
    Calls Tryd.prog 66 #[.pointer (some ⟨q, 0, none⟩), .pointer (some ⟨x, o, none⟩), .int .i64 2, .bool true] w fun e w' => e = .returned (.bool true) ∧ w' = ((w.setCell ⟨x, o, none⟩ (.int .u16 ((a.toNat * 256 + b.toNat : Nat) : Int))).setCell ⟨q, 0, none⟩ (.string ⟨s.toArray⟩)).drew := by
  have hsz := size_mk (a :: b :: s)
  have hl2 : ¬ ((a :: b :: s).length : Int) < 2 := by simp; omega
  have hi0 : (⟨(a :: b :: s).toArray⟩ : ByteArray)[0]! = a := by rfl
  go_enter Tryd.func66, Tryd.ntmps66
  go_wp2
  refine wp_loop_rounds 3 ?_
  rw [rounds_succ]
  go_wp2
  rw [rounds_succ]
  go_wp2
  rw [rounds_succ]
  go_wp2
  generalize hval : bits BinOp.or IntKind.u16 (IntKind.u16.wrap (bits BinOp.or IntKind.u16 0 (IntKind.u16.wrap ((⟨(a :: b :: s).toArray⟩ : ByteArray)[0].toNat : Int)) * 256)) (IntKind.u16.wrap ((⟨(a :: b :: s).toArray⟩ : ByteArray)[1].toNat : Int)) = val
  have hv2 : val = ((a.toNat * 256 + b.toNat : Nat) : Int) := by rw [← hval]; exact or16 a b
  have HV := Lib.hid hv2
  clear hval hv2
  go_region
  all_goals
    go_wp2
    go_ret
    refine ⟨rfl, ?_⟩
    rw [HV.out, extract_tail2]
theorem opTake8_skip (q x o : Nat) (w : World) :
    Calls Tryd.prog 65 #[.pointer (some ⟨q, 0, none⟩), .pointer (some ⟨x, o, none⟩), .int .i64 1, .bool false] w fun e w' => e = .returned (.bool true) ∧ w = w' := by
  go_enter Tryd.func65, Tryd.ntmps65
  go_wp2
  go_ret
  exact ⟨rfl, rfl⟩
theorem opTake8_torn (q x o : Nat) (w : World) (hs : w.cell? ⟨q, 0, none⟩ = some (.string ⟨#[]⟩)) :
    Calls Tryd.prog 65 #[.pointer (some ⟨q, 0, none⟩), .pointer (some ⟨x, o, none⟩), .int .i64 1, .bool true] w fun e w' => e = .returned (.bool false) ∧ w = w' := by
  go_enter Tryd.func65, Tryd.ntmps65
  go_wp2
  go_ret
  exact ⟨rfl, rfl⟩
theorem opTake8_ok (q x o : Nat) (a : UInt8) (s : List UInt8) (w : World) (hs : w.cell? ⟨q, 0, none⟩ = some (.string ⟨(a :: s).toArray⟩)) (hq : w.frozen? ⟨q, 0, none⟩ = false) (v : Value) (hx : w.cell? ⟨x, o, none⟩ = some v) (hf : w.frozen? ⟨x, o, none⟩ = false) (hne : q ≠ x) (hbig : s.length ≤ 140737488355328) :
    Calls Tryd.prog 65 #[.pointer (some ⟨q, 0, none⟩), .pointer (some ⟨x, o, none⟩), .int .i64 1, .bool true] w fun e w' => e = .returned (.bool true) ∧ w' = ((w.setCell ⟨x, o, none⟩ (.int .u8 (a.toNat : Int))).setCell ⟨q, 0, none⟩ (.string ⟨s.toArray⟩)).drew := by
  have hsz := size_mk (a :: s)
  have hl2 : ¬ ((a :: s).length : Int) < 1 := by simp; omega
  go_enter Tryd.func65, Tryd.ntmps65
  go_wp2
  refine wp_loop_rounds 2 ?_
  rw [rounds_succ]
  go_wp2
  rw [rounds_succ]
  go_wp2
  generalize hval : bits BinOp.or IntKind.u16 0 (IntKind.u16.wrap ((⟨(a :: s).toArray⟩ : ByteArray)[0].toNat : Int)) = val
  have hv2 : val % 256 = (a.toNat : Int) := by rw [← hval]; exact or8 a
  have HV := Lib.hid hv2
  clear hval hv2
  go_region
  all_goals
    go_wp2
    go_ret
    refine ⟨rfl, ?_⟩
    rw [HV.out, extract_tail1]

/-- A number out of the next bytes, if it is wanted; none: bytes are missing. -/
def tk (n : Nat) (needed : Bool) (r : List UInt8) : Option (Nat × List UInt8) := if needed then (if r.length < n then none else some (ofBe (r.take n), r.drop n)) else some (0, r)
/-- Where op.Take stands: the operation's box (the first block behind 'w0'), the rest's box behind it, the kind's box. -/
structure TkAt (w0 : World) (kb : Nat) (cs : List Value) (rest : List UInt8) (N : Int) (wi : World) : Prop where
  fr : Fr w0 wi
  c : ∀ j v, cs[j]? = some v → wi.cell? ⟨w0.heap.size, j, none⟩ = some v
  f : ∀ j, wi.frozen? ⟨w0.heap.size, j, none⟩ = false
  r : wi.cell? ⟨w0.heap.size + 1, 0, none⟩ = some (.string ⟨rest.toArray⟩)
  fr1 : wi.frozen? ⟨w0.heap.size + 1, 0, none⟩ = false
  k : wi.cell? ⟨kb, 2, none⟩ = some (.int .u8 N)
  hk : w0.heap.size + 1 < kb
theorem TkAt.step {w0 wi : World} {kb o : Nat} {cs : List Value} {rest rest' : List UInt8} {N : Int} {v : Value} (h : TkAt w0 kb cs rest N wi) (ho : o < cs.length) :
    TkAt w0 kb (cs.set o v) rest' N ((wi.setCell ⟨w0.heap.size, o, none⟩ v).setCell ⟨w0.heap.size + 1, 0, none⟩ (.string ⟨rest'.toArray⟩)).drew where
  fr := ((h.fr.setCell (p := ⟨w0.heap.size, o, none⟩) (Nat.le_refl _) v).setCell (p := ⟨w0.heap.size + 1, 0, none⟩) (Nat.le_succ _) _).drew
  c := fun j u hj => by
    rw [World.cell?_drew, World.cell?_setCell_other _ _ _ _ (by simp)]
    by_cases e : o = j
    · subst e
      rw [List.getElem?_set_self ho] at hj
      obtain rfl := Option.some.inj hj
      exact World.cell?_setCell_same _ _ _ (h.c o _ (List.getElem?_eq_getElem ho))
    · rw [List.getElem?_set_ne e] at hj
      rw [World.cell?_setCell_other _ _ _ _ (by simp <;> exact e)]
      exact h.c j u hj
  f := fun j => by
    show World.frozen? (World.setCell _ _ _) _ = _
    rw [World.frozen?_setCell, World.frozen?_setCell]; exact h.f j
  r := by
    rw [World.cell?_drew]
    exact World.cell?_setCell_same _ _ _ (by rw [World.cell?_setCell_other _ _ _ _ (by simp)]; exact h.r)
  fr1 := by
    show World.frozen? (World.setCell _ _ _) _ = _
    rw [World.frozen?_setCell, World.frozen?_setCell]; exact h.fr1
  k := by
    have := h.hk
    rw [World.cell?_drew, World.cell?_setCell_other _ _ _ _ (by simp <;> omega), World.cell?_setCell_other _ _ _ _ (by simp <;> omega)]; exact h.k
  hk := h.hk
/-- What a take leaves. -/
def TkPost (w0 : World) (kb o n : Nat) (k : IntKind) (needed : Bool) (cs : List Value) (rest : List UInt8) (N : Int) (e : Ending) (w' : World) : Prop :=
  match tk n needed rest with
  | none => e = .returned (.bool false) ∧ TkAt w0 kb cs rest N w'
  | some (v, r) => e = .returned (.bool true) ∧ TkAt w0 kb (cs.set o (.int k v)) r N w'
theorem TkAt.keep {w0 wi w' : World} {kb : Nat} {cs : List Value} {rest : List UInt8} {N : Int} (h : TkAt w0 kb cs rest N wi) (f : Fr wi w') (hc : 0 < cs.length := by simp) : TkAt w0 kb cs rest N w' :=
  have hb : w0.heap.size < wi.heap.size := lt_of_cell (h.c 0 _ (List.getElem?_eq_getElem hc))
  ⟨h.fr.trans f, fun j v hj => f.keep (h.c j v hj), fun j => (f.frozen _ j hb).trans (h.f j), f.keep h.r, (f.frozen _ 0 (lt_of_cell h.r)).trans h.fr1, f.keep h.k, h.hk⟩
theorem TkAt.facts {w0 wi : World} {kb : Nat} {c0 c1 c2 c3 c4 : Value} {rest : List UInt8} {N : Int} (h : TkAt w0 kb [c0, c1, c2, c3, c4] rest N wi) :
    (wi.cell? ⟨w0.heap.size, 0, none⟩ = some c0 ∧ wi.cell? ⟨w0.heap.size, 1, none⟩ = some c1 ∧ wi.cell? ⟨w0.heap.size, 2, none⟩ = some c2 ∧ wi.cell? ⟨w0.heap.size, 3, none⟩ = some c3 ∧ wi.cell? ⟨w0.heap.size, 4, none⟩ = some c4 ∧ wi.cell? ⟨w0.heap.size + 1, 0, none⟩ = some (.string ⟨rest.toArray⟩) ∧ wi.cell? ⟨kb, 2, none⟩ = some (.int .u8 N)) ∧
    (wi.frozen? ⟨w0.heap.size, 0, none⟩ = false ∧ wi.frozen? ⟨w0.heap.size, 1, none⟩ = false ∧ wi.frozen? ⟨w0.heap.size, 2, none⟩ = false ∧ wi.frozen? ⟨w0.heap.size, 3, none⟩ = false ∧ wi.frozen? ⟨w0.heap.size, 4, none⟩ = false ∧ wi.frozen? ⟨w0.heap.size + 1, 0, none⟩ = false) ∧
    w0.heap.size < wi.heap.size ∧ w0.heap.size + 1 < wi.heap.size :=
  ⟨⟨h.c 0 _ rfl, h.c 1 _ rfl, h.c 2 _ rfl, h.c 3 _ rfl, h.c 4 _ rfl, h.r, h.k⟩, ⟨h.f 0, h.f 1, h.f 2, h.f 3, h.f 4, h.fr1⟩, lt_of_cell (h.c 0 _ rfl), lt_of_cell h.r⟩
theorem set_self {cs : List Value} {o : Nat} {v : Value} (h : cs[o]? = some v) : cs.set o v = cs := by
  apply List.ext_getElem?
  intro i
  by_cases e : o = i
  · subst e
    have := (List.getElem?_eq_some_iff.1 h).1
    rw [List.getElem?_set_self this, h]
  · rw [List.getElem?_set_ne e]
theorem tk8_c (w0 wi : World) (kb o : Nat) (needed : Bool) (cs : List Value) (rest : List UInt8) (N : Int) (h : TkAt w0 kb cs rest N wi) (h0 : cs[o]? = some (.int .u8 0)) (hb : rest.length ≤ 140737488355328) :
    Calls Tryd.prog 65 #[.pointer (some ⟨w0.heap.size + 1, 0, none⟩), .pointer (some ⟨w0.heap.size, o, none⟩), .int .i64 1, .bool needed] wi (TkPost w0 kb o 1 .u8 needed cs rest N) := by
  have ho := (List.getElem?_eq_some_iff.1 h0).1
  cases needed
  · refine (opTake8_skip _ _ _ wi).mono fun e w' ⟨he, hw⟩ => ?_
    subst he hw
    exact ⟨rfl, by rw [show ((0 : Nat) : Int) = 0 from rfl, set_self h0]; exact h⟩
  · cases rest with
    | nil => exact (opTake8_torn _ _ o wi h.r).mono fun e w' ⟨he, hw⟩ => ⟨he, by rw [← hw]; exact h⟩
    | cons a s =>
      refine (opTake8_ok _ _ o a s wi h.r h.fr1 _ (h.c o _ h0) (h.f o) (by simp) (by simp at hb; omega)).mono fun e w' ⟨he, hw⟩ => ?_
      subst he hw
      have e1 : ofBe ((a :: s).take 1) = a.toNat := by simp [ofBe]
      simp only [TkPost, tk, if_true, List.length_cons, show ¬ (s.length + 1 < 1) by omega, if_false, e1]
      exact ⟨trivial, h.step ho⟩
theorem tk16_c (w0 wi : World) (kb o : Nat) (needed : Bool) (cs : List Value) (rest : List UInt8) (N : Int) (h : TkAt w0 kb cs rest N wi) (h0 : cs[o]? = some (.int .u16 0)) (hb : rest.length ≤ 140737488355328) :
    Calls Tryd.prog 66 #[.pointer (some ⟨w0.heap.size + 1, 0, none⟩), .pointer (some ⟨w0.heap.size, o, none⟩), .int .i64 2, .bool needed] wi (TkPost w0 kb o 2 .u16 needed cs rest N) := by
  have ho := (List.getElem?_eq_some_iff.1 h0).1
  cases needed
  · refine (opTake16_skip _ _ _ wi).mono fun e w' ⟨he, hw⟩ => ?_
    subst he hw
    exact ⟨rfl, by rw [show ((0 : Nat) : Int) = 0 from rfl, set_self h0]; exact h⟩
  · by_cases hl : rest.length < 2
    · refine (opTake16_torn _ _ o rest wi h.r hl).mono fun e w' ⟨he, hw⟩ => ?_
      simp only [TkPost, tk, if_true, if_pos hl]
      exact ⟨he, by rw [← hw]; exact h⟩
    · obtain ⟨a, b, s, rfl⟩ : ∃ a b s, rest = a :: b :: s := by
        match rest, hl with
        | [], hl => simp at hl
        | [a], hl => simp at hl
        | a :: b :: s, _ => exact ⟨a, b, s, rfl⟩
      · refine (opTake16_ok _ _ o a b s wi h.r h.fr1 _ (h.c o _ h0) (h.f o) (by simp) (by simp at hb; omega)).mono fun e w' ⟨he, hw⟩ => ?_
        subst he hw
        have e1 : ofBe ((a :: b :: s).take 2) = a.toNat * 256 + b.toNat := by simp [ofBe]
        simp only [TkPost, tk, if_true, if_neg hl, e1]
        exact ⟨trivial, h.step ho⟩
end Go.Proofs.YthaocbmkkgeomaaDoor

/- op.Take: the operation that bytes begin with. No condition but the tables' content and that the bytes are fewer than 2^47. -/
namespace Go.Proofs.YthaocbmkkgeomaaDoor
open Go.RowKit

/-- An operation's five numbers. -/
structure OpD where
  F : Nat
  O : Nat
  K : Nat
  A : Nat
  B : Nat
  deriving DecidableEq
def OpD.zero : OpD := ⟨0, 0, 0, 0, 0⟩
def OpD.cells (x : OpD) : List Value := [.int .u8 x.F, .int .u8 x.O, .int .u8 x.K, .int .u16 x.A, .int .u16 x.B]
def OpD.may (x : OpD) : Bool := mayB x.F x.O x.K x.A x.B
/-- The operation that bytes begin with, what is behind it, and why there is none. -/
def takeOp : List UInt8 → OpD × List UInt8 × Nat
  | [] => (.zero, [], 5)
  | f :: s =>
    if f.toNat = 0 ∨ 12 ≤ f.toNat then (.zero, [], 4) else
    match tk 1 true s with
    | none => (.zero, [], 5)
    | some (O, r1) =>
      match tk 1 (hasK f.toNat) r1 with
      | none => (.zero, [], 5)
      | some (K, r2) =>
        match tk 2 (hasA f.toNat) r2 with
        | none => (.zero, [], 5)
        | some (A, r3) =>
          match tk 2 (hasB f.toNat) r3 with
          | none => (.zero, [], 5)
          | some (B, r4) => if (OpD.mk f.toNat O K A B).may then (⟨f.toNat, O, K, A, B⟩, r4, 0) else (.zero, [], 4)

theorem tk_len {n : Nat} {needed : Bool} {r r' : List UInt8} {v m : Nat} (h : tk n needed r = some (v, r')) (hr : r.length ≤ m) : r'.length ≤ m := by
  unfold tk at h
  split at h
  · split at h
    · cases h
    · cases h; simp; omega
  · cases h; exact hr
theorem Take_nil (w : World) :
    Calls Tryd.prog 35 #[.string ⟨#[]⟩] w fun e w' => e = .returned (.tuple #[.agg #[.int .u8 0, .int .u8 0, .int .u8 0, .int .u16 0, .int .u16 0], .string ⟨#[]⟩, .int .i64 5]) ∧ Fr w w' := by
  go_enter Tryd.func35, Tryd.ntmps35
  go_wp2
  exact bodyPost_ret (v := .tuple #[.agg #[.int .u8 0, .int .u8 0, .int .u8 0, .int .u16 0, .int .u16 0], .string ⟨#[]⟩, .int .i64 5]) (by simp [results, Tryd.results35, go_sem]) rfl ⟨rfl, ((Fr.refl _).alloc _).alloc _⟩
/-- The two boxes of op.Take, in whatever world keeps them. -/
theorem twoBox {w w1 : World} {c0 c1 c2 c3 c4 r : Value} {t u : TypeId} (h : Fr ((w.alloc (.cells #[c0, c1, c2, c3, c4] t)).alloc (.cells #[r] u)) w1) :
    (w1.cell? ⟨w.heap.size, 0, none⟩ = some c0 ∧ w1.cell? ⟨w.heap.size, 1, none⟩ = some c1 ∧ w1.cell? ⟨w.heap.size, 2, none⟩ = some c2 ∧ w1.cell? ⟨w.heap.size, 3, none⟩ = some c3 ∧ w1.cell? ⟨w.heap.size, 4, none⟩ = some c4 ∧ w1.cell? ⟨w.heap.size + 1, 0, none⟩ = some r) ∧
    ((∀ j, w1.frozen? ⟨w.heap.size, j, none⟩ = false) ∧ w1.frozen? ⟨w.heap.size + 1, 0, none⟩ = false) ∧ w.heap.size < w1.heap.size ∧ w.heap.size + 1 < w1.heap.size := by
  have hs := h.size2
  have e : ∀ b o, b < w.heap.size + 2 → w1.cell? ⟨b, o, none⟩ = ((w.alloc (.cells #[c0, c1, c2, c3, c4] t)).alloc (.cells #[r] u)).cell? ⟨b, o, none⟩ := fun b o hb => h.cell b o (by simp; omega)
  have f : ∀ b o, b < w.heap.size + 2 → w1.frozen? ⟨b, o, none⟩ = ((w.alloc (.cells #[c0, c1, c2, c3, c4] t)).alloc (.cells #[r] u)).frozen? ⟨b, o, none⟩ := fun b o hb => h.frozen b o (by simp; omega)
  have g : ∀ o, ((w.alloc (.cells #[c0, c1, c2, c3, c4] t)).alloc (.cells #[r] u)).cell? ⟨w.heap.size, o, none⟩ = #[c0, c1, c2, c3, c4][o]? := fun o => by
    rw [World.cell?_alloc_lt _ _ _ (by simp), World.cell?_alloc_new]
  have g1 : ((w.alloc (.cells #[c0, c1, c2, c3, c4] t)).alloc (.cells #[r] u)).cell? ⟨w.heap.size + 1, 0, none⟩ = some r := by
    simp
  refine ⟨⟨?_, ?_, ?_, ?_, ?_, ?_⟩, ⟨fun j => ?_, ?_⟩, by omega, hs⟩
  · rw [e _ _ (by omega), g]; rfl
  · rw [e _ _ (by omega), g]; rfl
  · rw [e _ _ (by omega), g]; rfl
  · rw [e _ _ (by omega), g]; rfl
  · rw [e _ _ (by omega), g]; rfl
  · rw [e _ _ (by omega), g1]
  · rw [f _ _ (by omega)]; simp
  · rw [f _ _ (by omega)]; simp
set_option maxHeartbeats 800000 in
theorem Take_none (f : UInt8) (s : List UInt8) (w : World) (hf : f.toNat = 0 ∨ 12 ≤ f.toNat) (hb : s.length ≤ 140737488355328) :
    Calls Tryd.prog 35 #[.string ⟨(f :: s).toArray⟩] w fun e w' => e = .returned (.tuple #[.agg #[.int .u8 0, .int .u8 0, .int .u8 0, .int .u16 0, .int .u16 0], .string ⟨#[]⟩, .int .i64 4]) ∧ Fr w w' := by
  have hlt := f.toNat_lt
  have hfind := fun W => find_no (f.toNat : Int) W (by omega) (by omega) (by omega)
  have HF := Lib.hid hfind
  clear hfind hlt hf
  have hsz := size_mk (f :: s)
  go_enter Tryd.func35, Tryd.ntmps35
  go_wp2_with fail
  refine (HF.out _).mono ?_
  rintro e w1 ⟨rfl, hb1⟩
  have hfr1 : Fr w w1 := Fr.trans (((Fr.refl w).alloc _).alloc _) hb1
  obtain ⟨⟨a0, a1, a2, a3, a4, a5⟩, ⟨z0, z5⟩, s0, s1⟩ := twoBox hb1
  have z00 := z0 0
  have z01 := z0 1
  have z02 := z0 2
  have z03 := z0 3
  have z04 := z0 4
  clear z0
  go_wp2
  refine bodyPost_ret (v := .tuple #[.agg #[.int .u8 0, .int .u8 0, .int .u8 0, .int .u16 0, .int .u16 0], .string ⟨#[]⟩, .int .i64 4]) (by simp [results, Tryd.results35, go_sem, a0, a1, a2, a3, a4, a5, s0, s1]) rfl ⟨rfl, ?_⟩
  repeat (with_reducible first | assumption | apply Fr.alloc | refine Fr.setCell ?_ (by simp) _)
def OpD.val (x : OpD) : Value := .agg #[.int .u8 x.F, .int .u8 x.O, .int .u8 x.K, .int .u16 x.A, .int .u16 x.B]
theorem TkAt.start {w w1 : World} {c0 c1 c2 c3 c4 r r' k0 k1 v : Value} {t u : TypeId} {kt : TypeId} {N : Int} {s : List UInt8} (h : Fr ((w.alloc (.cells #[c0, c1, c2, c3, c4] t)).alloc (.cells #[r] u)) w1) (hr : r' = .string ⟨s.toArray⟩) :
    TkAt w w1.heap.size [v, c1, c2, c3, c4] s N (((w1.setCell ⟨w.heap.size, 0, none⟩ v).setCell ⟨w.heap.size + 1, 0, none⟩ r').alloc (.cells #[k0, k1, .int .u8 N] kt)).drew := by
  obtain ⟨⟨a0, a1, a2, a3, a4, a5⟩, ⟨z0, z5⟩, s0, s1⟩ := twoBox h
  have hfr1 : Fr w w1 := Fr.trans (((Fr.refl w).alloc _).alloc _) h
  subst hr
  have hsz : ((w1.setCell ⟨w.heap.size, 0, none⟩ v).setCell ⟨w.heap.size + 1, 0, none⟩ (.string ⟨s.toArray⟩)).heap.size = w1.heap.size := by simp
  refine ⟨(((hfr1.setCell (p := ⟨w.heap.size, 0, none⟩) (Nat.le_refl _) v).setCell (p := ⟨w.heap.size + 1, 0, none⟩) (Nat.le_succ _) _).alloc _).drew, fun j u hj => ?_, fun j => ?_, ?_, ?_, ?_, s1⟩
  · rw [World.cell?_drew, World.cell?_alloc_lt _ _ _ (by rw [hsz]; exact s0), World.cell?_setCell_other _ _ _ _ (by simp)]
    match j, hj with
    | 0, hj => simp at hj; subst hj; exact World.cell?_setCell_same _ _ _ a0
    | 1, hj => simp at hj; subst hj; rw [World.cell?_setCell_other _ _ _ _ (by simp)]; exact a1
    | 2, hj => simp at hj; subst hj; rw [World.cell?_setCell_other _ _ _ _ (by simp)]; exact a2
    | 3, hj => simp at hj; subst hj; rw [World.cell?_setCell_other _ _ _ _ (by simp)]; exact a3
    | 4, hj => simp at hj; subst hj; rw [World.cell?_setCell_other _ _ _ _ (by simp)]; exact a4
  · show World.frozen? (World.alloc _ _) _ = _
    rw [World.frozen?_alloc_past _ _ _ (by rw [hsz]; exact s0), World.frozen?_setCell, World.frozen?_setCell]; exact z0 j
  · rw [World.cell?_drew, World.cell?_alloc_lt _ _ _ (by rw [hsz]; exact s1)]
    exact World.cell?_setCell_same _ _ _ (by rw [World.cell?_setCell_other _ _ _ _ (by simp)]; exact a5)
  · show World.frozen? (World.alloc _ _) _ = _
    rw [World.frozen?_alloc_past _ _ _ (by rw [hsz]; exact s1), World.frozen?_setCell, World.frozen?_setCell]; exact z5
  · rw [World.cell?_drew, ← hsz, World.cell?_alloc_new]; rfl
set_option maxHeartbeats 2000000 in
set_option maxRecDepth 100000 in
theorem Take_some (f : UInt8) (s : List UInt8) (w : World) (hE : Env w) (hf : 1 ≤ f.toNat ∧ f.toNat ≤ 11) (hb : s.length ≤ 140737488355327) :
    Calls Tryd.prog 35 #[.string ⟨(f :: s).toArray⟩] w fun e w' => e = .returned (.tuple #[(takeOp (f :: s)).1.val, .string ⟨(takeOp (f :: s)).2.1.toArray⟩, .int .i64 (takeOp (f :: s)).2.2]) ∧ Fr w w' := by
  have hlt := f.toNat_lt
  have hsz := size_mk (f :: s)
  have hfind := fun W hE => find_yes f.toNat W hf.1 hf.2 hE
  have HF := Lib.hid hfind
  have hfn : ¬ (f.toNat = 0 ∨ 12 ≤ f.toNat) := by omega
  have hto : takeOp (f :: s) = match tk 1 true s with
    | none => (.zero, [], 5)
    | some (O, r1) =>
      match tk 1 (hasK f.toNat) r1 with
      | none => (.zero, [], 5)
      | some (K, r2) =>
        match tk 2 (hasA f.toNat) r2 with
        | none => (.zero, [], 5)
        | some (A, r3) =>
          match tk 2 (hasB f.toNat) r3 with
          | none => (.zero, [], 5)
          | some (B, r4) => if (OpD.mk f.toNat O K A B).may then (⟨f.toNat, O, K, A, B⟩, r4, 0) else (.zero, [], 4) := by
    rw [takeOp, if_neg hfn]
  generalize takeOp (f :: s) = T at hto ⊢
  have HT := Lib.hid hto
  clear hfind hto
  have e0 : ∀ h, (⟨(f :: s).toArray⟩ : ByteArray)[0]'h = f := fun _ => rfl
  go_enter Tryd.func35, Tryd.ntmps35
  go_wp2_with fail
  refine (HF.out _ (by repeat (first | assumption | apply Env.alloc))).mono ?_
  rintro e w1 ⟨rfl, hb1⟩
  obtain ⟨⟨a0, a1, a2, a3, a4, a5⟩, ⟨z0, z5⟩, s0, s1⟩ := twoBox hb1
  have z00 := z0 0
  have hfr1 : Fr w w1 := Fr.trans (((Fr.refl w).alloc _).alloc _) hb1
  clear z0
  go_wp2_with fail
  go_region
  go_wp2_with fail
  have hTk := TkAt.start (v := .int .u8 (f.toNat : Int)) (k0 := .int .u8 (kModel f.toNat)) (k1 := .string ⟨(kName f.toNat).toArray⟩) (kt := 115) (N := kNeeds f.toNat) hb1 (congrArg Value.string (extract_tail1 f s))
  have hE6 : Env (((w1.setCell ⟨w.heap.size, 0, none⟩ (.int .u8 (f.toNat : Int))).setCell ⟨w.heap.size + 1, 0, none⟩ (.string ((⟨(f :: s).toArray⟩ : ByteArray).extract 1 (s.length + 1)))).alloc (.cells #[.int .u8 (kModel f.toNat), .string ⟨(kName f.toNat).toArray⟩, .int .u8 (kNeeds f.toNat)] 115)).drew := hE.keep hTk.fr
  have hlen : s.length ≤ 140737488355328 := by omega
  generalize w1.heap.size = kb at hTk ⊢
  generalize hWW : (((w1.setCell ⟨w.heap.size, 0, none⟩ (.int .u8 (f.toNat : Int))).setCell ⟨w.heap.size + 1, 0, none⟩ (.string ((⟨(f :: s).toArray⟩ : ByteArray).extract 1 (s.length + 1)))).alloc (.cells #[.int .u8 (kModel f.toNat), .string ⟨(kName f.toNat).toArray⟩, .int .u8 (kNeeds f.toNat)] 115)).drew = W6 at hTk ⊢
  clear hWW a0 a1 a2 a3 a4 a5 z5 s0 s1 z00 hb1 hfr1 hsz HF hE6
  refine (tk8_c w _ kb 1 true _ s _ hTk rfl hlen).mono ?_
  intro e w7 hp
  cases h1 : tk 1 true s with
  | none =>
    simp only [TkPost, h1] at hp
    obtain ⟨rfl, hTk⟩ := hp
    obtain ⟨⟨a0, a1, a2, a3, a4, a5, a6⟩, ⟨z0, z1, z2, z3, z4, z5⟩, s0, s1⟩ := hTk.facts
    have hfr := hTk.fr
    go_wp2
    refine bodyPost_ret (v := .tuple #[.agg #[.int .u8 0, .int .u8 0, .int .u8 0, .int .u16 0, .int .u16 0], .string ⟨#[]⟩, .int .i64 5]) (by simp [results, Tryd.results35, go_sem, a0, a1, a2, a3, a4, a5, s0, s1]) rfl ⟨?_, ?_⟩
    · rw [HT.out]; simp only [h1]; rfl
    · repeat (with_reducible first | assumption | apply Fr.alloc | refine Fr.setCell ?_ (by simp) _)
  | some y =>
    obtain ⟨O, r1⟩ := y
    simp only [TkPost, h1] at hp
    obtain ⟨rfl, hTk⟩ := hp
    have hlen1 : r1.length ≤ 140737488355328 := tk_len h1 hlen
    simp only [List.set] at hTk
    have a6 := hTk.k
    go_wp2_with fail
    clear a6
    refine (tk8_c w _ kb 2 (hasK f.toNat) _ r1 _ hTk rfl hlen1).mono ?_
    intro e w8 hp
    cases h2 : tk 1 (hasK f.toNat) r1 with
    | none =>
      simp only [TkPost, h2] at hp
      obtain ⟨rfl, hTk⟩ := hp
      obtain ⟨⟨a0, a1, a2, a3, a4, a5, a6⟩, ⟨z0, z1, z2, z3, z4, z5⟩, s0, s1⟩ := hTk.facts
      have hfr := hTk.fr
      go_wp2
      refine bodyPost_ret (v := .tuple #[.agg #[.int .u8 0, .int .u8 0, .int .u8 0, .int .u16 0, .int .u16 0], .string ⟨#[]⟩, .int .i64 5]) (by simp [results, Tryd.results35, go_sem, a0, a1, a2, a3, a4, a5, s0, s1]) rfl ⟨?_, ?_⟩
      · rw [HT.out]; simp only [h1, h2]; rfl
      · repeat (with_reducible first | assumption | apply Fr.alloc | refine Fr.setCell ?_ (by simp) _)
    | some y =>
      obtain ⟨K, r2⟩ := y
      simp only [TkPost, h2] at hp
      obtain ⟨rfl, hTk⟩ := hp
      have hlen2 : r2.length ≤ 140737488355328 := tk_len h2 hlen1
      simp only [List.set] at hTk
      have a6 := hTk.k
      go_wp2_with fail
      clear a6
      refine (tk16_c w _ kb 3 (hasA f.toNat) _ r2 _ hTk rfl hlen2).mono ?_
      intro e w9 hp
      cases h3 : tk 2 (hasA f.toNat) r2 with
      | none =>
        simp only [TkPost, h3] at hp
        obtain ⟨rfl, hTk⟩ := hp
        obtain ⟨⟨a0, a1, a2, a3, a4, a5, a6⟩, ⟨z0, z1, z2, z3, z4, z5⟩, s0, s1⟩ := hTk.facts
        have hfr := hTk.fr
        go_wp2
        refine bodyPost_ret (v := .tuple #[.agg #[.int .u8 0, .int .u8 0, .int .u8 0, .int .u16 0, .int .u16 0], .string ⟨#[]⟩, .int .i64 5]) (by simp [results, Tryd.results35, go_sem, a0, a1, a2, a3, a4, a5, s0, s1]) rfl ⟨?_, ?_⟩
        · rw [HT.out]; simp only [h1, h2, h3]; rfl
        · repeat (with_reducible first | assumption | apply Fr.alloc | refine Fr.setCell ?_ (by simp) _)
      | some y =>
        obtain ⟨A, r3⟩ := y
        simp only [TkPost, h3] at hp
        obtain ⟨rfl, hTk⟩ := hp
        have hlen3 : r3.length ≤ 140737488355328 := tk_len h3 hlen2
        simp only [List.set] at hTk
        have a6 := hTk.k
        go_wp2_with fail
        clear a6
        refine (tk16_c w _ kb 4 (hasB f.toNat) _ r3 _ hTk rfl hlen3).mono ?_
        intro e w10 hp
        cases h4 : tk 2 (hasB f.toNat) r3 with
        | none =>
          simp only [TkPost, h4] at hp
          obtain ⟨rfl, hTk⟩ := hp
          obtain ⟨⟨a0, a1, a2, a3, a4, a5, a6⟩, ⟨z0, z1, z2, z3, z4, z5⟩, s0, s1⟩ := hTk.facts
          have hfr := hTk.fr
          go_wp2
          refine bodyPost_ret (v := .tuple #[.agg #[.int .u8 0, .int .u8 0, .int .u8 0, .int .u16 0, .int .u16 0], .string ⟨#[]⟩, .int .i64 5]) (by simp [results, Tryd.results35, go_sem, a0, a1, a2, a3, a4, a5, s0, s1]) rfl ⟨?_, ?_⟩
          · rw [HT.out]; simp only [h1, h2, h3, h4]; rfl
          · repeat (with_reducible first | assumption | apply Fr.alloc | refine Fr.setCell ?_ (by simp) _)
        | some y =>
          obtain ⟨B, r4⟩ := y
          simp only [TkPost, h4] at hp
          obtain ⟨rfl, hTk⟩ := hp
          have hlen4 : r4.length ≤ 140737488355328 := tk_len h4 hlen3
          simp only [List.set] at hTk
          have a6 := hTk.k
          obtain ⟨⟨a0, a1, a2, a3, a4, a5, a6'⟩, ⟨z0, z1, z2, z3, z4, z5⟩, s0, s1⟩ := hTk.facts
          have hfr := hTk.fr
          have hE9 := hE.keep hfr
          go_wp2_with fail
          refine (may_c f.toNat O K A B _ hE9 (by omega)).mono ?_
          cases hm : mayB f.toNat O K A B with
          | false =>
            rintro e w11 ⟨rfl, hb11⟩
            have hTk2 := hTk.keep hb11
            clear a0 a1 a2 a3 a4 a5 a6' z0 z1 z2 z3 z4 z5 s0 s1 hfr hE9 hTk
            obtain ⟨⟨a0, a1, a2, a3, a4, a5, a6⟩, ⟨z0, z1, z2, z3, z4, z5⟩, s0, s1⟩ := hTk2.facts
            have hfr := hTk2.fr
            have HM := Lib.hid hm
            clear hm
            go_wp2
            refine bodyPost_ret (v := .tuple #[.agg #[.int .u8 0, .int .u8 0, .int .u8 0, .int .u16 0, .int .u16 0], .string ⟨#[]⟩, .int .i64 4]) (by simp [results, Tryd.results35, go_sem, a0, a1, a2, a3, a4, a5, s0, s1]) rfl ⟨?_, ?_⟩
            · rw [HT.out]; simp only [h1, h2, h3, h4, OpD.may, HM.out]; rfl
            · repeat (with_reducible first | assumption | apply Fr.alloc | refine Fr.setCell ?_ (by simp) _)
          | true =>
            rintro e w11 ⟨rfl, hb11⟩
            have hTk2 := hTk.keep hb11
            clear a0 a1 a2 a3 a4 a5 a6' z0 z1 z2 z3 z4 z5 s0 s1 hfr hE9 hTk
            obtain ⟨⟨a0, a1, a2, a3, a4, a5, a6⟩, ⟨z0, z1, z2, z3, z4, z5⟩, s0, s1⟩ := hTk2.facts
            have hfr := hTk2.fr
            have HM := Lib.hid hm
            clear hm
            go_wp2
            refine bodyPost_ret (v := .tuple #[.agg #[.int .u8 f.toNat, .int .u8 O, .int .u8 K, .int .u16 A, .int .u16 B], .string ⟨r4.toArray⟩, .int .i64 0]) (by simp [results, Tryd.results35, go_sem, a0, a1, a2, a3, a4, a5, s0, s1]) rfl ⟨?_, ?_⟩
            · rw [HT.out]; simp only [h1, h2, h3, h4, OpD.may, HM.out]; rfl
            · repeat (with_reducible first | assumption | apply Fr.alloc | refine Fr.setCell ?_ (by simp) _)
theorem opTake_c (s : List UInt8) (w : World) (hE : Env w) (hb : s.length ≤ 140737488355328) :
    Calls Tryd.prog 35 #[.string ⟨s.toArray⟩] w fun e w' => e = .returned (.tuple #[(takeOp s).1.val, .string ⟨(takeOp s).2.1.toArray⟩, .int .i64 (takeOp s).2.2]) ∧ Fr w w' := by
  cases s with
  | nil => exact Take_nil w
  | cons f s =>
    have hl := f.toNat_lt
    simp only [List.length_cons] at hb
    by_cases hf : f.toNat = 0 ∨ 12 ≤ f.toNat
    · rw [takeOp, if_pos hf]; exact Take_none f s w hf (by omega)
    · exact Take_some f s w hE (by omega) (by omega)
end Go.Proofs.YthaocbmkkgeomaaDoor

/- Operations as bytes: what is written is read as the operation, what is read has these bytes: plain. -/
namespace Go.Proofs.YthaocbmkkgeomaaDoor
open Go.RowKit

theorem ofBe_take_lt' (r : List UInt8) (n : Nat) : ofBe (r.take n) < 256 ^ n :=
  Nat.lt_of_lt_of_le (ofBe_lt _) (Nat.pow_le_pow_right (by omega) (by simp; omega))
theorem tk_lt {n : Nat} {b : Bool} {r r' : List UInt8} {v : Nat} (h : tk n b r = some (v, r')) : v < 256 ^ n := by
  unfold tk at h
  split at h
  · split at h
    · cases h
    · cases h; exact ofBe_take_lt' r n
  · cases h; exact Nat.pos_pow_of_pos' n
where
  Nat.pos_pow_of_pos' (n : Nat) : 0 < 256 ^ n := Nat.pow_pos (by omega)
/-- An operation's bounds. -/
structure OpD.Ok (x : OpD) : Prop where
  F : x.F < 256
  O : x.O < 256
  K : x.K < 256
  A : x.A < 65536
  B : x.B < 65536
theorem OpD.zero_ok : OpD.zero.Ok := ⟨by decide, by decide, by decide, by decide, by decide⟩
theorem takeOp_ok : ∀ s : List UInt8, (takeOp s).1.Ok
  | [] => OpD.zero_ok
  | f :: s => by
    rw [takeOp]
    split
    · exact OpD.zero_ok
    · cases h1 : tk 1 true s with
      | none => exact OpD.zero_ok
      | some v1 =>
        obtain ⟨O, r1⟩ := v1
        simp only
        cases h2 : tk 1 (hasK f.toNat) r1 with
        | none => exact OpD.zero_ok
        | some v2 =>
          obtain ⟨K, r2⟩ := v2
          simp only
          cases h3 : tk 2 (hasA f.toNat) r2 with
          | none => exact OpD.zero_ok
          | some v3 =>
            obtain ⟨A, r3⟩ := v3
            simp only
            cases h4 : tk 2 (hasB f.toNat) r3 with
            | none => exact OpD.zero_ok
            | some v4 =>
              obtain ⟨B, r4⟩ := v4
              simp only
              split
              · exact ⟨f.toNat_lt, by simpa using tk_lt h1, by simpa using tk_lt h2, by simpa using tk_lt h3, by simpa using tk_lt h4⟩
              · exact OpD.zero_ok
theorem be_one' (n : Nat) : be n 1 = [UInt8.ofNat n] := by simp [be]
theorem be_two' (n : Nat) : be n 2 = [UInt8.ofNat (n / 256), UInt8.ofNat n] := by simp [be]
theorem ofBe_be (k n : Nat) (h : n < 256 ^ k) : ofBe (be n k) = n := by
  induction k generalizing n with
  | zero => simp at h; subst h; rfl
  | succ k ih =>
    rw [be, ofBe_snoc, ih (n / 256) (by rw [Nat.pow_succ] at h; omega)]
    have : (UInt8.ofNat n).toNat = n % 256 := by simp
    omega
/-- An operation's bytes behind its first one. -/
def opTail (x : OpD) : List UInt8 := UInt8.ofNat x.O :: ((if hasK x.F then [UInt8.ofNat x.K] else []) ++ ((if hasA x.F then be x.A 2 else []) ++ (if hasB x.F then be x.B 2 else [])))
theorem opBytes_tail (x : OpD) : opBytes x.F x.O x.K x.A x.B = UInt8.ofNat x.F :: opTail x := by simp [opBytes, opTail, List.append_assoc]
theorem tk_whole (n : Nat) (b : Bool) (v : Nat) (r : List UInt8) (hv : v < 256 ^ n) (hz : b = false → v = 0) : tk n b ((if b then be v n else []) ++ r) = some (v, r) := by
  unfold tk
  cases b with
  | false => simp [hz rfl]
  | true =>
    simp only [if_true]
    rw [if_neg (by simp [be_len]), List.take_left' (be_len v n), List.drop_left' (be_len v n), ofBe_be n v hv]
theorem tk_torn (n : Nat) (b : Bool) (v : Nat) (c d : List UInt8) (hb : (if b then be v n else []) = c ++ d) (hd : d ≠ []) : tk n b c = none := by
  have hd2 : 0 < d.length := List.length_pos_iff.2 hd
  have hl := congrArg List.length hb
  cases b with
  | false => simp at hl; omega
  | true =>
    simp [be_len] at hl
    unfold tk
    simp only [if_true]
    rw [if_pos (by omega)]
theorem pre_split {α : Type} {b1 b2 c d : List α} (hb : b1 ++ b2 = c ++ d) (hd : d ≠ []) : (∃ d1, d1 ≠ [] ∧ b1 = c ++ d1) ∨ ∃ c2, c = b1 ++ c2 ∧ b2 = c2 ++ d := by
  by_cases hl : c.length < b1.length
  · left
    refine ⟨b1.drop c.length, fun e => by have := congrArg List.length e; simp at this; omega, ?_⟩
    have h3 : b1.take c.length = c := by
      have h := congrArg (List.take c.length) hb
      rw [List.take_append_of_le_length (by omega), List.take_left' rfl] at h
      exact h
    conv => lhs; rw [← List.take_append_drop c.length b1]
    rw [h3]
  · right
    refine ⟨c.drop b1.length, ?_, ?_⟩
    · have h3 : b1 = c.take b1.length := by
        have h := congrArg (List.take b1.length) hb
        rw [List.take_left' rfl, List.take_append_of_le_length (by omega)] at h
        exact h
      conv => lhs; rw [← List.take_append_drop b1.length c]
      rw [← h3]
    · have h := congrArg (List.drop b1.length) hb
      rw [List.drop_left' rfl, List.drop_append_of_le_length (by omega)] at h
      exact h
theorem may_facts {x : OpD} (hm : x.may = true) : 1 ≤ x.F ∧ x.F ≤ 11 ∧ x.O < 8 ∧ x.K < 8 ∧ (hasK x.F = false → x.K = 0) ∧ (hasA x.F = false → x.A = 0) ∧ (hasB x.F = false → x.B = 0) := by
  unfold OpD.may mayB at hm
  simp only [Bool.and_eq_true, decide_eq_true_eq, Bool.or_eq_true, beq_iff_eq] at hm
  obtain ⟨⟨⟨⟨⟨⟨h1, h2⟩, h3⟩, h4⟩, h5⟩, h6⟩, h7⟩ := hm
  refine ⟨by omega, by omega, by omega, by omega, fun h => ?_, fun h => ?_, fun h => ?_⟩
  · rcases h5 with h5 | h5
    · rw [h] at h5; cases h5
    · omega
  · rcases h6 with h6 | h6
    · rw [h] at h6; cases h6
    · omega
  · rcases h7 with h7 | h7
    · rw [h] at h7; cases h7
    · omega
theorem takeOp_whole (x : OpD) (ok : x.Ok) (hm : x.may = true) : takeOp (opBytes x.F x.O x.K x.A x.B) = (x, [], 0) := by
  obtain ⟨h1, h2, h3, h4, h5, h6, h7⟩ := may_facts hm
  rw [opBytes_tail, takeOp]
  have hF : (UInt8.ofNat x.F).toNat = x.F := by simp; omega
  rw [hF, if_neg (by omega)]
  have e1 := tk_whole 1 true x.O ((if hasK x.F then [UInt8.ofNat x.K] else []) ++ ((if hasA x.F then be x.A 2 else []) ++ (if hasB x.F then be x.B 2 else []))) (by omega) (fun h => by cases h)
  have e2 := tk_whole 1 (hasK x.F) x.K ((if hasA x.F then be x.A 2 else []) ++ (if hasB x.F then be x.B 2 else [])) (by omega) h5
  have e3 := tk_whole 2 (hasA x.F) x.A (if hasB x.F then be x.B 2 else []) ok.A h6
  have e4 := tk_whole 2 (hasB x.F) x.B [] ok.B h7
  rw [be_one'] at e1 e2
  simp only [if_true, List.cons_append, List.nil_append, List.append_nil] at e1 e4
  unfold opTail
  rw [e1]
  simp only [e2, e3, e4]
  rw [if_pos hm]
theorem takeOp_pre (x : OpD) (ok : x.Ok) (hm : x.may = true) (c d : List UInt8) (hb : opBytes x.F x.O x.K x.A x.B = c ++ d) (hd : d ≠ []) : takeOp c = (.zero, [], 5) := by
  obtain ⟨h1, h2, h3, h4, h5, h6, h7⟩ := may_facts hm
  rw [opBytes_tail] at hb
  cases c with
  | nil => rfl
  | cons f c =>
    simp only [List.cons_append, List.cons.injEq] at hb
    obtain ⟨rfl, hb⟩ := hb
    rw [takeOp]
    have hF : (UInt8.ofNat x.F).toNat = x.F := by simp; omega
    rw [hF, if_neg (by omega)]
    unfold opTail at hb
    rw [show UInt8.ofNat x.O :: ((if hasK x.F then [UInt8.ofNat x.K] else []) ++ ((if hasA x.F then be x.A 2 else []) ++ (if hasB x.F then be x.B 2 else []))) = (if true then be x.O 1 else []) ++ ((if hasK x.F then be x.K 1 else []) ++ ((if hasA x.F then be x.A 2 else []) ++ ((if hasB x.F then be x.B 2 else []) ++ []))) by simp [be_one']] at hb
    rcases pre_split hb hd with ⟨d1, hd1, hb1⟩ | ⟨c2, hc2, hb2⟩
    · rw [tk_torn 1 true x.O c d1 hb1 hd1]
    · subst hc2
      rw [tk_whole 1 true x.O c2 (by omega) (fun h => by cases h)]
      simp only
      rcases pre_split hb2 hd with ⟨d1, hd1, hb1⟩ | ⟨c3, hc3, hb3⟩
      · rw [tk_torn 1 (hasK x.F) x.K c2 d1 hb1 hd1]
      · subst hc3
        rw [tk_whole 1 (hasK x.F) x.K c3 (by omega) h5]
        simp only
        rcases pre_split hb3 hd with ⟨d1, hd1, hb1⟩ | ⟨c4, hc4, hb4⟩
        · rw [tk_torn 2 (hasA x.F) x.A c3 d1 hb1 hd1]
        · subst hc4
          rw [tk_whole 2 (hasA x.F) x.A c4 ok.A h6]
          simp only
          rcases pre_split hb4 hd with ⟨d1, hd1, hb1⟩ | ⟨c5, hc5, hb5⟩
          · rw [tk_torn 2 (hasB x.F) x.B c4 d1 hb1 hd1]
          · have := congrArg List.length hb5
            have h2 : 0 < d.length := List.length_pos_iff.2 hd
            simp at this
            omega
theorem takeOp_more (x : OpD) (ok : x.Ok) (hm : x.may = true) (s : List UInt8) : takeOp (opBytes x.F x.O x.K x.A x.B ++ s) = (x, s, 0) := by
  obtain ⟨h1, h2, h3, h4, h5, h6, h7⟩ := may_facts hm
  rw [opBytes_tail, List.cons_append, takeOp]
  have hF : (UInt8.ofNat x.F).toNat = x.F := by simp; omega
  rw [hF, if_neg (by omega)]
  have e1 := tk_whole 1 true x.O ((if hasK x.F then [UInt8.ofNat x.K] else []) ++ ((if hasA x.F then be x.A 2 else []) ++ ((if hasB x.F then be x.B 2 else []) ++ s))) (by omega) (fun h => by cases h)
  have e2 := tk_whole 1 (hasK x.F) x.K ((if hasA x.F then be x.A 2 else []) ++ ((if hasB x.F then be x.B 2 else []) ++ s)) (by omega) h5
  have e3 := tk_whole 2 (hasA x.F) x.A ((if hasB x.F then be x.B 2 else []) ++ s) ok.A h6
  have e4 := tk_whole 2 (hasB x.F) x.B s ok.B h7
  rw [be_one'] at e1 e2
  simp only [if_true, List.cons_append, List.nil_append] at e1
  unfold opTail
  simp only [List.cons_append, List.append_assoc]
  rw [e1]
  simp only [e2, e3, e4]
  rw [if_pos hm]
theorem be_ofBe (l : List UInt8) (n : Nat) (h : l.length = n) : be (ofBe l) n = l := by
  induction n generalizing l with
  | zero => rw [List.eq_nil_of_length_eq_zero h]; rfl
  | succ n ih =>
    have hne : l ≠ [] := fun e => by rw [e] at h; simp at h
    rw [← List.dropLast_concat_getLast hne, be, ofBe_snoc]
    have hl : (l.getLast hne).toNat < 256 := UInt8.toNat_lt _
    have h1 : (ofBe l.dropLast * 256 + (l.getLast hne).toNat) / 256 = ofBe l.dropLast := by omega
    have h2 : UInt8.ofNat (ofBe l.dropLast * 256 + (l.getLast hne).toNat) = l.getLast hne := by
      apply UInt8.toNat_inj.1
      simp
    rw [h1, h2, ih _ (by simp [h])]
theorem tk_back {n : Nat} {b : Bool} {r r' : List UInt8} {v : Nat} (h : tk n b r = some (v, r')) : r = (if b then be v n else []) ++ r' ∧ (b = false → v = 0) := by
  unfold tk at h
  cases b with
  | false => simp at h; obtain ⟨rfl, rfl⟩ := h; simp
  | true =>
    simp only [if_true] at h ⊢
    split at h
    · cases h
    · rename_i h1
      cases h
      refine ⟨?_, fun h => by cases h⟩
      rw [be_ofBe _ n (by simp; omega), List.take_append_drop]
/-- What is read of bytes has these bytes. -/
theorem takeOp_back {s : List UInt8} {x : OpD} {r : List UInt8} (h : takeOp s = (x, r, 0)) : x.may = true ∧ s = opBytes x.F x.O x.K x.A x.B ++ r := by
  cases s with
  | nil => cases h
  | cons f s =>
    rw [takeOp] at h
    split at h
    · cases h
    · split at h
      · cases h
      · rename_i O r1 h1
        split at h
        · cases h
        · rename_i K r2 h2
          split at h
          · cases h
          · rename_i A r3 h3
            split at h
            · cases h
            · rename_i B r4 h4
              split at h
              · rename_i hm
                cases h
                refine ⟨hm, ?_⟩
                obtain ⟨e1, _⟩ := tk_back h1
                obtain ⟨e2, _⟩ := tk_back h2
                obtain ⟨e3, _⟩ := tk_back h3
                obtain ⟨e4, _⟩ := tk_back h4
                rw [opBytes_tail, List.cons_append, e1, e2, e3, e4]
                have hF : UInt8.ofNat f.toNat = f := by simp
                simp [opTail, hF, be_one']
              · cases h
/-- What is none: nothing is told. -/
theorem takeOp_none {s : List UInt8} {x : OpD} {r : List UInt8} {e : Nat} (h : takeOp s = (x, r, e)) (he : e ≠ 0) : x = .zero ∧ r = [] := by
  cases s with
  | nil => cases h; exact ⟨rfl, rfl⟩
  | cons f s =>
    rw [takeOp] at h
    repeat (first | (split at h) | (cases h; first | exact ⟨rfl, rfl⟩ | exact absurd rfl he))
end Go.Proofs.YthaocbmkkgeomaaDoor

/- Operations as words: what is written is parsed as the operation, what is parsed has these words: plain. -/
namespace Go.Proofs.YthaocbmkkgeomaaDoor
open Go.RowKit

def wordsOf (x : OpD) : List (List UInt8) := Lib.decDigits x.O :: kName x.F :: ((if hasK x.F then [Lib.decDigits x.K] else []) ++ ((if hasA x.F then [Lib.decDigits x.A] else []) ++ (if hasB x.F then [Lib.decDigits x.B] else [])))
def OpD.words (x : OpD) : List (List UInt8) := if x.may then wordsOf x else []
/-- The last of the first k operations with that name; 0: none. -/
def lastF (w : List UInt8) : Nat → Nat
  | 0 => 0
  | k + 1 => if 0 < k ∧ kName k = w then k else lastF w k
/-- A number out of the next word, if it is needed. -/
def wordN (need : Bool) (m : Nat) : List (List UInt8) → Nat × List (List UInt8)
  | [] => (0, [])
  | s :: r => if need then (num16 s % m, r) else (0, s :: r)
def candOp (f : Nat) (o : List UInt8) (r : List (List UInt8)) : OpD :=
  ⟨f, num16 o % 256, (wordN (hasK f) 256 r).1, (wordN (hasA f) 65536 (wordN (hasK f) 256 r).2).1, (wordN (hasB f) 65536 (wordN (hasA f) 65536 (wordN (hasK f) 256 r).2).2).1⟩
/-- The operation that words are. -/
def parseOp : List (List UInt8) → OpD × Nat
  | o :: n :: r => if lastF n 12 = 0 then (.zero, 4) else if (candOp (lastF n 12) o r).words = o :: n :: r then (candOp (lastF n 12) o r, 0) else (.zero, 4)
  | _ => (.zero, 4)
theorem parseOp_cons (o n : List UInt8) (r : List (List UInt8)) : parseOp (o :: n :: r) = if lastF n 12 = 0 then (.zero, 4) else if (candOp (lastF n 12) o r).words = o :: n :: r then (candOp (lastF n 12) o r, 0) else (.zero, 4) := rfl
theorem lastF_le (w : List UInt8) : ∀ k, lastF w k ≤ k - 1
  | 0 => Nat.le_refl _
  | k + 1 => by
    have := lastF_le w k
    rw [lastF]
    split <;> omega
theorem lastF_is (w : List UInt8) : ∀ k, lastF w k = 0 ∨ kName (lastF w k) = w
  | 0 => .inl rfl
  | k + 1 => by
    rw [lastF]
    split
    · rename_i h; exact .inr h.2
    · exact lastF_is w k
theorem lastF_name (f : Nat) (h1 : 1 ≤ f) (h2 : f ≤ 11) : lastF (kName f) 12 = f := by
  rcases (show f = 1 ∨ f = 2 ∨ f = 3 ∨ f = 4 ∨ f = 5 ∨ f = 6 ∨ f = 7 ∨ f = 8 ∨ f = 9 ∨ f = 10 ∨ f = 11 by omega) with rfl | rfl | rfl | rfl | rfl | rfl | rfl | rfl | rfl | rfl | rfl <;> decide
theorem wordN_yes (need : Bool) (m v : Nat) (r : List (List UInt8)) (hv : v < m) (hm : m ≤ 65536) (hz : need = false → v = 0) : wordN need m ((if need then [Lib.decDigits v] else []) ++ r) = (v, r) := by
  cases need with
  | false =>
    rw [hz rfl]
    cases r <;> simp [wordN]
  | true =>
    simp only [if_true, List.cons_append, List.nil_append, wordN]
    rw [num16_dec v (by omega), Nat.mod_eq_of_lt hv]
theorem candOp_words (x : OpD) (ok : x.Ok) (hm : x.may = true) : candOp x.F (Lib.decDigits x.O) ((if hasK x.F then [Lib.decDigits x.K] else []) ++ ((if hasA x.F then [Lib.decDigits x.A] else []) ++ (if hasB x.F then [Lib.decDigits x.B] else []))) = x := by
  obtain ⟨h1, h2, h3, h4, h5, h6, h7⟩ := may_facts hm
  have e1 := wordN_yes (hasK x.F) 256 x.K ((if hasA x.F then [Lib.decDigits x.A] else []) ++ (if hasB x.F then [Lib.decDigits x.B] else [])) ok.K (by omega) h5
  have e2 := wordN_yes (hasA x.F) 65536 x.A (if hasB x.F then [Lib.decDigits x.B] else []) ok.A (by omega) h6
  have e3 := wordN_yes (hasB x.F) 65536 x.B [] ok.B (by omega) h7
  rw [List.append_nil] at e3
  unfold candOp
  rw [e1]
  simp only
  rw [e2]
  simp only
  rw [e3]
  simp only
  rw [num16_dec x.O (by omega), Nat.mod_eq_of_lt ok.O]
/-- An operation's words are parsed as the operation. -/
theorem parseOp_words (x : OpD) (ok : x.Ok) (hm : x.may = true) : parseOp (wordsOf x) = (x, 0) := by
  obtain ⟨h1, h2, h3, h4, h5, h6, h7⟩ := may_facts hm
  unfold wordsOf
  rw [parseOp_cons, lastF_name x.F h1 h2, if_neg (by omega), candOp_words x ok hm, if_pos]
  unfold OpD.words
  rw [if_pos hm]
  rfl
/-- What is parsed has these words. -/
theorem parseOp_back {l : List (List UInt8)} {x : OpD} (h : parseOp l = (x, 0)) : x.may = true ∧ wordsOf x = l ∧ 2 ≤ l.length := by
  unfold parseOp at h
  split at h
  · split at h
    · cases h
    · split at h
      · rename_i h2
        cases h
        unfold OpD.words at h2
        split at h2
        · rename_i hm
          exact ⟨hm, h2, by simp⟩
        · cases h2
      · cases h
  · cases h
theorem parseOp_none {l : List (List UInt8)} {x : OpD} {e : Nat} (h : parseOp l = (x, e)) (he : e ≠ 0) : x = .zero ∧ e = 4 := by
  unfold parseOp at h
  split at h
  · split at h
    · cases h; exact ⟨rfl, rfl⟩
    · split at h
      · cases h; exact absurd rfl he
      · cases h; exact ⟨rfl, rfl⟩
  · cases h; exact ⟨rfl, rfl⟩
theorem wordN_lt (need : Bool) (m : Nat) (hm : 0 < m) (r : List (List UInt8)) : (wordN need m r).1 < m := by
  unfold wordN
  split
  · exact hm
  · split
    · exact Nat.mod_lt _ hm
    · exact hm
theorem candOp_ok (f : Nat) (o : List UInt8) (r : List (List UInt8)) (hf : f < 256) : (candOp f o r).Ok := ⟨hf, Nat.mod_lt _ (by omega), wordN_lt _ _ (by omega) _, wordN_lt _ _ (by omega) _, wordN_lt _ _ (by omega) _⟩
theorem parseOp_ok (l : List (List UInt8)) : (parseOp l).1.Ok := by
  unfold parseOp
  split
  · split
    · exact OpD.zero_ok
    · split
      · exact candOp_ok _ _ _ (by have := lastF_le ‹_› 12; omega)
      · exact OpD.zero_ok
  · exact OpD.zero_ok
/-- Words are an operation just if they are one's words. -/
theorem parseOp_iff (l : List (List UInt8)) (x : OpD) : parseOp l = (x, 0) ↔ x.Ok ∧ x.may = true ∧ wordsOf x = l := by
  constructor
  · intro h
    obtain ⟨h1, h2, _⟩ := parseOp_back h
    have := parseOp_ok l
    rw [h] at this
    exact ⟨this, h1, h2⟩
  · rintro ⟨ok, hm, rfl⟩
    exact parseOp_words x ok hm
end Go.Proofs.YthaocbmkkgeomaaDoor

/- Operations as words, the document's way: the same: plain. -/
namespace Go.Proofs.YthaocbmkkgeomaaDoor
open Go.RowKit

/-- A word's number; below 0: it is none. -/
def numI (s : List UInt8) : Int := match numW s with | some v => (v : Int) | none => -1
theorem numI_nonneg {s : List UInt8} (h : 0 ≤ numI s) : ∃ v : Nat, numI s = v ∧ v < 65536 ∧ s = Lib.decDigits v := by
  unfold numI at h ⊢
  split at h
  · rename_i v hv
    obtain ⟨h1, h2⟩ := numW_some.1 hv
    exact ⟨v, rfl, h1, h2⟩
  · omega
theorem numI_dec (v : Nat) (h : v < 65536) : numI (Lib.decDigits v) = v := by
  unfold numI
  rw [numW_some.2 ⟨h, rfl⟩]
theorem numI_lt (s : List UInt8) : -1 ≤ numI s ∧ numI s < 65536 := by
  unfold numI
  split
  · rename_i v hv
    have := (numW_some.1 hv).1
    omega
  · omega
def b2i (b : Bool) : Nat := if b then 1 else 0
/-- Is a number none, or too great where it stands? -/
def badN (k : Bool) (i : Nat) (n : Int) : Bool := decide (n < 0) || (decide (i = 0) && decide (7 < n)) || (decide (i = 1) && (k && decide (7 < n)))
def anyBad (k : Bool) (ns : List Int) : Bool := (List.range ns.length).any fun i => badN k i (ns.getD i 0)
/-- The operation of an F and these numbers. -/
def refOp (f : Nat) (k a b : Bool) (ns : List Int) : OpD :=
  ⟨f, (ns.getD 0 0).toNat, if k then (ns.getD 1 0).toNat else 0, if a then (ns.getD (1 + b2i k) 0).toNat else 0, if b then (ns.getD (1 + b2i k + b2i a) 0).toNat else 0⟩
theorem anyBad_false {k : Bool} {ns : List Int} (h : anyBad k ns = false) (i : Nat) (hi : i < ns.length) : 0 ≤ ns.getD i 0 ∧ (i = 0 → ns.getD i 0 ≤ 7) ∧ (i = 1 → k = true → ns.getD i 0 ≤ 7) := by
  unfold anyBad at h
  have := List.any_eq_false.1 h i (List.mem_range.2 hi)
  unfold badN at this
  simp only [Bool.or_eq_true, Bool.and_eq_true, decide_eq_true_eq, not_or, not_and, Int.not_lt] at this
  obtain ⟨⟨h1, h2⟩, h3⟩ := this
  exact ⟨h1, h2, h3⟩
theorem parts3 {α : Type} (k a b : Bool) (r : List α) (h : r.length = b2i k + b2i a + b2i b) (d : α) : ∃ s1 s2 s3, r = (if k then [s1] else []) ++ ((if a then [s2] else []) ++ (if b then [s3] else [])) := by
  cases k <;> cases a <;> cases b <;> simp only [b2i] at h
  · exact ⟨d, d, d, by simpa using List.eq_nil_of_length_eq_zero h⟩
  · match r, h with
    | [s], _ => exact ⟨d, d, s, rfl⟩
  · match r, h with
    | [s], _ => exact ⟨d, s, d, rfl⟩
  · match r, h with
    | [s, t], _ => exact ⟨d, s, t, rfl⟩
  · match r, h with
    | [s], _ => exact ⟨s, d, d, rfl⟩
  · match r, h with
    | [s, t], _ => exact ⟨s, d, t, rfl⟩
  · match r, h with
    | [s, t], _ => exact ⟨s, t, d, rfl⟩
  · match r, h with
    | [s, t, u], _ => exact ⟨s, t, u, rfl⟩
theorem kName_inj {f g : Nat} (h1 : 1 ≤ f) (h2 : f ≤ 11) (h3 : 1 ≤ g) (h4 : g ≤ 11) (h : kName f = kName g) : f = g := by
  have := lastF_name f h1 h2
  rw [h, lastF_name g h3 h4] at this
  exact this.symm
theorem parse_ref (f : Nat) (h1 : 1 ≤ f) (h2 : f ≤ 11) (o : List UInt8) (r : List (List UInt8)) :
    parseOp (o :: kName f :: r) = if ((o :: r).map numI).length = 1 + b2i (hasK f) + b2i (hasA f) + b2i (hasB f) ∧ anyBad (hasK f) ((o :: r).map numI) = false then (refOp f (hasK f) (hasA f) (hasB f) ((o :: r).map numI), 0) else (.zero, 4) := by
  split
  · rename_i h
    obtain ⟨hl, hb⟩ := h
    have hmay : ∀ (x : OpD), x.F = f → x.O < 8 → x.K < 8 → (hasK f = false → x.K = 0) → (hasA f = false → x.A = 0) → (hasB f = false → x.B = 0) → x.may = true := by
      intro x hF hO hK e1 e2 e3
      unfold OpD.may mayB
      rw [hF]
      simp only [Bool.and_eq_true, decide_eq_true_eq, Bool.or_eq_true, beq_iff_eq]
      refine ⟨⟨⟨⟨⟨⟨by omega, by omega⟩, by omega⟩, by omega⟩, ?_⟩, ?_⟩, ?_⟩
      · cases h : hasK f
        · right; have := e1 h; omega
        · exact .inl rfl
      · cases h : hasA f
        · right; have := e2 h; omega
        · exact .inl rfl
      · cases h : hasB f
        · right; have := e3 h; omega
        · exact .inl rfl
    refine (parseOp_iff _ _).2 ?_
    have hlen : r.length = b2i (hasK f) + b2i (hasA f) + b2i (hasB f) := by simp at hl; omega
    obtain ⟨s1, s2, s3, rfl⟩ := parts3 (hasK f) (hasA f) (hasB f) r hlen []
    have g := fun i hi => anyBad_false hb i hi
    have g0 := g 0 (by simp)
    simp only [List.map_cons, List.getD_cons_zero] at g0
    obtain ⟨v0, e0, l0, rfl⟩ := numI_nonneg g0.1
    have l0' : v0 < 8 := by have := g0.2.1 trivial; omega
    have e0' := numI_dec v0 l0
    cases hk : hasK f <;> cases ha : hasA f <;> cases hbb : hasB f <;> simp only [hk, ha, hbb] at g hmay hlen ⊢
    all_goals simp only [if_true, if_false, Bool.false_eq_true, List.nil_append, List.cons_append, List.map_cons, List.map_nil, List.length_cons, List.length_nil] at g ⊢
    · refine ⟨⟨by show f < 256; omega, by simp [refOp, e0']; omega, by simp [refOp], by simp [refOp], by simp [refOp]⟩, hmay _ rfl (by simp [refOp, e0']; omega) (by simp [refOp]) (fun _ => rfl) (fun _ => rfl) (fun _ => rfl), ?_⟩
      simp [wordsOf, refOp, hk, ha, hbb, e0']
    · have g1 := g 1 (by simp)
      simp only [List.getD_cons_succ, List.getD_cons_zero] at g1
      obtain ⟨v1, e1, l1, rfl⟩ := numI_nonneg g1.1
      have e1' := numI_dec v1 l1
      refine ⟨⟨by show f < 256; omega, by simp [refOp, e0']; omega, by simp [refOp], by simp [refOp], by simp [refOp, b2i, e1']; omega⟩, hmay _ rfl (by simp [refOp, e0']; omega) (by simp [refOp]) (fun _ => rfl) (fun _ => rfl) (fun h => by cases h), ?_⟩
      simp [wordsOf, refOp, hk, ha, hbb, e0', e1', b2i]
    · have g1 := g 1 (by simp)
      simp only [List.getD_cons_succ, List.getD_cons_zero] at g1
      obtain ⟨v1, e1, l1, rfl⟩ := numI_nonneg g1.1
      have e1' := numI_dec v1 l1
      refine ⟨⟨by show f < 256; omega, by simp [refOp, e0']; omega, by simp [refOp], by simp [refOp, b2i, e1']; omega, by simp [refOp]⟩, hmay _ rfl (by simp [refOp, e0']; omega) (by simp [refOp]) (fun _ => rfl) (fun h => by cases h) (fun _ => rfl), ?_⟩
      simp [wordsOf, refOp, hk, ha, hbb, e0', e1', b2i]
    · have g1 := g 1 (by simp)
      have g2 := g 2 (by simp)
      simp only [List.getD_cons_succ, List.getD_cons_zero] at g1 g2
      obtain ⟨v1, e1, l1, rfl⟩ := numI_nonneg g1.1
      obtain ⟨v2, e2, l2, rfl⟩ := numI_nonneg g2.1
      have e1' := numI_dec v1 l1
      have e2' := numI_dec v2 l2
      refine ⟨⟨by show f < 256; omega, by simp [refOp, e0']; omega, by simp [refOp], by simp [refOp, b2i, e1']; omega, by simp [refOp, b2i, e2']; omega⟩, hmay _ rfl (by simp [refOp, e0']; omega) (by simp [refOp]) (fun _ => rfl) (fun h => by cases h) (fun h => by cases h), ?_⟩
      simp [wordsOf, refOp, hk, ha, hbb, e0', e1', e2', b2i]
    all_goals
      have g1 := g 1 (by simp)
      simp only [List.getD_cons_succ, List.getD_cons_zero] at g1
      obtain ⟨v1, e1, l1, rfl⟩ := numI_nonneg g1.1
      have e1' := numI_dec v1 l1
      have l1' : v1 < 8 := by have := g1.2.2 trivial trivial; omega
    · refine ⟨⟨by show f < 256; omega, by simp [refOp, e0']; omega, by simp [refOp, e1']; omega, by simp [refOp], by simp [refOp]⟩, hmay _ rfl (by simp [refOp, e0']; omega) (by simp [refOp, e1']; omega) (fun h => by cases h) (fun _ => rfl) (fun _ => rfl), ?_⟩
      simp [wordsOf, refOp, hk, ha, hbb, e0', e1', b2i]
    · have g2 := g 2 (by simp)
      simp only [List.getD_cons_succ, List.getD_cons_zero] at g2
      obtain ⟨v2, e2, l2, rfl⟩ := numI_nonneg g2.1
      have e2' := numI_dec v2 l2
      refine ⟨⟨by show f < 256; omega, by simp [refOp, e0']; omega, by simp [refOp, e1']; omega, by simp [refOp], by simp [refOp, b2i, e2']; omega⟩, hmay _ rfl (by simp [refOp, e0']; omega) (by simp [refOp, e1']; omega) (fun h => by cases h) (fun _ => rfl) (fun h => by cases h), ?_⟩
      simp [wordsOf, refOp, hk, ha, hbb, e0', e1', e2', b2i]
    · have g2 := g 2 (by simp)
      simp only [List.getD_cons_succ, List.getD_cons_zero] at g2
      obtain ⟨v2, e2, l2, rfl⟩ := numI_nonneg g2.1
      have e2' := numI_dec v2 l2
      refine ⟨⟨by show f < 256; omega, by simp [refOp, e0']; omega, by simp [refOp, e1']; omega, by simp [refOp, b2i, e2']; omega, by simp [refOp]⟩, hmay _ rfl (by simp [refOp, e0']; omega) (by simp [refOp, e1']; omega) (fun h => by cases h) (fun h => by cases h) (fun _ => rfl), ?_⟩
      simp [wordsOf, refOp, hk, ha, hbb, e0', e1', e2', b2i]
    · have g2 := g 2 (by simp)
      have g3 := g 3 (by simp)
      simp only [List.getD_cons_succ, List.getD_cons_zero] at g2 g3
      obtain ⟨v2, e2, l2, rfl⟩ := numI_nonneg g2.1
      obtain ⟨v3, e3, l3, rfl⟩ := numI_nonneg g3.1
      have e2' := numI_dec v2 l2
      have e3' := numI_dec v3 l3
      refine ⟨⟨by show f < 256; omega, by simp [refOp, e0']; omega, by simp [refOp, e1']; omega, by simp [refOp, b2i, e2']; omega, by simp [refOp, b2i, e3']; omega⟩, hmay _ rfl (by simp [refOp, e0']; omega) (by simp [refOp, e1']; omega) (fun h => by cases h) (fun h => by cases h) (fun h => by cases h), ?_⟩
      simp [wordsOf, refOp, hk, ha, hbb, e0', e1', e2', e3', b2i]
  · rename_i h
    have hn : parseOp (o :: kName f :: r) = ((parseOp (o :: kName f :: r)).1, (parseOp (o :: kName f :: r)).2) := rfl
    by_cases he : (parseOp (o :: kName f :: r)).2 = 0
    · exfalso
      apply h
      have h3 : parseOp (o :: kName f :: r) = ((parseOp (o :: kName f :: r)).1, 0) := by rw [← he]
      generalize (parseOp (o :: kName f :: r)).1 = x at h3
      obtain ⟨ok, hm, hw⟩ := (parseOp_iff _ _).1 h3
      obtain ⟨f1, f2, f3, f4, f5, f6, f7⟩ := may_facts hm
      unfold wordsOf at hw
      simp only [List.cons.injEq] at hw
      obtain ⟨ho, hnm, hr⟩ := hw
      have hF : x.F = f := kName_inj f1 f2 h1 h2 hnm
      rw [hF] at hr f5 f6 f7
      subst ho
      rw [← hr]
      have eO := numI_dec x.O (by omega)
      have eK := numI_dec x.K (by omega)
      have eA := numI_dec x.A ok.A
      have eB := numI_dec x.B ok.B
      cases hk : hasK f <;> cases ha : hasA f <;> cases hbb : hasB f <;> simp [b2i, anyBad, badN, eO, eK, eA, eB, List.range_succ] <;> omega
    · have := parseOp_none hn he
      rw [hn, this.1, this.2]
end Go.Proofs.YthaocbmkkgeomaaDoor
