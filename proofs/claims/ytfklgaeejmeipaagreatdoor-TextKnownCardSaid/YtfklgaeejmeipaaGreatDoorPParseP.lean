/- op.Parse: the operation that words are. No condition but the tables' content and that no word is endless. -/
import Derived.Test.YtfklgaeejmeipaaGreatDoorPWord
import Derived.Test.YtfklgaeejmeipaaGreatDoorPWordsP
import Derived.Deep.QuietTactic
import Derived.BigQuiet
set_option linter.all false
set_option linter.unusedVariables false
set_option linter.unusedSimpArgs false
set_option linter.unnecessarySimpa false
/- op.Parse: the operation that words are. No condition but the tables' content and that no word is endless. -/
namespace Go.Proofs.YtfklgaeejmeipaaGreatDoor
open Go.RowKit

theorem BoxAt.putAt {w : World} {b : Nat} {c : Array Value} {t : TypeId} (h : BoxAt w b c t) (j : Nat) (u : Value) : BoxAt (w.setCell ⟨b, j, none⟩ u) b (c.setIfInBounds j u) t := by
  unfold BoxAt at h ⊢
  unfold World.setCell
  have hb : b < w.heap.size := by
    rcases Nat.lt_or_ge b w.heap.size with g | g
    · exact g
    · rw [Array.getElem?_eq_none g] at h; cases h
  rw [Array.getElem?_modify]
  simp [h]
/-- Where op.Parse stands: the result's box, the operation's (X), the kind's (Kb), the first words' (Q1), the rest's (Q2). -/
structure PsAt (w : World) (X Kb Q1 Q2 : Nat) (c : Array Value) (l1 l2 : List (List UInt8)) (v1 v2 : Value) (a b : Value) (N : Int) (wi : World) : Prop where
  fr : Fr w wi
  res : BoxAt wi w.heap.size #[.int .u8 0, .int .u8 0, .int .u8 0, .int .u16 0, .int .u16 0] 24
  op : BoxAt wi X c 24
  kb : BoxAt wi Kb #[a, b, .int .u8 N] 120
  q1 : BoxAt wi Q1 #[v1] 59
  q2 : BoxAt wi Q2 #[v2] 59
  r1 : RdS w v1 l1
  r2 : RdS w v2 l2
  o1 : w.heap.size < X
  o2 : X < Kb
  o3 : Kb < Q1
  o4 : Kb < Q2
  o5 : Q1 ≠ Q2
theorem PsAt.word1 {w wi w' : World} {X Kb Q1 Q2 j : Nat} {c : Array Value} {l1 l2 ls : List (List UInt8)} {v1 v2 a b u : Value} {N : Int} (h : PsAt w X Kb Q1 Q2 c l1 l2 v1 v2 a b N wi) (k : Worded w wi Q1 X j u ls w') :
    ∃ v, PsAt w X Kb Q1 Q2 (c.setIfInBounds j u) ls l2 v v2 a b N w' := by
  obtain ⟨W, v, hf, hr, rfl⟩ := k
  have h1 := h.o1; have h2 := h.o2; have h3 := h.o3; have h4 := h.o4; have h5 := h.o5
  exact ⟨v, { fr := ((((h.fr.trans hf).setCell (by show w.heap.size ≤ X; omega) _).setCell (by show w.heap.size ≤ Q1; omega) _).drew)
              res := (((h.res.fr hf).set (by show X ≠ w.heap.size; omega) _).set (by show Q1 ≠ w.heap.size; omega) _).drew
              op := ((((h.op.fr hf).putAt j u).set (by show Q1 ≠ X; omega) _)).drew
              kb := (((h.kb.fr hf).set (by show X ≠ Kb; omega) _).set (by show Q1 ≠ Kb; omega) _).drew
              q1 := (((h.q1.fr hf).set (by show X ≠ Q1; omega) _).putAt 0 v).drew
              q2 := (((h.q2.fr hf).set (by show X ≠ Q2; omega) _).set (by show Q1 ≠ Q2; omega) _).drew
              r1 := hr, r2 := h.r2, o1 := h1, o2 := h2, o3 := h3, o4 := h4, o5 := h5 }⟩
theorem PsAt.word2 {w wi w' : World} {X Kb Q1 Q2 j : Nat} {c : Array Value} {l1 l2 ls : List (List UInt8)} {v1 v2 a b u : Value} {N : Int} (h : PsAt w X Kb Q1 Q2 c l1 l2 v1 v2 a b N wi) (k : Worded w wi Q2 X j u ls w') :
    ∃ v, PsAt w X Kb Q1 Q2 (c.setIfInBounds j u) l1 ls v1 v a b N w' := by
  obtain ⟨W, v, hf, hr, rfl⟩ := k
  have h1 := h.o1; have h2 := h.o2; have h3 := h.o3; have h4 := h.o4; have h5 := h.o5
  exact ⟨v, { fr := ((((h.fr.trans hf).setCell (by show w.heap.size ≤ X; omega) _).setCell (by show w.heap.size ≤ Q2; omega) _).drew)
              res := (((h.res.fr hf).set (by show X ≠ w.heap.size; omega) _).set (by show Q2 ≠ w.heap.size; omega) _).drew
              op := ((((h.op.fr hf).putAt j u).set (by show Q2 ≠ X; omega) _)).drew
              kb := (((h.kb.fr hf).set (by show X ≠ Kb; omega) _).set (by show Q2 ≠ Kb; omega) _).drew
              q1 := (((h.q1.fr hf).set (by show X ≠ Q1; omega) _).set (by show Q2 ≠ Q1; omega) _).drew
              q2 := (((h.q2.fr hf).set (by show X ≠ Q2; omega) _).putAt 0 v).drew
              r1 := h.r1, r2 := hr, o1 := h1, o2 := h2, o3 := h3, o4 := h4, o5 := h5 }⟩
/-- What op.word leaves. -/
def PsP (w : World) (X Kb Q1 Q2 : Nat) (c : Array Value) (l1 l2 : List (List UInt8)) (a b : Value) (N : Int) (e : Ending) (w' : World) : Prop := e = .returned (.tuple #[]) ∧ ∃ v1 v2, PsAt w X Kb Q1 Q2 c l1 l2 v1 v2 a b N w'
theorem set_same {c : Array Value} {j : Nat} {u : Value} (h : c[j]? = some u) : c.setIfInBounds j u = c := by
  apply Array.ext_getElem?
  intro i
  rw [Array.getElem?_setIfInBounds]
  split
  · rename_i hi
    subst hi
    split
    · exact h.symm
    · rename_i hs
      rw [Array.getElem?_eq_none (by omega)] at h
      cases h
  · rfl
theorem psFirst_c {w wi : World} {X Kb Q1 Q2 : Nat} {c : Array Value} {s : List UInt8} {l2 : List (List UInt8)} {v1 v2 a b u : Value} {N : Int} (hE : Env w) (hs : s.length < 1000000) (h : PsAt w X Kb Q1 Q2 c [s] l2 v1 v2 a b N wi) (hc : c[1]? = some u) :
    Calls Tryz.prog 131 #[.pointer (some ⟨Q1, 0, none⟩), .pointer (some ⟨X, 1, none⟩), .bool true] wi (PsP w X Kb Q1 Q2 (c.setIfInBounds 1 (.int .u8 ((num16 s % 256 : Nat) : Int))) [] l2 a b N) := by
  have hr := h.r1
  obtain ⟨bb, off, cap, rfl, hl, hm, hb, hcell⟩ := hr.at (k := 0) (by simp)
  refine (word8_yes Q1 X 1 bb off cap s [] u w wi (hE.keep h.fr) hs hr (h.q1.at 0 rfl) (h.q1.free 0) (h.op.at 1 hc) (h.op.free 1) (by have := h.o2; have := h.o3; omega) (h.fr.keep (hcell 0 s rfl)) hl hm).mono ?_
  rintro e w' ⟨rfl, hw⟩
  obtain ⟨v, hp⟩ := h.word1 hw
  exact ⟨rfl, _, _, hp⟩
theorem psRest8_c {w wi : World} {X Kb Q1 Q2 j : Nat} {c : Array Value} {l1 l2 : List (List UInt8)} {v1 v2 a b : Value} {N : Int} (need : Bool) (hE : Env w) (hs : ∀ s ∈ l2, s.length < 1000000) (h : PsAt w X Kb Q1 Q2 c l1 l2 v1 v2 a b N wi) (hc : c[j]? = some (.int .u8 0)) :
    Calls Tryz.prog 131 #[.pointer (some ⟨Q2, 0, none⟩), .pointer (some ⟨X, j, none⟩), .bool need] wi (PsP w X Kb Q1 Q2 (c.setIfInBounds j (.int .u8 (((wordN need 256 l2).1 : Nat) : Int))) l1 (wordN need 256 l2).2 a b N) := by
  have hr := h.r2
  by_cases hn : need = false ∨ l2 = []
  · refine (word8_no Q2 X j v2 l2 need wi (h.q2.at 0 rfl) (hr.keep h.fr) hn).mono ?_
    rintro e w' ⟨rfl, rfl⟩
    have hw : wordN need 256 l2 = (0, l2) := by
      rcases hn with rfl | rfl
      · cases l2 <;> simp [wordN]
      · rfl
    rw [hw]
    exact ⟨rfl, v1, v2, by rw [set_same (by simpa using hc)]; exact h⟩
  · cases need with
    | false => exact absurd (.inl rfl) hn
    | true =>
      cases l2 with
      | nil => exact absurd (.inr rfl) hn
      | cons s r =>
        obtain ⟨bb, off, cap, rfl, hl, hm, hb, hcell⟩ := hr.at (k := 0) (by simp)
        refine (word8_yes Q2 X j bb off cap s r _ w wi (hE.keep h.fr) (hs s (by simp)) hr (h.q2.at 0 rfl) (h.q2.free 0) (h.op.at j hc) (h.op.free j) (by have := h.o2; have := h.o3; have := h.o4; omega) (h.fr.keep (hcell 0 s rfl)) hl hm).mono ?_
        rintro e w' ⟨rfl, hw⟩
        obtain ⟨v, hp⟩ := h.word2 hw
        exact ⟨rfl, _, _, hp⟩
theorem psRest16_c {w wi : World} {X Kb Q1 Q2 j : Nat} {c : Array Value} {l1 l2 : List (List UInt8)} {v1 v2 a b : Value} {N : Int} (need : Bool) (hE : Env w) (hs : ∀ s ∈ l2, s.length < 1000000) (h : PsAt w X Kb Q1 Q2 c l1 l2 v1 v2 a b N wi) (hc : c[j]? = some (.int .u16 0)) :
    Calls Tryz.prog 132 #[.pointer (some ⟨Q2, 0, none⟩), .pointer (some ⟨X, j, none⟩), .bool need] wi (PsP w X Kb Q1 Q2 (c.setIfInBounds j (.int .u16 (((wordN need 65536 l2).1 : Nat) : Int))) l1 (wordN need 65536 l2).2 a b N) := by
  have hr := h.r2
  by_cases hn : need = false ∨ l2 = []
  · refine (word16_no Q2 X j v2 l2 need wi (h.q2.at 0 rfl) (hr.keep h.fr) hn).mono ?_
    rintro e w' ⟨rfl, rfl⟩
    have hw : wordN need 65536 l2 = (0, l2) := by
      rcases hn with rfl | rfl
      · cases l2 <;> simp [wordN]
      · rfl
    rw [hw]
    exact ⟨rfl, v1, v2, by rw [set_same (by simpa using hc)]; exact h⟩
  · cases need with
    | false => exact absurd (.inl rfl) hn
    | true =>
      cases l2 with
      | nil => exact absurd (.inr rfl) hn
      | cons s r =>
        obtain ⟨bb, off, cap, rfl, hl, hm, hb, hcell⟩ := hr.at (k := 0) (by simp)
        refine (word16_yes Q2 X j bb off cap s r _ w wi (hE.keep h.fr) (hs s (by simp)) hr (h.q2.at 0 rfl) (h.q2.free 0) (h.op.at j hc) (h.op.free j) (by have := h.o2; have := h.o3; have := h.o4; omega) (h.fr.keep (hcell 0 s rfl)) hl hm).mono ?_
        rintro e w' ⟨rfl, hw⟩
        obtain ⟨v, hp⟩ := h.word2 hw
        exact ⟨rfl, _, _, hp⟩
theorem wordN_sub (need : Bool) (m : Nat) (l : List (List UInt8)) : ∀ s ∈ (wordN need m l).2, s ∈ l := by
  intro s hs
  cases l with
  | nil => exact hs
  | cons a r =>
    cases need
    · exact hs
    · exact List.mem_cons_of_mem _ hs
end Go.Proofs.YtfklgaeejmeipaaGreatDoor

/- op.Parse: the walk. No condition but the tables' content and that no word is endless. -/
namespace Go.Proofs.YtfklgaeejmeipaaGreatDoor
open Go.RowKit

def zeroOp : Value := .agg #[.int .u8 0, .int .u8 0, .int .u8 0, .int .u16 0, .int .u16 0]
theorem Tryz.infoOp : (Tryz.prog.info? 24).map (·.size) = some 5 := by kernel_rfl
/-- It returns an operation and a number. -/
def OpRet (w : World) (x : OpD × Nat) (e : Ending) (w' : World) : Prop := e = .returned (.tuple #[x.1.val, .int .i64 x.2]) ∧ Fr w w'
set_option maxRecDepth 100000 in
theorem parse_short (v : Value) (l : List (List UInt8)) (w : World) (hv : RdS w v l) (hl : l.length < 2) :
    Calls Tryz.prog 94 #[v] w (OpRet w (.zero, 4)) := by
  obtain ⟨a, c, rfl, _, _⟩ := hv.form
  have hi : (l.length : Int) < 2 := by omega
  go_enter Tryz.func94, Tryz.ntmps94
  go_wp2
  exact bodyPost_ret (v := .tuple #[zeroOp, .int .i64 4]) (by simp [results, Tryz.results94, go_sem, zeroOp]) rfl ⟨rfl, (Fr.refl _).alloc _⟩
/-- Where the search for the name stands. -/
structure LpAt (w : World) (n : List UInt8) (k : Nat) (wr : World) : Prop where
  fr : Fr w wr
  res : BoxAt wr w.heap.size #[.int .u8 0, .int .u8 0, .int .u8 0, .int .u16 0, .int .u16 0] 24
  op : BoxAt wr (w.heap.size + 1) #[.int .u8 (lastF n k), .int .u8 0, .int .u8 0, .int .u16 0, .int .u16 0] 24
theorem LpAt.hit {w wr : World} {n : List UInt8} {k m : Nat} {z : Int} (h : LpAt w n k wr) (hz : z = (lastF n (k + 1) : Nat)) : LpAt w n (k + 1) ((wr.drewN m).setCell ⟨w.heap.size + 1, 0, none⟩ (.int .u8 z)) := by
  subst hz
  exact ⟨((h.fr.drewN m).setCell (by simp) _), (h.res.drewN m).set (by simp) _, (h.op.drewN m).putAt 0 _⟩
theorem LpAt.miss {w wr : World} {n : List UInt8} {k m : Nat} (h : LpAt w n k wr) (hz : lastF n (k + 1) = lastF n k) : LpAt w n (k + 1) (wr.drewN m) := ⟨h.fr.drewN m, h.res.drewN m, by rw [hz]; exact h.op.drewN m⟩
/-- A result in a box, an error in a slot. -/
theorem results_op_err {fn : Func} {p q : Tmp} (h : fn.results = #[.cell p 24, .tmp q]) (tmps : Array Value) (w : World) (g : Nat) {c : Array Value} {u : Value} (hp : tmps.getD p undef = .pointer (some ⟨g, 0, none⟩)) (hq : tmps.getD q undef = u) (hB : BoxAt w g c 24) (hc : c.size = 5) :
    (results fn tmps).run Tryz.prog w = .ok (.tuple #[.agg c, u]) w := by
  have hl := run_loadVar_row (P := Tryz.prog) w g 24 24 c (0, 0) _ hB Tryz.underlying24 rfl (by rw [hc]; exact Tryz.infoOp)
  have hp' : tmps[p]?.getD undef = .pointer (some ⟨g, 0, none⟩) := by simpa using hp
  have hq' : tmps[q]?.getD undef = u := by simpa using hq
  simp [results, h, hp', hq', asAddr, hl]
/-- The boxes of the words, made in either order. -/
theorem rest2 {w : World} {b off cap : Nat} {o n : List UInt8} {r : List (List UInt8)} (hv : RdS w (.slice (some ⟨b, off, none⟩) (o :: n :: r).length cap) (o :: n :: r)) : RdS w (.slice (some ⟨b, off, none⟩) 1 cap) [o] ∧ RdS w (.slice (if cap = 2 then some ⟨b, off, none⟩ else some ⟨b, off + 2, none⟩) r.length (cap - 2)) r := by
  obtain ⟨b1, off1, c1, hv1, hl, hm, hb, hc⟩ := hv.at (k := 0) (by simp)
  simp only [Value.slice.injEq, Option.some.injEq, Addr.mk.injEq, and_true] at hv1
  obtain ⟨⟨rfl, rfl⟩, _, rfl⟩ := hv1
  simp at hl
  refine ⟨⟨_, _, rfl, by simp; omega, hm, .inr ⟨b, off, rfl, trivial, hb, fun j u hj => ?_⟩⟩, ?_⟩
  · match j, hj with
    | 0, hj => simp [strCells] at hj; subst hj; exact hc 0 o rfl
  · by_cases h2 : cap = 2
    · rw [if_pos h2]
      obtain rfl : r = [] := List.eq_nil_of_length_eq_zero (by omega)
      exact ⟨_, _, rfl, by simp, by omega, .inl rfl⟩
    · rw [if_neg h2]
      refine ⟨_, _, rfl, by omega, by omega, .inr ⟨b, off + 2, rfl, trivial, hb, fun j u hj => ?_⟩⟩
      obtain ⟨y, hy, rfl⟩ := Option.map_eq_some_iff.1 (by simpa [strCells] using hj)
      have := hc (j + 2) y (by simpa using hy)
      rw [show off + 2 + j = off + (j + 2) by omega]
      exact this
theorem psA {w wr w2 : World} {c : Array Value} {l1 l2 : List (List UInt8)} {v1 v2 a b : Value} {N : Int} (hf : Fr w wr) (hr : BoxAt wr w.heap.size #[.int .u8 0, .int .u8 0, .int .u8 0, .int .u16 0, .int .u16 0] 24) (ho : BoxAt wr (w.heap.size + 1) c 24) (hb : Fr wr w2) (r1 : RdS w v1 l1) (r2 : RdS w v2 l2) :
    PsAt w (w.heap.size + 1) w2.heap.size (w2.heap.size + 1) (w2.heap.size + 1 + 1) c l1 l2 v1 v2 a b N (((w2.alloc (.cells #[a, b, .int .u8 N] 120)).alloc (.cells #[v1] 59)).alloc (.cells #[v2] 59)).drew := by
  have hz := (ho.fr hb).lt
  exact { fr := ((((hf.trans hb).alloc _).alloc _).alloc _).drew, res := ((((hr.fr hb).alloc _).alloc _).alloc _).drew, op := ((((ho.fr hb).alloc _).alloc _).alloc _).drew, kb := (((BoxAt.new w2 _ _).alloc _).alloc _).drew, q1 := ((BoxAt.new' _ _ _ _ (by simp)).alloc _).drew, q2 := (BoxAt.new' _ _ _ _ (by simp)).drew, r1 := r1, r2 := r2, o1 := by omega, o2 := by omega, o3 := by omega, o4 := by omega, o5 := by omega }
theorem psB {w wr w2 : World} {c : Array Value} {l1 l2 : List (List UInt8)} {v1 v2 a b : Value} {N : Int} (hf : Fr w wr) (hr : BoxAt wr w.heap.size #[.int .u8 0, .int .u8 0, .int .u8 0, .int .u16 0, .int .u16 0] 24) (ho : BoxAt wr (w.heap.size + 1) c 24) (hb : Fr wr w2) (r1 : RdS w v1 l1) (r2 : RdS w v2 l2) :
    PsAt w (w.heap.size + 1) w2.heap.size (w2.heap.size + 1 + 1) (w2.heap.size + 1) c l1 l2 v1 v2 a b N (((w2.alloc (.cells #[a, b, .int .u8 N] 120)).alloc (.cells #[v2] 59)).alloc (.cells #[v1] 59)).drew := by
  have hz := (ho.fr hb).lt
  exact { fr := ((((hf.trans hb).alloc _).alloc _).alloc _).drew, res := ((((hr.fr hb).alloc _).alloc _).alloc _).drew, op := ((((ho.fr hb).alloc _).alloc _).alloc _).drew, kb := (((BoxAt.new w2 _ _).alloc _).alloc _).drew, q1 := (BoxAt.new' _ _ _ _ (by simp)).drew, q2 := ((BoxAt.new' _ _ _ _ (by simp)).alloc _).drew, r1 := r1, r2 := r2, o1 := by omega, o2 := by omega, o3 := by omega, o4 := by omega, o5 := by omega }
set_option maxRecDepth 100000 in
set_option maxHeartbeats 2000000 in
theorem parse_long (v : Value) (o n : List UInt8) (r : List (List UInt8)) (w : World) (hE : Env w) (hv : RdS w v (o :: n :: r)) (hs : ∀ s ∈ o :: n :: r, s.length < 1000000) :
    Calls Tryz.prog 94 #[v] w (OpRet w (parseOp (o :: n :: r))) := by
  have HRES := Lib.hid (parseOp_cons o n r)
  have hP : ∃ R, parseOp (o :: n :: r) = R := ⟨_, rfl⟩
  obtain ⟨R, hP⟩ := hP
  rw [hP] at HRES ⊢
  clear hP
  obtain ⟨b, off, cap, rfl, hl, hm, hb, hcell⟩ := hv.at (k := 0) (by simp)
  have hc1 := hcell 1 n rfl
  simp only [List.length_cons] at hl ⊢
  have hi : ¬ ((r.length : Int) + 1 + 1 < 2) := by omega
  have hi2 : (1 : Int) < (r.length : Int) + 1 + 1 := by omega
  unfold maxLen at hm
  have hgn := fun k (h1 : 1 ≤ k) (h2 : k ≤ 11) => hE.kinds.name k h1 h2
  have HN := Lib.hid hgn
  have HE := Lib.hid hE
  clear hgn hE hcell
  go_enter Tryz.func94, Tryz.ntmps94
  go_wp2
  go_loopw [15] (fun i wr => ∃ k : Nat, k ≤ 12 ∧ i = .int .i64 k ∧ LpAt w n k wr) (fun i _ => 12 - (intOf i).toNat)
  case atStart => exact ⟨0, by omega, rfl, ⟨((Fr.refl w).alloc _).alloc _, (BoxAt.new w _ _).alloc _, BoxAt.new' _ _ _ _ (by simp)⟩⟩
  case round =>
    obtain ⟨k, hk, rfl, hL⟩ := hrel
    have hop := hL.op.at 0 rfl
    have hof := hL.op.free 0
    have hoz := hL.op.lt
    have hn1 := hL.fr.keep hc1
    by_cases hlt : k < 12
    · have hlti : (k : Int) < 12 := by omega
      by_cases h0 : k = 0
      · subst h0
        go_wp2
        go_quiet (fail)
        go_wp2
        go_roundw
        case rel => exact ⟨1, by omega, rfl, hL.miss rfl⟩
        case measure => simp [intOf]
      · have h0i : (0 : Int) < k := by omega
        have h0n : 0 < k := by omega
        have h0d : decide (0 < k) = true := by simp; omega
        have h0e : decide ((0 : Int) < (k : Int)) = true := by simp; omega
        have hnm := hL.fr.keep (HN.out k (by omega) (by omega))
        by_cases he : kName k = n
        · have hz : lastF n (k + 1) = k := by rw [lastF, if_pos ⟨by omega, he⟩]
          have HZ := Lib.hid hz
          rw [he] at hnm
          have hq : (n == n) = true := by simp
          clear he hz
          go_wp2
          go_quiet (fail)
          go_wp2
          go_roundw
          case rel => exact ⟨k + 1, by omega, by go_num, hL.hit (by rw [HZ.out])⟩
          case measure => simp [intOf]; omega
        · have hz : lastF n (k + 1) = lastF n k := by rw [lastF, if_neg (fun h => he h.2)]
          have HZ := Lib.hid hz
          have hq : (kName k == n) = false := by simpa using he
          have hnm2 : ∃ nm, nm = kName k := ⟨_, rfl⟩
          obtain ⟨nm, hnm2⟩ := hnm2
          rw [← hnm2] at hnm hq
          clear he hz hnm2
          go_wp2
          go_quiet (fail)
          go_wp2
          go_roundw
          case rel => exact ⟨k + 1, by omega, by go_num, hL.miss HZ.out⟩
          case measure => simp [intOf]; omega
    · obtain rfl : k = 12 := by omega
      have hF := lastF_le n 12
      have hFi := lastF_is n 12
      have hLr := hL.res
      have hLo := hL.op
      have hLf := hL.fr
      generalize hFe : lastF n 12 = F at hF hFi hop hLo HRES
      clear hFe
      clear hL
      by_cases h0 : F = 0
      · subst h0
        have hRR : R = (.zero, 4) := by have := HRES.out; rwa [if_pos rfl] at this
        clear hFi hF HRES
        subst hRR
        go_wp2_with fail
        refine (find_no 0 _ (by omega) (by omega) (.inl rfl)).mono ?_
        rintro e w2 ⟨rfl, hb2⟩
        have hB2 := (hLr.fr hb2).alloc (.cells #[.int .u8 0, .string ⟨#[]⟩, .int .u8 0] 120)
        have hf2 := (hLf.trans hb2).alloc (.cells #[.int .u8 0, .string ⟨#[]⟩, .int .u8 0] 120)
        have hz2 := hB2.lt
        go_wp2_with ((with_reducible refine wpList_here (.store 24 (.tmp 2) (.tmp 42)) rfl ?_); refine wpList_store_old 24 (.tmp 2) (.tmp 42) rfl w.heap.size _ _ rfl rfl hB2 Tryz.infoOp rfl (by simp [Value.oneCell']) rfl rfl ?_; intro w3 hR)
        exact bodyPost_ret (v := .tuple #[zeroOp, .int .i64 4]) (results_op_err rfl _ _ _ rfl rfl hR.box rfl) rfl ⟨rfl, hR.fr hf2 (Nat.le_refl _)⟩
      · have hRR := HRES.out
        rw [if_neg h0] at hRR
        have HRR := Lib.hid hRR
        clear hRR HRES
        have hF1 : 1 ≤ F := by omega
        have hF11 : F ≤ 11 := by omega
        have HOK := Lib.hid (candOp_ok F o r (by omega))
        have HSo := Lib.hid (hs o (by simp))
        have HSr := Lib.hid (fun s (h : s ∈ r) => hs s (by simp [h]))
        have hv12 := rest2 hv
        clear hFi hs
        go_wp2_with fail
        refine (find_yes F _ hF1 hF11 (HE.out.keep hLf)).mono ?_
        generalize kModel (F : Int) = md
        have hnm : ∃ nm, nm = kName F := ⟨_, rfl⟩
        obtain ⟨nm, hnm⟩ := hnm
        rw [← hnm]
        clear hnm
        have hN : ∃ N, N = kNeeds F := ⟨_, rfl⟩
        obtain ⟨N, hN⟩ := hN
        rw [← hN]
        have EK := Lib.hid (show (bits BinOp.and IntKind.u8 N 1 != 0) = hasK F by rw [hN]; rfl)
        have EA := Lib.hid (show (bits BinOp.and IntKind.u8 N 2 != 0) = hasA F by rw [hN]; rfl)
        have EB := Lib.hid (show (bits BinOp.and IntKind.u8 N 4 != 0) = hasB F by rw [hN]; rfl)
        clear hN
        rintro e w2 ⟨rfl, hb2⟩
        go_wp2_with fail
        go_region
        · have hv122 := hv12.2
          generalize (if cap = 2 then some (⟨b, off, none⟩ : Addr) else some ⟨b, off + 2, none⟩) = ad at hv122 ⊢
          generalize cap - 2 = c2 at hv122 ⊢
          have hP := psA (a := .int .u8 md) (b := .string ⟨nm.toArray⟩) (N := N) hLf hLr hLo hb2 hv12.1 hv122
          go_wp2_with fail
          refine (psFirst_c HE.out HSo.out hP rfl).mono ?_
          rintro e w3 ⟨rfl, v1, v2, hP3⟩
          have hP3 : PsAt w (w.heap.size + 1) w2.heap.size (w2.heap.size + 1) (w2.heap.size + 1 + 1) #[.int .u8 F, .int .u8 ((num16 o % 256 : Nat) : Int), .int .u8 0, .int .u16 0, .int .u16 0] [] r v1 v2 (.int .u8 md) (.string ⟨nm.toArray⟩) N w3 := hP3
          have hk3 := hP3.kb.at 2 rfl
          have hz3 := hP3.kb.lt
          clear hP
          go_wp2_with fail
          rw [EK.out]
          refine (psRest8_c (hasK F) HE.out (fun s h => HSr.out s h) hP3 rfl).mono ?_
          rintro e w4 ⟨rfl, v1, v2, hP4⟩
          have hP4 : PsAt w (w.heap.size + 1) w2.heap.size (w2.heap.size + 1) (w2.heap.size + 1 + 1) #[.int .u8 F, .int .u8 ((num16 o % 256 : Nat) : Int), .int .u8 (((wordN (hasK F) 256 r).1 : Nat) : Int), .int .u16 0, .int .u16 0] [] (wordN (hasK F) 256 r).2 v1 v2 (.int .u8 md) (.string ⟨nm.toArray⟩) N w4 := hP4
          have hk4 := hP4.kb.at 2 rfl
          have hz4 := hP4.kb.lt
          clear hP3 hk3 hz3
          go_wp2_with fail
          rw [EA.out]
          refine (psRest16_c (hasA F) HE.out (fun s h => HSr.out s (wordN_sub _ _ _ s h)) hP4 rfl).mono ?_
          rintro e w5 ⟨rfl, v1, v2, hP5⟩
          have hP5 : PsAt w (w.heap.size + 1) w2.heap.size (w2.heap.size + 1) (w2.heap.size + 1 + 1) #[.int .u8 F, .int .u8 ((num16 o % 256 : Nat) : Int), .int .u8 (((wordN (hasK F) 256 r).1 : Nat) : Int), .int .u16 (((wordN (hasA F) 65536 (wordN (hasK F) 256 r).2).1 : Nat) : Int), .int .u16 0] [] (wordN (hasA F) 65536 (wordN (hasK F) 256 r).2).2 v1 v2 (.int .u8 md) (.string ⟨nm.toArray⟩) N w5 := hP5
          have hk5 := hP5.kb.at 2 rfl
          have hz5 := hP5.kb.lt
          clear hP4 hk4 hz4
          go_wp2_with fail
          rw [EB.out]
          refine (psRest16_c (hasB F) HE.out (fun s h => HSr.out s (wordN_sub _ _ _ s (wordN_sub _ _ _ s h))) hP5 rfl).mono ?_
          rintro e w6 ⟨rfl, v1, v2, hP6⟩
          have hP6 : PsAt w (w.heap.size + 1) w2.heap.size (w2.heap.size + 1) (w2.heap.size + 1 + 1) #[.int .u8 F, .int .u8 ((num16 o % 256 : Nat) : Int), .int .u8 (((wordN (hasK F) 256 r).1 : Nat) : Int), .int .u16 (((wordN (hasA F) 65536 (wordN (hasK F) 256 r).2).1 : Nat) : Int), .int .u16 (((wordN (hasB F) 65536 (wordN (hasA F) 65536 (wordN (hasK F) 256 r).2).2).1 : Nat) : Int)] [] (wordN (hasB F) 65536 (wordN (hasA F) 65536 (wordN (hasK F) 256 r).2).2).2 v1 v2 (.int .u8 md) (.string ⟨nm.toArray⟩) N w6 := hP6
          have hk6 := hP6.kb.at 2 rfl
          have hz6 := hP6.kb.lt
          clear hP5 hk5 hz5
          have hop6 := hP6.op
          have hre6 := hP6.res
          have hfr6 := hP6.fr
          have hzx := hop6.lt
          clear hP6 hk6 hz6
          go_wp2_with ((with_reducible refine wpList_here (.load 24 (.tmp 4)) rfl ?_); refine wpList_load_box 24 (.tmp 4) rfl _ rfl _ hop6 _ Tryz.underlying24 rfl Tryz.infoOp rfl ?_)
          refine (Words_c (candOp F o r) _ (HE.out.keep hfr6) HOK.out).mono ?_
          rintro e w7 ⟨v', rfl, hrd, hb7⟩
          have hfr7 := hfr6.trans hb7
          have hop7 := hop6.fr hb7
          have hre7 := hre6.fr hb7
          go_wp2_with fail
          refine (equalS_c _ _ _ _ _ hrd (hv.keep hfr7)).mono ?_
          rintro e w8 ⟨rfl, hb8⟩
          have hfr8 := hfr7.trans hb8.fr
          have hop8 := hop7.fr hb8.fr
          have hre8 := hre7.fr hb8.fr
          have hzx8 := hop8.lt
          have hrr := HRR.out
          have HOP := Lib.hid hop8
          by_cases hq : (candOp F o r).words = o :: n :: r
          · rw [if_pos hq] at hrr
            rw [decide_eq_true hq]
            subst hrr
            clear hq hrd HRR hop6 hop7 hre6 hre7
            go_wp2_with (first | ((with_reducible refine wpList_here (.load 24 (.tmp 4)) rfl ?_); refine wpList_load_box 24 (.tmp 4) rfl _ rfl _ hop8 _ Tryz.underlying24 rfl Tryz.infoOp rfl ?_) | ((with_reducible refine wpList_here (.store 24 (.tmp 2) (.tmp 73)) rfl ?_); refine wpList_store_old 24 (.tmp 2) (.tmp 73) rfl w.heap.size _ _ rfl rfl hre8 Tryz.infoOp rfl (by simp [Value.oneCell']) rfl rfl ?_; intro w9 hR))
            exact bodyPost_ret (v := .tuple #[(candOp F o r).val, .int .i64 0]) (results_op_err rfl _ _ _ rfl rfl hR.box rfl) rfl ⟨rfl, hR.fr hfr8 (Nat.le_refl _)⟩
          · rw [if_neg hq] at hrr
            rw [decide_eq_false hq]
            subst hrr
            clear hq hrd HRR hop6 hop7 hre6 hre7
            go_wp2_with ((with_reducible refine wpList_here (.store 24 (.tmp 2) (.tmp 72)) rfl ?_); refine wpList_store_old 24 (.tmp 2) (.tmp 72) rfl w.heap.size _ _ rfl rfl hre8 Tryz.infoOp rfl (by simp [Value.oneCell']) rfl rfl ?_; intro w9 hR)
            exact bodyPost_ret (v := .tuple #[zeroOp, .int .i64 4]) (results_op_err rfl _ _ _ rfl rfl hR.box rfl) rfl ⟨rfl, hR.fr hfr8 (Nat.le_refl _)⟩
        · have hv122 := hv12.2
          generalize (if cap = 2 then some (⟨b, off, none⟩ : Addr) else some ⟨b, off + 2, none⟩) = ad at hv122 ⊢
          generalize cap - 2 = c2 at hv122 ⊢
          have hP := psB (a := .int .u8 md) (b := .string ⟨nm.toArray⟩) (N := N) hLf hLr hLo hb2 hv12.1 hv122
          go_wp2_with fail
          refine (psFirst_c HE.out HSo.out hP rfl).mono ?_
          rintro e w3 ⟨rfl, v1, v2, hP3⟩
          have hP3 : PsAt w (w.heap.size + 1) w2.heap.size (w2.heap.size + 1 + 1) (w2.heap.size + 1) #[.int .u8 F, .int .u8 ((num16 o % 256 : Nat) : Int), .int .u8 0, .int .u16 0, .int .u16 0] [] r v1 v2 (.int .u8 md) (.string ⟨nm.toArray⟩) N w3 := hP3
          have hk3 := hP3.kb.at 2 rfl
          have hz3 := hP3.kb.lt
          clear hP
          go_wp2_with fail
          rw [EK.out]
          refine (psRest8_c (hasK F) HE.out (fun s h => HSr.out s h) hP3 rfl).mono ?_
          rintro e w4 ⟨rfl, v1, v2, hP4⟩
          have hP4 : PsAt w (w.heap.size + 1) w2.heap.size (w2.heap.size + 1 + 1) (w2.heap.size + 1) #[.int .u8 F, .int .u8 ((num16 o % 256 : Nat) : Int), .int .u8 (((wordN (hasK F) 256 r).1 : Nat) : Int), .int .u16 0, .int .u16 0] [] (wordN (hasK F) 256 r).2 v1 v2 (.int .u8 md) (.string ⟨nm.toArray⟩) N w4 := hP4
          have hk4 := hP4.kb.at 2 rfl
          have hz4 := hP4.kb.lt
          clear hP3 hk3 hz3
          go_wp2_with fail
          rw [EA.out]
          refine (psRest16_c (hasA F) HE.out (fun s h => HSr.out s (wordN_sub _ _ _ s h)) hP4 rfl).mono ?_
          rintro e w5 ⟨rfl, v1, v2, hP5⟩
          have hP5 : PsAt w (w.heap.size + 1) w2.heap.size (w2.heap.size + 1 + 1) (w2.heap.size + 1) #[.int .u8 F, .int .u8 ((num16 o % 256 : Nat) : Int), .int .u8 (((wordN (hasK F) 256 r).1 : Nat) : Int), .int .u16 (((wordN (hasA F) 65536 (wordN (hasK F) 256 r).2).1 : Nat) : Int), .int .u16 0] [] (wordN (hasA F) 65536 (wordN (hasK F) 256 r).2).2 v1 v2 (.int .u8 md) (.string ⟨nm.toArray⟩) N w5 := hP5
          have hk5 := hP5.kb.at 2 rfl
          have hz5 := hP5.kb.lt
          clear hP4 hk4 hz4
          go_wp2_with fail
          rw [EB.out]
          refine (psRest16_c (hasB F) HE.out (fun s h => HSr.out s (wordN_sub _ _ _ s (wordN_sub _ _ _ s h))) hP5 rfl).mono ?_
          rintro e w6 ⟨rfl, v1, v2, hP6⟩
          have hP6 : PsAt w (w.heap.size + 1) w2.heap.size (w2.heap.size + 1 + 1) (w2.heap.size + 1) #[.int .u8 F, .int .u8 ((num16 o % 256 : Nat) : Int), .int .u8 (((wordN (hasK F) 256 r).1 : Nat) : Int), .int .u16 (((wordN (hasA F) 65536 (wordN (hasK F) 256 r).2).1 : Nat) : Int), .int .u16 (((wordN (hasB F) 65536 (wordN (hasA F) 65536 (wordN (hasK F) 256 r).2).2).1 : Nat) : Int)] [] (wordN (hasB F) 65536 (wordN (hasA F) 65536 (wordN (hasK F) 256 r).2).2).2 v1 v2 (.int .u8 md) (.string ⟨nm.toArray⟩) N w6 := hP6
          have hk6 := hP6.kb.at 2 rfl
          have hz6 := hP6.kb.lt
          clear hP5 hk5 hz5
          have hop6 := hP6.op
          have hre6 := hP6.res
          have hfr6 := hP6.fr
          have hzx := hop6.lt
          clear hP6 hk6 hz6
          go_wp2_with ((with_reducible refine wpList_here (.load 24 (.tmp 4)) rfl ?_); refine wpList_load_box 24 (.tmp 4) rfl _ rfl _ hop6 _ Tryz.underlying24 rfl Tryz.infoOp rfl ?_)
          refine (Words_c (candOp F o r) _ (HE.out.keep hfr6) HOK.out).mono ?_
          rintro e w7 ⟨v', rfl, hrd, hb7⟩
          have hfr7 := hfr6.trans hb7
          have hop7 := hop6.fr hb7
          have hre7 := hre6.fr hb7
          go_wp2_with fail
          refine (equalS_c _ _ _ _ _ hrd (hv.keep hfr7)).mono ?_
          rintro e w8 ⟨rfl, hb8⟩
          have hfr8 := hfr7.trans hb8.fr
          have hop8 := hop7.fr hb8.fr
          have hre8 := hre7.fr hb8.fr
          have hzx8 := hop8.lt
          have hrr := HRR.out
          have HOP := Lib.hid hop8
          by_cases hq : (candOp F o r).words = o :: n :: r
          · rw [if_pos hq] at hrr
            rw [decide_eq_true hq]
            subst hrr
            clear hq hrd HRR hop6 hop7 hre6 hre7
            go_wp2_with (first | ((with_reducible refine wpList_here (.load 24 (.tmp 4)) rfl ?_); refine wpList_load_box 24 (.tmp 4) rfl _ rfl _ hop8 _ Tryz.underlying24 rfl Tryz.infoOp rfl ?_) | ((with_reducible refine wpList_here (.store 24 (.tmp 2) (.tmp 73)) rfl ?_); refine wpList_store_old 24 (.tmp 2) (.tmp 73) rfl w.heap.size _ _ rfl rfl hre8 Tryz.infoOp rfl (by simp [Value.oneCell']) rfl rfl ?_; intro w9 hR))
            exact bodyPost_ret (v := .tuple #[(candOp F o r).val, .int .i64 0]) (results_op_err rfl _ _ _ rfl rfl hR.box rfl) rfl ⟨rfl, hR.fr hfr8 (Nat.le_refl _)⟩
          · rw [if_neg hq] at hrr
            rw [decide_eq_false hq]
            subst hrr
            clear hq hrd HRR hop6 hop7 hre6 hre7
            go_wp2_with ((with_reducible refine wpList_here (.store 24 (.tmp 2) (.tmp 72)) rfl ?_); refine wpList_store_old 24 (.tmp 2) (.tmp 72) rfl w.heap.size _ _ rfl rfl hre8 Tryz.infoOp rfl (by simp [Value.oneCell']) rfl rfl ?_; intro w9 hR)
            exact bodyPost_ret (v := .tuple #[zeroOp, .int .i64 4]) (results_op_err rfl _ _ _ rfl rfl hR.box rfl) rfl ⟨rfl, hR.fr hfr8 (Nat.le_refl _)⟩
theorem Parse_c (v : Value) (l : List (List UInt8)) (w : World) (hE : Env w) (hv : RdS w v l) (hs : ∀ s ∈ l, s.length < 1000000) : Calls Tryz.prog 94 #[v] w (OpRet w (parseOp l)) := by
  match l, hv, hs with
  | [], hv, _ => exact parse_short v [] w hv (by simp)
  | [o], hv, _ => exact parse_short v [o] w hv (by simp)
  | o :: n :: r, hv, hs => exact parse_long v o n r w hE hv hs
end Go.Proofs.YtfklgaeejmeipaaGreatDoor
