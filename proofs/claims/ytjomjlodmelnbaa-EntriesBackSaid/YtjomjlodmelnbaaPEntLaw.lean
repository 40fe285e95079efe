/- Layer 16: the law's own helpers: row, given, same, tells, behind, unlifts. No condition but what each says. -/
import Derived.Test.YtjomjlodmelnbaaPEntCalls
set_option linter.all false
set_option linter.unusedVariables false
set_option linter.unusedSimpArgs false
set_option linter.unnecessarySimpa false
/- Layer 16: the law's own helpers: row, given, same, tells, behind, unlifts. No condition but what each says. -/
namespace Go.Proofs.Ytjomjlodmelnbaa
open Go.RowKit Go.Sort
attribute [local go_sem] Oper.semAt_some

def rowOf (frm to : Int) (st : Nat) : TRow := ⟨0, 0, 0, 0, 0, 0, 0, 0, 0, st, frm, if st = 1 then to else 4611686018427387904⟩
set_option maxRecDepth 100000 in
theorem row16_c (frm to : Int) (st : Nat) (w : World) : Calls Try.prog 30 #[.int .i64 frm, .int .i64 to, .int .u8 st] w fun e w' => e = .returned (.agg (rowOf frm to st).cells.toArray) ∧ Fr w w' := by
  by_cases hs : st = 1
  · subst hs
    have HV : Hid (rowOf frm to 1 = ⟨0, 0, 0, 0, 0, 0, 0, 0, 0, 1, frm, to⟩) := rfl
    go_enter Try.func30, Try.ntmps30
    go_wp2
    refine bodyPost_ret (v := .agg (rowOf frm to 1).cells.toArray) (by simp [results, Try.results30, go_sem, HV.out, TRow.cells]) rfl ?_
    exact ⟨rfl, (Fr.refl _).alloc _⟩
  · have HV : Hid (rowOf frm to st = ⟨0, 0, 0, 0, 0, 0, 0, 0, 0, st, frm, 4611686018427387904⟩) := by unfold rowOf; rw [if_neg hs]; rfl
    have hz : ((st : Int) != 1) = true := by simp; omega
    go_enter Try.func30, Try.ntmps30
    go_wp2
    refine bodyPost_ret (v := .agg (rowOf frm to st).cells.toArray) (by simp [results, Try.results30, go_sem, HV.out, TRow.cells]) rfl ?_
    exact ⟨rfl, (Fr.refl _).alloc _⟩
/-- Numbers that can be read. -/
def RdI (w : World) (v : Value) (l : List Nat) : Prop := ∃ a cap, v = .slice a l.length cap ∧ l.length ≤ cap ∧ ∀ i (hi : i < l.length), ∃ g o, a = some ⟨g, o, none⟩ ∧ w.cell? ⟨g, o + i, none⟩ = some (intV l[i])
theorem RdI.own {w : World} {base : Nat} {v : Value} {l : List Nat} (h : w.ownsRow base 3 1 v l.length (l.map intV)) : RdI w v l := by
  obtain ⟨a, cap, h1, h2, h3⟩ := ints_form h
  refine ⟨a, cap, h1, h2, fun i hi => ?_⟩
  obtain ⟨g, h4, h5⟩ := h3 i hi
  exact ⟨g, 0, h4, by rw [Nat.zero_add]; exact h5⟩
theorem RdI.fr {w w' : World} {v : Value} {l : List Nat} (h : RdI w v l) (f : Fr w w') : RdI w' v l := by
  obtain ⟨a, cap, h1, h2, h3⟩ := h
  refine ⟨a, cap, h1, h2, fun i hi => ?_⟩
  obtain ⟨g, o, h4, h5⟩ := h3 i hi
  exact ⟨g, o, h4, f.keep h5⟩
set_option maxRecDepth 100000 in
theorem same16_c (v u : Value) (l m : List Nat) (w : World) (hv : RdI w v l) (hu : RdI w u m) (hl : l.length ≤ 7036874417600) : Calls Try.prog 19 #[v, u] w fun e w' => e = .returned (.bool (decide (l = m))) ∧ Fr w w' := by
  obtain ⟨a, ca, rfl, hca, hra⟩ := hv
  obtain ⟨b, cb, rfl, hcb, hrb⟩ := hu
  have HA := Lib.hid hra
  have HB := Lib.hid hrb
  clear hra hrb
  by_cases hn : l.length = m.length
  · obtain ⟨d, hd⟩ : ∃ d, decide (l = m) = d := ⟨_, rfl⟩
    rw [hd]
    have HD := Lib.hid hd
    have HM := Lib.hid hn
    rw [← hn] at hcb ⊢
    clear hd hn
    go_enter Try.func19, Try.ntmps19
    go_wp2_with fail
    go_loopw [5] (fun i wr => ∃ k : Nat, k ≤ l.length ∧ i = .int .i64 k ∧ Fr w wr ∧ Hid (l.take k = m.take k)) (fun i _ => l.length - (intOf i).toNat)
    case atStart => exact ⟨0, Nat.zero_le _, rfl, Fr.refl _, rfl⟩
    case round =>
      obtain ⟨k, hk, rfl, hfr, HE⟩ := hrel
      by_cases hlt : k < l.length
      · obtain ⟨ga, oa, rfl, ha⟩ := HA.out k hlt
        obtain ⟨gb, ob, rfl, hb⟩ := HB.out k (by rw [← HM.out]; exact hlt)
        have ha := hfr.keep ha
        have hb := hfr.keep hb
        have la := lt_of_cell ha
        have lb := lt_of_cell hb
        simp only at la lb
        have hmk : k < m.length := by rw [← HM.out]; exact hlt
        have HS : Hid (l[k] = m[k] → l.take (k + 1) = m.take (k + 1)) := fun e => by rw [List.take_succ_eq_append_getElem hlt, List.take_succ_eq_append_getElem hmk, HE.out, e]
        have HNE : Hid (l[k] ≠ m[k] → d = false) := fun e => by rw [← HD.out]; exact decide_eq_false fun h => e (by subst h; rfl)
        generalize l[k] = p at ha HS HNE
        generalize m[k] = q at hb HS HNE
        unfold intV at ha hb
        by_cases hpq : p = q
        · subst hpq
          have hz : ((p : Int) != (p : Int)) = false := by simp
          have HS2 := Lib.hid (HS.out rfl)
          go_wp2_with fail
          go_quiet (fail)
          go_wp2_with fail
          go_roundw
          case rel => exact ⟨k + 1, by omega, by go_num, hfr.drewN _, HS2⟩
          case measure => simp [intOf]; omega
        · have hz : ((p : Int) != (q : Int)) = true := by simp; omega
          have hd := HNE.out hpq
          go_wp2_with fail
          go_quiet (fail)
          go_wp2_with fail
          go_ret
          exact ⟨by rw [hd]; rfl, hfr.drewN _⟩
      · obtain rfl : k = l.length := by omega
        have hd : d = true := by
          have h1 := HE.out
          rw [List.take_length, HM.out, List.take_length] at h1
          rw [← HD.out]; exact decide_eq_true h1
        go_wp2_with fail
        go_ret
        exact ⟨by rw [hd]; rfl, hfr⟩
  · have hd : decide (l = m) = false := decide_eq_false fun e => hn (by rw [e])
    have hz : ((l.length : Int) != (m.length : Int)) = true := by simp; omega
    rw [hd]
    clear hd
    go_enter Try.func19, Try.ntmps19
    go_wp2_with fail
    go_ret
    exact ⟨rfl, Fr.refl _⟩
set_option maxRecDepth 100000 in
theorem tellsV_c {w : World} (p : Option Addr) (l : List Nat) (hlen : l.length ≤ 7036874417600) (H : Calls Try.prog 11 #[.pointer p] w (NextP w l)) (u : Value) (m : List Nat) (hu : RdI w u m) : Calls Try.prog 14 #[.pointer p, u] w fun e w' => e = .returned (.bool (decide (l = m))) ∧ Fr w w' := by
  have HN := Lib.hid H
  have HU := Lib.hid hu
  obtain ⟨a, cap, rfl, _, _⟩ := hu
  clear H
  have HL := Lib.hid hlen
  clear hlen
  obtain ⟨d, hd⟩ : ∃ d, decide (l = m) = d := ⟨_, rfl⟩
  rw [hd]
  have HD := Lib.hid hd
  clear hd
  go_enter Try.func14, Try.ntmps14
  go_wp2_with fail
  refine HN.out.mono ?_
  rintro e w1 ⟨v, rfl, hO, hf⟩
  have HS := Lib.hid (same16_c v _ l m w1 (RdI.own hO) (HU.out.fr hf) HL.out)
  rw [HD.out] at HS
  obtain ⟨va, vc, rfl, _⟩ := ints_form hO
  clear hO
  go_wp2_with fail
  refine HS.out.mono ?_
  rintro e w2 ⟨rfl, hf2⟩
  go_wp2_with fail
  go_ret
  exact ⟨rfl, hf.trans hf2⟩
theorem tells16_c {Z : Nat → Prop} {base : Nat} {w : World} {x : Nat} {rs : List ERow} {up : List Nat} (H : ListAt Z base w x rs up) (u : Value) (m : List Nat) (hu : RdI w u m) : Calls Try.prog 14 #[Pt x, u] w fun e w' => e = .returned (.bool (decide (nexts rs up = m))) ∧ Fr w w' := by
  refine tellsV_c (some ⟨x, 0, none⟩) _ ?_ (next_c H) u m hu
  obtain ⟨h, N, T, nx, pv, vr, vl, L⟩ := H
  exact Nat.le_trans (nexts_len rs up) L.ups.2.2
def behindB (l : List Nat) (want : Int) : Bool := if 0 ≤ want then (!l.isEmpty && decide (((l.head?.getD 0 : Nat) : Int) = want)) else l.isEmpty
set_option maxRecDepth 100000 in
theorem behindV_c {w : World} (p : Option Addr) (l : List Nat) (i want : Int) (hc : Calls Try.prog 24 #[.pointer p, .int .i64 i] w fun e w' => e = .returned (firstOf l) ∧ Fr w w') : Calls Try.prog 28 #[.pointer p, .int .i64 i, .int .i64 want] w fun e w' => e = .returned (.bool (behindB l want)) ∧ Fr w w' := by
  by_cases hw : 0 ≤ want
  · have hge : want ≥ 0 := hw
    cases l with
    | nil =>
      have hB : Hid (behindB [] want = false) := by unfold behindB; rw [if_pos hw]; rfl
      unfold firstOf at hc
      have HC := Lib.hid hc
      clear hc
      go_enter Try.func28, Try.ntmps28
      go_wp2_with fail
      refine HC.out.mono ?_
      rintro e w1 ⟨rfl, hf⟩
      go_wp2_with fail
      go_ret
      exact ⟨by rw [hB.out]; rfl, hf⟩
    | cons k l =>
      have hB : Hid (behindB (k :: l) want = decide ((k : Int) = want)) := by refine Lib.hid ?_; unfold behindB; rw [if_pos hw]; exact Bool.true_and _
      have hm : max want 0 = want := by omega
      have HC := Lib.hid (show Calls Try.prog 24 #[.pointer p, .int .i64 i] w (fun e w' => e = .returned (.tuple #[.int .i64 (k : Int), .bool true]) ∧ Fr w w') from hc)
      clear hc
      by_cases hk : (k : Int) = want
      · rw [decide_eq_true hk] at hB
        go_enter Try.func28, Try.ntmps28
        go_wp2_with fail
        refine HC.out.mono ?_
        rintro e w1 ⟨rfl, hf⟩
        go_wp2_with fail
        go_ret
        exact ⟨by rw [hB.out]; rfl, hf⟩
      · rw [decide_eq_false hk] at hB
        have hz : ((k : Int) == want) = false := by simp; omega
        go_enter Try.func28, Try.ntmps28
        go_wp2_with fail
        refine HC.out.mono ?_
        rintro e w1 ⟨rfl, hf⟩
        go_wp2_with fail
        go_ret
        exact ⟨by rw [hB.out]; rfl, hf⟩
  · have hge : ¬ want ≥ 0 := hw
    have hm : max want 0 = 0 := by omega
    cases l with
    | nil =>
      have hB : Hid (behindB [] want = true) := by unfold behindB; rw [if_neg hw]; rfl
      have HC := Lib.hid (show Calls Try.prog 24 #[.pointer p, .int .i64 i] w (fun e w' => e = .returned (.tuple #[.int .i64 0, .bool false]) ∧ Fr w w') from hc)
      clear hc
      go_enter Try.func28, Try.ntmps28
      go_wp2_with fail
      refine HC.out.mono ?_
      rintro e w1 ⟨rfl, hf⟩
      go_wp2_with fail
      go_ret
      exact ⟨by rw [hB.out]; show Ending.returned (.bool (!decide (0 ≤ want))) = _; rw [decide_eq_false (by omega)]; rfl, hf⟩
    | cons k l =>
      have hB : Hid (behindB (k :: l) want = false) := by unfold behindB; rw [if_neg hw]; rfl
      have HC := Lib.hid (show Calls Try.prog 24 #[.pointer p, .int .i64 i] w (fun e w' => e = .returned (.tuple #[.int .i64 (k : Int), .bool true]) ∧ Fr w w') from hc)
      clear hc
      go_enter Try.func28, Try.ntmps28
      go_wp2_with fail
      refine HC.out.mono ?_
      rintro e w1 ⟨rfl, hf⟩
      go_wp2_with fail
      go_ret
      exact ⟨by rw [hB.out]; rfl, hf⟩
theorem behind16_c {Z : Nat → Prop} {base : Nat} {w : World} {x : Nat} {rs : List ERow} {up : List Nat} (H : ListAt Z base w x rs up) (i want : Int) : Calls Try.prog 28 #[Pt x, .int .i64 i, .int .i64 want] w fun e w' => e = .returned (.bool (behindB (behindOf rs up i) want)) ∧ Fr w w' := behindV_c (some ⟨x, 0, none⟩) _ i want (behind_c H i)
/-- What the law's unlifts asks. -/
def unliftsB (up : List Nat) (want err : Int) : Bool := match up.reverse with
  | [] => decide (want = 0) && decide (err = 11)
  | i :: _ => decide ((i : Int) = want) && decide (err = 0)
def UnlQ (base : Nat) (w : World) (x : Nat) (rs : List ERow) (up : List Nat) (Z : Nat → Prop) (want err : Int) (e : Ending) (w' : World) : Prop := e = .returned (.bool (unliftsB up want err)) ∧ Turned base w w' x rs up.dropLast Z
set_option maxRecDepth 100000 in
theorem unlifts16_c {base : Nat} {w : World} {x : Nat} {rs : List ERow} {up : List Nat} {Z : Nat → Prop} (H : Lst base w x rs up Z) (hb : base ≤ w.heap.size) (want err : Int) : Calls Try.prog 29 #[Pt x, .int .i64 want, .int .i64 err] w (UnlQ base w x rs up Z want err) := by
  have key : ∀ (i f : Int) (d : Bool), (decide (i = want) && decide (err = f)) = d → unliftsB up want err = d → Calls Try.prog 26 #[Pt x] w (fun e w' => e = .returned (.tuple #[.int .i64 i, .int .i64 f]) ∧ Turned base w w' x rs up.dropLast Z) → Calls Try.prog 29 #[Pt x, .int .i64 want, .int .i64 err] w (UnlQ base w x rs up Z want err) := by
    intro i f d hd hB hc
    have HC := Lib.hid hc
    have HB := Lib.hid hB
    have HD := Lib.hid hd
    clear H hb hc hB hd
    by_cases h1 : i = want
    · subst h1
      by_cases h2 : f = err
      · subst h2
        go_enter Try.func29, Try.ntmps29
        go_wp2_with fail
        refine HC.out.mono ?_
        rintro e w1 ⟨rfl, hT⟩
        have HT := Lib.hid hT
        clear hT
        go_wp2_with fail
        go_ret
        exact ⟨by rw [HB.out, ← HD.out]; simp, HT.out⟩
      · have hz : (f == err) = false := by simpa using h2
        go_enter Try.func29, Try.ntmps29
        go_wp2_with fail
        refine HC.out.mono ?_
        rintro e w1 ⟨rfl, hT⟩
        have HT := Lib.hid hT
        clear hT
        go_wp2_with fail
        go_ret
        exact ⟨by rw [HB.out, ← HD.out]; simp [show ¬ err = f from fun e => h2 e.symm], HT.out⟩
    · have hz : (i == want) = false := by simpa using h1
      go_enter Try.func29, Try.ntmps29
      go_wp2_with fail
      refine HC.out.mono ?_
      rintro e w1 ⟨rfl, hT⟩
      have HT := Lib.hid hT
      clear hT
      go_wp2_with fail
      go_ret
      exact ⟨by rw [HB.out, ← HD.out]; simp [h1], HT.out⟩
  have hu := unlift16_c H hb
  rcases List.eq_nil_or_concat up with rfl | ⟨up0, i, rfl⟩
  · refine key 0 11 _ rfl ?_ (hu.mono ?_)
    · unfold unliftsB
      simp only [List.reverse_nil]
      congr 1
      rw [Bool.eq_iff_iff]; simp; exact eq_comm
    · rintro e w' (⟨_, rfl, hT⟩ | ⟨up0, i, h0, _⟩)
      · exact ⟨rfl, hT⟩
      · simp at h0
  · refine key i 0 _ rfl ?_ (hu.mono ?_)
    · unfold unliftsB
      simp
    · rintro e w' (⟨h0, _⟩ | ⟨up1, j, h0, rfl, hT⟩)
      · simp at h0
      · rw [List.concat_eq_append] at h0 ⊢
        obtain ⟨rfl, h1⟩ := List.append_inj' h0 rfl
        cases h1
        rw [List.dropLast_concat]
        exact ⟨rfl, hT⟩
end Go.Proofs.Ytjomjlodmelnbaa

/- Layer 16: the law's given list. No condition. -/
namespace Go.Proofs.Ytjomjlodmelnbaa
open Go.RowKit Go.Sort
attribute [local go_sem] Oper.semAt_some

def tFlat (l : List TRow) : List Value := l.flatMap TRow.cells
theorem tFlat_at : ∀ (l : List TRow) (i j : Nat) (h : i < l.length) (u : Value), l[i].cells[j]? = some u → (tFlat l)[i * 12 + j]? = some u
  | [], i, j, h, u, _ => by simp at h
  | r :: l, 0, j, h, u, hu => by
    unfold tFlat
    rw [List.flatMap_cons, List.getElem?_append_left]
    · simpa using hu
    · have := (List.getElem?_eq_some_iff.1 hu).1
      simpa using this
  | r :: l, i + 1, j, h, u, hu => by
    have h1 : r.cells.length = 12 := rfl
    have ih := tFlat_at l i j (by simpa using h) u (by simpa using hu)
    unfold tFlat at ih ⊢
    rw [List.flatMap_cons, List.getElem?_append_right (by omega), h1]
    have : (i + 1) * 12 + j - 12 = i * 12 + j := by omega
    rw [this]; exact ih
theorem RdT.new (w : World) (l : List TRow) (t : TypeId) (hl : l.length ≤ 1000) : RdT (w.alloc (.cells (tFlat l).toArray t)) (.slice (some ⟨w.heap.size, 0, none⟩) l.length l.length) l := by
  refine ⟨some ⟨w.heap.size, 0, none⟩, l.length, rfl, Nat.le_refl _, by unfold maxLen; omega, .inr ⟨w.heap.size, 0, rfl, by simp, fun i hi j v hj => ?_⟩⟩
  exact (BoxAt.new w (tFlat l).toArray t).at _ (by rw [List.getElem?_toArray]; have := tFlat_at l i j hi v hj; rwa [Nat.zero_add])
def given0 : List TRow := [rowOf 0 3 1, rowOf 1 0 0, rowOf 4 6 1, rowOf 5 0 2]
def rows0 : List ERow := eRows given0
def GivQ (base : Nat) (w : World) (rs : List ERow) (e : Ending) (w' : World) : Prop := Fr w w' ∧ ∃ x Z, e = .returned (Pt x) ∧ Lst base w' x rs [] Z ∧ ∀ b, Z b → w.heap.size ≤ b
set_option maxRecDepth 100000 in
set_option maxHeartbeats 4000000 in
theorem given16_c {base : Nat} (w : World) (hb : base ≤ w.heap.size) : Calls Try.prog 27 #[] w (GivQ base w rows0) := by
  have HR1 := Lib.hid (fun W => (show Calls Try.prog 30 #[.int .i64 0, .int .i64 3, .int .u8 1] W (fun e w' => e = .returned (.agg #[.int .u8 0, .int .u16 0, .int .u8 0, .int .u8 0, .int .u8 0, .int .u16 0, .int .u16 0, .int .u8 0, .int .u16 0, .int .u8 1, .int .i64 0, .int .i64 3]) ∧ Fr W w') from row16_c 0 3 1 W))
  have HR2 := Lib.hid (fun W => (show Calls Try.prog 30 #[.int .i64 1, .int .i64 0, .int .u8 0] W (fun e w' => e = .returned (.agg #[.int .u8 0, .int .u16 0, .int .u8 0, .int .u8 0, .int .u8 0, .int .u16 0, .int .u16 0, .int .u8 0, .int .u16 0, .int .u8 0, .int .i64 1, .int .i64 4611686018427387904]) ∧ Fr W w') from row16_c 1 0 0 W))
  have HR3 := Lib.hid (fun W => (show Calls Try.prog 30 #[.int .i64 4, .int .i64 6, .int .u8 1] W (fun e w' => e = .returned (.agg #[.int .u8 0, .int .u16 0, .int .u8 0, .int .u8 0, .int .u8 0, .int .u16 0, .int .u16 0, .int .u8 0, .int .u16 0, .int .u8 1, .int .i64 4, .int .i64 6]) ∧ Fr W w') from row16_c 4 6 1 W))
  have HR4 := Lib.hid (fun W => (show Calls Try.prog 30 #[.int .i64 5, .int .i64 0, .int .u8 2] W (fun e w' => e = .returned (.agg #[.int .u8 0, .int .u16 0, .int .u8 0, .int .u8 0, .int .u8 0, .int .u16 0, .int .u16 0, .int .u8 0, .int .u16 0, .int .u8 2, .int .i64 5, .int .i64 4611686018427387904]) ∧ Fr W w') from row16_c 5 0 2 W))
  have HN := Lib.hid (fun (W : World) (hb : base ≤ W.heap.size) => new16_c (base := base) given0 _ (W.alloc (.cells (tFlat given0).toArray 35)) (RdT.new W given0 35 (by decide)) (by decide) (by simp; omega))
  have HM : Hid (mayRows (eRows given0) = true) := by refine Lib.hid ?_; decide
  go_enter Try.func27, Try.ntmps27
  go_wp2_with fail
  refine (HR1.out _).mono ?_
  rintro e w1 ⟨rfl, hf1⟩
  go_wp2_with fail
  refine (HR2.out _).mono ?_
  rintro e w2 ⟨rfl, hf2⟩
  have hf2 := hf1.trans hf2
  clear hf1
  go_wp2_with fail
  refine (HR3.out _).mono ?_
  rintro e w3 ⟨rfl, hf3⟩
  have hf3 := hf2.trans hf3
  clear hf2
  go_wp2_with fail
  refine (HR4.out _).mono ?_
  rintro e w4 ⟨rfl, hf4⟩
  have hf4 := hf3.trans hf4
  clear hf3
  go_wp2_with fail
  refine (HN.out w4 (Nat.le_trans hb hf4.size)).mono ?_
  rintro e w5 ⟨hf5, ⟨h1, _⟩ | ⟨_, x, Z, rfl, hL, hZ⟩⟩
  · exact absurd (h1.symm.trans HM.out) (by decide)
  · have hF := (hf4.alloc _).trans hf5
    have hfin : Hid (Fr w w5 ∧ Lst base w5 x (eRows given0) [] Z ∧ ∀ b, Z b → w.heap.size ≤ b) := ⟨hF, hL, fun b h => by have := hZ b h; have := hf4.size; simp at *; omega⟩
    clear hL hZ hF hf5 hf4
    go_wp2_with fail
    go_ret
    exact ⟨hfin.out.1, x, Z, rfl, hfin.out.2⟩
end Go.Proofs.Ytjomjlodmelnbaa

/- Layer 16: the law's works. No condition. -/
namespace Go.Proofs.Ytjomjlodmelnbaa
open Go.RowKit Go.Sort
attribute [local go_sem] Oper.semAt_some

theorem behindOf_eq (rs : List ERow) (up : List Nat) (i : Int) : behindOf rs up i = if i < 0 then refTo rs up rs.length else if i.toNat < rs.length then (refTo rs up rs.length).filter (fun k => earlierB rs i.toNat k) else [] := by
  unfold behindOf
  rw [refTo_nexts]
  split
  · rfl
  · split
    · rename_i h; rw [nextsBehind_row rs up h]
    · rfl
theorem RdI.new (w : World) (l : List Nat) (t : TypeId) : RdI (w.alloc (.cells (l.map intV).toArray t)) (.slice (some ⟨w.heap.size, 0, none⟩) l.length l.length) l := by
  refine ⟨some ⟨w.heap.size, 0, none⟩, l.length, rfl, Nat.le_refl _, fun i hi => ⟨w.heap.size, 0, rfl, ?_⟩⟩
  exact (BoxAt.new w (l.map intV).toArray t).at _ (by simp [hi])
/-- Tells, of numbers that the law has just written down. -/
theorem tellsNew_c {base : Nat} {w : World} {x : Nat} {rs : List ERow} {up : List Nat} {Z : Nat → Prop} (H : Lst base w x rs up Z) (m : List Nat) (d : Bool) (h : decide (refTo rs up rs.length = m) = d) :
    Calls Try.prog 14 #[Pt x, .slice (some ⟨w.heap.size, 0, none⟩) m.length m.length] (w.alloc (.cells (m.map intV).toArray 3)) fun e w' => e = .returned (.bool d) ∧ Fr (w.alloc (.cells (m.map intV).toArray 3)) w' := by
  have := tells16_c (H.fr ((Fr.refl w).alloc _)).at_ _ m (RdI.new w m 3)
  rw [← refTo_nexts, h] at this
  exact this
theorem Turned.lst {base : Nat} {w0 w w' : World} {x : Nat} {rs : List ERow} {up : List Nat} {Z : Nat → Prop} (T : Turned base w w' x rs up Z) (f : Fr w0 w) (hz : ∀ b, Z b → w0.heap.size ≤ b) : Fr w0 w' ∧ ∃ Z', Lst base w' x rs up Z' ∧ (∀ b, Z' b → w0.heap.size ≤ b) := by
  obtain ⟨Z', h1, h2, h3⟩ := T
  refine ⟨h3.fr f hz, Z', h1, fun b hb => ?_⟩
  rcases h2 b hb with h | h
  · exact hz b h
  · exact Nat.le_trans f.size h
set_option maxRecDepth 100000 in
set_option maxHeartbeats 4000000 in
theorem works16_c (w : World) : Calls Try.prog 9 #[] w fun e w' => e = .returned (.bool true) ∧ Fr w w' := by
  have HG := Lib.hid (given16_c (base := w.heap.size) w (Nat.le_refl _))
  go_enter Try.func9, Try.ntmps9
  go_wp2_with fail
  refine HG.out.mono ?_
  rintro e w1 ⟨hf, x, Z, rfl, hL, hZ⟩
  have HL := Lib.hid hL
  have HZ := Lib.hid hZ
  clear hL hZ HG
  have HT := Lib.hid (tellsNew_c HL.out [0, 1] true (by decide))
  go_wp2_with fail
  refine HT.out.mono ?_
  rintro e w1 ⟨rfl, hf2⟩
  have hf3 := ((Fr.refl _).alloc _).trans hf2
  have HL := Lib.hid (HL.out.fr hf3)
  have hf := hf.trans hf3
  clear hf2 hf3 HT
  have HT := Lib.hid ((show Calls Try.prog 28 #[Pt x, .int .i64 0, .int .i64 1] _ (fun e w' => e = .returned (.bool true) ∧ Fr _ w') from by have h := behind16_c HL.out.at_ 0 1; rw [behindOf_eq] at h; exact h))
  go_wp2_with fail
  refine HT.out.mono ?_
  rintro e w1 ⟨rfl, hf2⟩
  have HL := Lib.hid (HL.out.fr hf2)
  have hf := hf.trans hf2
  clear hf2 HT
  have HT := Lib.hid ((show Calls Try.prog 12 #[Pt x, .int .i64 0] _ (fun e w' => e = .returned (.int .i64 0) ∧ Turned w.heap.size _ w' x rows0 [0] Z) from lift16_c HL.out hf.size 0))
  go_wp2_with fail
  refine HT.out.mono ?_
  rintro e w1 ⟨rfl, hT⟩
  obtain ⟨hf, Z, hL, hZ⟩ := Turned.lst hT hf HZ.out
  have HL := Lib.hid (show Lst w.heap.size _ x rows0 [0] Z from hL)
  have HZ := Lib.hid hZ
  clear hT hL hZ HT
  have HT := Lib.hid (tellsNew_c HL.out [1, 2, 3] true (by decide))
  go_wp2_with fail
  refine HT.out.mono ?_
  rintro e w1 ⟨rfl, hf2⟩
  have hf3 := ((Fr.refl _).alloc _).trans hf2
  have HL := Lib.hid (HL.out.fr hf3)
  have hf := hf.trans hf3
  clear hf2 hf3 HT
  have HT := Lib.hid ((show Calls Try.prog 13 #[Pt x] _ (fun e w' => e = .returned (.bool false) ∧ Fr _ w') from whole_c HL.out.at_))
  go_wp2_with fail
  refine HT.out.mono ?_
  rintro e w1 ⟨rfl, hf2⟩
  have HL := Lib.hid (HL.out.fr hf2)
  have hf := hf.trans hf2
  clear hf2 HT
  have HT := Lib.hid ((show Calls Try.prog 29 #[Pt x, .int .i64 0, .int .i64 0] _ (fun e w' => e = .returned (.bool true) ∧ Turned w.heap.size _ w' x rows0 [] Z) from unlifts16_c HL.out hf.size 0 0))
  go_wp2_with fail
  refine HT.out.mono ?_
  rintro e w1 ⟨rfl, hT⟩
  obtain ⟨hf, Z, hL, hZ⟩ := Turned.lst hT hf HZ.out
  have HL := Lib.hid (show Lst w.heap.size _ x rows0 [] Z from hL)
  have HZ := Lib.hid hZ
  clear hT hL hZ HT
  have HT := Lib.hid (tellsNew_c HL.out [0, 1] true (by decide))
  go_wp2_with fail
  refine HT.out.mono ?_
  rintro e w1 ⟨rfl, hf2⟩
  have hf3 := ((Fr.refl _).alloc _).trans hf2
  have HL := Lib.hid (HL.out.fr hf3)
  have hf := hf.trans hf3
  clear hf2 hf3 HT
  go_wp2_with fail
  go_ret
  exact ⟨rfl, hf⟩
end Go.Proofs.Ytjomjlodmelnbaa

/- Layer 16: receivers that New has not made. No condition but that the receiver is nil, or its head is. -/
namespace Go.Proofs.Ytjomjlodmelnbaa
open Go.RowKit Go.Sort
attribute [local go_sem] Oper.semAt_some

def Dead (w : World) (p : Option Addr) : Prop := p = none ∨ ∃ b, p = some ⟨b, 0, none⟩ ∧ w.cell? ⟨b, 0, none⟩ = some (.pointer none)
theorem Dead.fr {w w' : World} {p : Option Addr} (h : Dead w p) (f : Fr w w') : Dead w' p := h.imp id fun ⟨b, h1, h2⟩ => ⟨b, h1, f.keep h2⟩
set_option maxRecDepth 100000 in
theorem isDead_c {p : Option Addr} (w : World) (H : Dead w p) : Calls Try.prog 36 #[.pointer p] w fun e w' => e = .returned (.bool false) ∧ Fr w w' := by
  rcases H with rfl | ⟨b, rfl, h⟩
  · go_enter Try.func36, Try.ntmps36
    go_wp2
    go_ret
    exact ⟨rfl, Fr.refl _⟩
  · have hl := lt_of_cell h
    simp only at hl
    go_enter Try.func36, Try.ntmps36
    go_wp2
    go_ret
    exact ⟨rfl, Fr.refl _⟩
set_option maxRecDepth 100000 in
theorem callsDead_c {p : Option Addr} (w : World) (H : Dead w p) (place : Int) : Calls Try.prog 41 #[.pointer p, .int .i64 place] w (IntsP w []) := by
  have HI := Lib.hid (isDead_c w H)
  go_enter Try.func41, Try.ntmps41
  go_wp2_with fail
  refine HI.out.mono ?_
  rintro e w1 ⟨rfl, hf⟩
  go_wp2_with fail
  go_ret
  exact ⟨_, rfl, World.ownsRow_nil _ _ _ _, hf⟩
set_option maxRecDepth 100000 in
theorem atDead_c {p : Option Addr} (w : World) (H : Dead w p) (i : Int) : Calls Try.prog 34 #[.pointer p, .int .i64 i] w fun e w' => e = .returned (.tuple #[.pointer none, .int .i64 1]) ∧ Fr w w' := by
  have HI := Lib.hid (isDead_c w H)
  go_enter Try.func34, Try.ntmps34
  go_wp2_with fail
  refine HI.out.mono ?_
  rintro e w1 ⟨rfl, hf⟩
  go_wp2_with fail
  go_ret2
  exact ⟨rfl, hf⟩
set_option maxRecDepth 100000 in
theorem liftDead_c {p : Option Addr} (w : World) (H : Dead w p) (i : Int) : Calls Try.prog 12 #[.pointer p, .int .i64 i] w fun e w' => e = .returned (.int .i64 1) ∧ Fr w w' := by
  have HI := Lib.hid (atDead_c w H i)
  go_enter Try.func12, Try.ntmps12
  go_wp2_with fail
  refine HI.out.mono ?_
  rintro e w1 ⟨rfl, hf⟩
  go_wp2_with fail
  go_ret
  exact ⟨rfl, hf⟩
set_option maxRecDepth 100000 in
theorem unliftDead_c {p : Option Addr} (w : World) (H : Dead w p) : Calls Try.prog 26 #[.pointer p] w fun e w' => e = .returned (.tuple #[.int .i64 0, .int .i64 1]) ∧ Fr w w' := by
  have HI := Lib.hid (isDead_c w H)
  go_enter Try.func26, Try.ntmps26
  go_wp2_with fail
  refine HI.out.mono ?_
  rintro e w1 ⟨rfl, hf⟩
  go_wp2_with fail
  go_ret2
  exact ⟨rfl, hf⟩
set_option maxRecDepth 100000 in
theorem behindDead_c {p : Option Addr} (w : World) (H : Dead w p) : Calls Try.prog 24 #[.pointer p, .int .i64 (-1)] w fun e w' => e = .returned (firstOf []) ∧ Fr w w' := by
  have HC := Lib.hid (callsDead_c w H (-1))
  go_enter Try.func24, Try.ntmps24
  go_wp2_with fail
  refine HC.out.mono ?_
  rintro e w1 ⟨v, rfl, hO, hf⟩
  obtain ⟨a, cap, rfl, hcap, hrow⟩ := ints_form hO
  clear hO hrow
  go_wp2_with fail
  go_loopw [29] (fun i wr => i = .int .i64 0 ∧ Fr w wr) (fun _ _ => 0)
  case atStart => exact ⟨rfl, hf⟩
  case round =>
    obtain ⟨rfl, hfr⟩ := hrel
    go_wp2_with fail
    go_ret2
    exact ⟨rfl, hfr⟩
set_option maxRecDepth 100000 in
theorem liftedDead_c {p : Option Addr} (w : World) (H : Dead w p) (i : Int) : Calls Try.prog 22 #[.pointer p, .int .i64 i] w fun e w' => e = .returned (.bool false) ∧ Fr w w' := by
  have HI := Lib.hid (atDead_c w H i)
  go_enter Try.func22, Try.ntmps22
  go_wp2_with fail
  refine HI.out.mono ?_
  rintro e w1 ⟨rfl, hf⟩
  go_wp2_with fail
  go_ret
  exact ⟨rfl, hf⟩
set_option maxRecDepth 100000 in
theorem countDead_c {p : Option Addr} (w : World) (H : Dead w p) : Calls Try.prog 15 #[.pointer p] w fun e w' => e = .returned (.int .i64 0) ∧ Fr w w' := by
  have HI := Lib.hid (isDead_c w H)
  go_enter Try.func15, Try.ntmps15
  go_wp2_with fail
  refine HI.out.mono ?_
  rintro e w1 ⟨rfl, hf⟩
  go_wp2_with fail
  go_ret
  exact ⟨rfl, hf⟩
set_option maxRecDepth 100000 in
theorem wholeDead_c {p : Option Addr} (w : World) (H : Dead w p) : Calls Try.prog 13 #[.pointer p] w fun e w' => e = .returned (.bool false) ∧ Fr w w' := by
  have HI := Lib.hid (isDead_c w H)
  go_enter Try.func13, Try.ntmps13
  go_wp2_with fail
  refine HI.out.mono ?_
  rintro e w1 ⟨rfl, hf⟩
  go_wp2_with fail
  go_ret
  exact ⟨rfl, hf⟩
theorem tellsDead_c {p : Option Addr} (w : World) (H : Dead w p) : Calls Try.prog 14 #[.pointer p, .slice none 0 0] w fun e w' => e = .returned (.bool true) ∧ Fr w w' :=
  tellsV_c p [] (by simp) (nextV_c p [] (by simp) fun W f => callsDead_c W (H.fr f) (-1)) _ [] ⟨none, 0, rfl, by simp, fun i hi => by simp at hi⟩
theorem unliftsDead_c {p : Option Addr} (w : World) (H : Dead w p) : Calls Try.prog 29 #[.pointer p, .int .i64 0, .int .i64 1] w fun e w' => e = .returned (.bool true) ∧ Fr w w' := by
  have HU := Lib.hid (unliftDead_c w H)
  go_enter Try.func29, Try.ntmps29
  go_wp2_with fail
  refine HU.out.mono ?_
  rintro e w1 ⟨rfl, hf⟩
  go_wp2_with fail
  go_ret
  exact ⟨rfl, hf⟩
theorem behindsDead_c {p : Option Addr} (w : World) (H : Dead w p) : Calls Try.prog 28 #[.pointer p, .int .i64 (-1), .int .i64 (-1)] w fun e w' => e = .returned (.bool true) ∧ Fr w w' :=
  behindV_c p [] (-1) (-1) (behindDead_c w H)
end Go.Proofs.Ytjomjlodmelnbaa

/- Layer 16: EntriesBack: two lists beside each other; what is lifted in whatever order. No condition but what each says. -/
namespace Go.Proofs.Ytjomjlodmelnbaa
open Go.RowKit Go.Sort
attribute [local go_sem] Oper.semAt_some

theorem nexts_congr {rs : List ERow} {u v : List Nat} (h : ∀ i, i ∈ u ↔ i ∈ v) : nexts rs u = nexts rs v := by
  refine sorted_ext (nexts_sorted rs u) (nexts_sorted rs v) fun i => ?_
  rw [mem_nexts, mem_nexts]
  unfold isNext
  constructor
  · rintro ⟨h1, h2, h3⟩; exact ⟨fun e => h1 ((h i).2 e), h2, fun k hk hu => h3 k hk fun e => hu ((h k).1 e)⟩
  · rintro ⟨h1, h2, h3⟩; exact ⟨fun e => h1 ((h i).1 e), h2, fun k hk hu => h3 k hk fun e => hu ((h k).2 e)⟩
theorem leftOf_congr {rs : List ERow} {u v : List Nat} (h : ∀ i, i ∈ u ↔ i ∈ v) : leftOf rs u = leftOf rs v := by
  unfold leftOf
  have e : ∀ i, u.contains i = v.contains i := fun i => by rw [Bool.eq_iff_iff]; simpa using h i
  simp only [e]
theorem len_congr {u v : List Nat} (hu : u.Nodup) (hv : v.Nodup) (h : ∀ i, i ∈ u ↔ i ∈ v) : u.length = v.length := ((List.perm_ext_iff_of_nodup hu hv).2 h).length_eq
/-- What is lifted when these numbers' rows are, counted round. -/
def upsOf (n : Nat) : List Nat → List Nat
  | [] => []
  | b :: l => if b % n ∈ upsOf n l then upsOf n l else upsOf n l ++ [b % n]
/-- One more number, behind the others. -/
def ups (n : Nat) (l : List Nat) : List Nat := upsOf n l.reverse
theorem ups_nil (n : Nat) : ups n [] = [] := rfl
theorem ups_snoc' (n : Nat) (l : List Nat) (b : Nat) : ups n (l ++ [b]) = if b % n ∈ ups n l then ups n l else ups n l ++ [b % n] := by
  unfold ups
  rw [List.reverse_append]
  rfl
theorem mem_upsOf {n : Nat} : ∀ {l : List Nat} {i : Nat}, i ∈ upsOf n l ↔ ∃ b ∈ l, i = b % n
  | [], i => by simp [upsOf]
  | b :: l, i => by
    unfold upsOf
    split
    · rename_i h
      rw [mem_upsOf]
      constructor
      · rintro ⟨c, hc, e⟩; exact ⟨c, List.mem_cons_of_mem _ hc, e⟩
      · rintro ⟨c, hc, e⟩
        rcases List.mem_cons.1 hc with rfl | hc
        · rw [e]; exact mem_upsOf.1 h
        · exact ⟨c, hc, e⟩
    · rw [List.mem_append, mem_upsOf, List.mem_singleton]
      constructor
      · rintro (⟨c, hc, e⟩ | e)
        · exact ⟨c, List.mem_cons_of_mem _ hc, e⟩
        · exact ⟨b, List.mem_cons_self, e⟩
      · rintro ⟨c, hc, e⟩
        rcases List.mem_cons.1 hc with rfl | hc
        · exact .inr e
        · exact .inl ⟨c, hc, e⟩
theorem upsOf_nodup (n : Nat) : ∀ l, (upsOf n l).Nodup
  | [] => by simp [upsOf]
  | b :: l => by
    unfold upsOf
    split
    · exact upsOf_nodup n l
    · rename_i h
      rw [List.nodup_append]
      exact ⟨upsOf_nodup n l, by simp, fun a ha c hc => by rw [List.mem_singleton] at hc; subst hc; rintro rfl; exact h ha⟩
theorem ups_rev (n : Nat) (l : List Nat) (i : Nat) : i ∈ ups n l ↔ i ∈ ups n l.reverse := by
  unfold ups
  rw [mem_upsOf, mem_upsOf]
  simp
theorem liftOf_mod {rs : List ERow} (hn : 0 < rs.length) (l : List Nat) (b : Nat) : liftOf rs (ups rs.length l) ((b : Int) % (rs.length : Int)) = ((if b % rs.length ∈ ups rs.length l then 8 else 0), ups rs.length (l ++ [b])) := by
  have e : ((b : Int) % (rs.length : Int)) = ((b % rs.length : Nat) : Int) := by simp
  have h1 := Nat.mod_lt b hn
  unfold liftOf
  rw [e, if_pos (by omega), Int.toNat_natCast, ups_snoc']
  split <;> rfl
/-- Two lists beside each other, and numbers that are kept. -/
def Two (w0 w : World) (x y : Nat) (rs : List ERow) (ux uy : List Nat) (v : Value) (L : List Nat) : Prop := ∃ Zx Zy, Fr w0 w ∧ Lst w0.heap.size w x rs ux Zx ∧ Lst w0.heap.size w y rs uy Zy ∧ (∀ b, Zx b → ¬ Zy b) ∧ w.ownsRow w0.heap.size 3 1 v L.length (L.map intV) ∧ ∀ g, v.ownBlock = some g → ¬ Zx g ∧ ¬ Zy g
theorem Two.fr {w0 w w' : World} {x y : Nat} {rs : List ERow} {ux uy : List Nat} {v : Value} {L : List Nat} (H : Two w0 w x y rs ux uy v L) (f : Fr w w') : Two w0 w' x y rs ux uy v L := by
  obtain ⟨Zx, Zy, h1, h2, h3, h4, h5, h6⟩ := H
  exact ⟨Zx, Zy, h1.trans f, h2.fr f, h3.fr f, h4, ownsRow_kept2 h5 fun g hg => f.block (World.ownsRow.lt h5 g hg).2, h6⟩
theorem Two.swap {w0 w : World} {x y : Nat} {rs : List ERow} {ux uy : List Nat} {v : Value} {L : List Nat} (H : Two w0 w x y rs ux uy v L) : Two w0 w y x rs uy ux v L := by
  obtain ⟨Zx, Zy, h1, h2, h3, h4, h5, h6⟩ := H
  exact ⟨Zy, Zx, h1, h3, h2, fun b hb hc => h4 b hc hb, h5, fun g hg => ⟨(h6 g hg).2, (h6 g hg).1⟩⟩
theorem Two.turn {w0 w : World} {x y : Nat} {rs : List ERow} {ux uy : List Nat} {v : Value} {L : List Nat} {f : FuncId} {args : Array Value} {R : Ending → Prop} {u' : List Nat} (H : Two w0 w x y rs ux uy v L)
    (h : ∀ Z, Lst w0.heap.size w x rs ux Z → w0.heap.size ≤ w.heap.size → Calls Try.prog f args w fun e w' => R e ∧ Turned w0.heap.size w w' x rs u' Z) :
    Calls Try.prog f args w fun e w' => R e ∧ Two w0 w' x y rs u' uy v L := by
  obtain ⟨Zx, Zy, h1, h2, h3, h4, h5, h6⟩ := H
  refine (h Zx h2 h1.size).mono ?_
  rintro e w' ⟨hR, Z', g1, g2, g3⟩
  refine ⟨hR, Z', Zy, g3.fr h1 (fun b hb => h2.ge b hb), g1, h3.keep g3 (fun b hb hx => h4 b hx hb), fun b hb hy => ?_, ownsRow_kept2 h5 fun g hg => g3.block g (World.ownsRow.lt h5 g hg).2 (h6 g hg).1, fun g hg => ⟨fun hz => ?_, (h6 g hg).2⟩⟩
  · rcases g2 b hb with h | h
    · exact h4 b h hy
    · have := h3.lt b hy; omega
  · rcases g2 g hz with h | h
    · exact (h6 g hg).1 h
    · have := (World.ownsRow.lt h5 g hg).2; omega
/-- A Lift of the first one. -/
theorem twoLift_c {w0 w : World} {x y : Nat} {rs : List ERow} {ux uy : List Nat} {v : Value} {L : List Nat} (H : Two w0 w x y rs ux uy v L) (i : Int) :
    Calls Try.prog 12 #[Pt x, .int .i64 i] w fun e w' => e = .returned (.int .i64 ((liftOf rs ux i).1 : Nat)) ∧ Two w0 w' x y rs (liftOf rs ux i).2 uy v L :=
  H.turn (R := fun e => e = .returned (.int .i64 ((liftOf rs ux i).1 : Nat))) fun _ hL hb => lift16_c hL hb i
/-- An Unlift of the first one. -/
theorem twoUnlift_c {w0 w : World} {x y : Nat} {rs : List ERow} {ux uy : List Nat} {i : Nat} {v : Value} {L : List Nat} (H : Two w0 w x y rs (ux ++ [i]) uy v L) :
    Calls Try.prog 26 #[Pt x] w fun e w' => e = .returned (.tuple #[.int .i64 (i : Nat), .int .i64 0]) ∧ Two w0 w' x y rs ux uy v L :=
  H.turn (R := fun e => e = .returned (.tuple #[.int .i64 (i : Nat), .int .i64 0])) fun _ hL hb => (unlift16_c hL hb).mono fun e w' h => by
    rcases h with ⟨h0, _⟩ | ⟨up0, j, h0, h1, h2⟩
    · simp at h0
    · obtain ⟨rfl, h3⟩ := List.append_inj' h0 rfl
      cases h3
      exact ⟨h1, h2⟩
end Go.Proofs.Ytjomjlodmelnbaa

/- umpirelaw16.EntriesBack: the law's walk. No condition but how many rows there are. -/
namespace Go.Proofs.Ytjomjlodmelnbaa
open Go.RowKit Go.Sort
attribute [local go_sem] Oper.semAt_some

/-- Bytes that can be read. -/
def RdU (w : World) (v : Value) (l : List Nat) : Prop := ∃ a cap, v = .slice a l.length cap ∧ l.length ≤ cap ∧ (∀ b ∈ l, b < 256) ∧ ∀ i (hi : i < l.length), ∃ g o, a = some ⟨g, o, none⟩ ∧ w.cell? ⟨g, o + i, none⟩ = some (.int .u8 (l[i] : Nat))
theorem RdU.fr {w w' : World} {v : Value} {l : List Nat} (h : RdU w v l) (f : Fr w w') : RdU w' v l := by
  obtain ⟨a, cap, h1, h2, h0, h3⟩ := h
  refine ⟨a, cap, h1, h2, h0, fun i hi => ?_⟩
  obtain ⟨g, o, h4, h5⟩ := h3 i hi
  exact ⟨g, o, h4, f.keep h5⟩
theorem newAny_c (l : List TRow) (v : Value) (w : World) (hl : RdT w v l) (hn : l.length ≤ 3518437208780) : Calls Try.prog 8 #[v] w fun e w' => ∃ p, e = .returned (.pointer p) ∧ Fr w w' := by
  refine (new16_c (base := 0) l v w hl hn (Nat.zero_le _)).mono ?_
  rintro e w' ⟨hf, ⟨_, rfl⟩ | ⟨_, x, Z, rfl, _⟩⟩
  · exact ⟨_, rfl, hf⟩
  · exact ⟨_, rfl, hf⟩
theorem newNo_c (l : List TRow) (v : Value) (w : World) (hl : RdT w v l) (hn : l.length ≤ 3518437208780) (hm : mayRows (eRows l) = false) : Calls Try.prog 8 #[v] w fun e w' => e = .returned (.pointer none) ∧ Fr w w' := by
  refine (new16_c (base := 0) l v w hl hn (Nat.zero_le _)).mono ?_
  rintro e w' ⟨hf, ⟨_, rfl⟩ | ⟨h, _⟩⟩
  · exact ⟨rfl, hf⟩
  · rw [hm] at h; cases h
theorem newYes_c {base : Nat} (l : List TRow) (v : Value) (w : World) (hl : RdT w v l) (hn : l.length ≤ 3518437208780) (hm : mayRows (eRows l) = true) (hb : base ≤ w.heap.size) : Calls Try.prog 8 #[v] w (GivQ base w (eRows l)) := by
  refine (new16_c l v w hl hn hb).mono ?_
  rintro e w' ⟨hf, ⟨h, _⟩ | ⟨_, x, Z, rfl, hL, hZ⟩⟩
  · rw [hm] at h; cases h
  · exact ⟨hf, x, Z, rfl, hL, hZ⟩
set_option maxRecDepth 100000 in
set_option maxHeartbeats 8000000 in
theorem backOff_c (l : List TRow) (v : Value) (cs : List Nat) (u : Value) (w : World) (hl : RdT w v l) (hn : l.length ≤ 3518437208780) (hu : RdU w u cs) (h : 20 < l.length ∨ 20 < cs.length ∨ mayRows (eRows l) = false ∨ l = []) :
    Calls Try.prog 6 #[v, u] w fun e w' => e = .returned (.bool true) ∧ Fr w w' := by
  have HW := Lib.hid (fun W => works16_c W)
  have HN := Lib.hid (fun (W : World) (f : Fr w W) => newAny_c l v W (hl.keep f) hn)
  have HM := Lib.hid (fun (hm : mayRows (eRows l) = false) (W : World) (f : Fr w W) => newNo_c l v W (hl.keep f) hn hm)
  have HY := Lib.hid (fun (hm : mayRows (eRows l) = true) (W : World) (f : Fr w W) => newYes_c (base := 0) l v W (hl.keep f) hn hm (Nat.zero_le _))
  obtain ⟨a, cap, rfl, hcap, hmax, _⟩ := id hl
  obtain ⟨b, cb, rfl, hcb, _⟩ := id hu
  unfold maxLen at hmax
  clear hl hu
  by_cases h1 : 20 < l.length
  · have h1i : (20 : Int) < (l.length : Int) := by omega
    clear h HM
    go_enter Try.func6, Try.ntmps6
    go_wp2_with fail
    refine (HN.out _ (Fr.refl _)).mono ?_
    rintro e w1 ⟨p, rfl, hf1⟩
    go_wp2_with fail
    refine (HN.out _ hf1).mono ?_
    rintro e w2 ⟨p2, rfl, hf2⟩
    have hf := hf1.trans hf2
    clear hf1 hf2
    go_wp2_with fail
    refine (HW.out _).mono ?_
    rintro e w3 ⟨rfl, hf3⟩
    go_wp2_with fail
    go_ret
    exact ⟨rfl, hf.trans hf3⟩
  · have h1i : ¬ (20 : Int) < (l.length : Int) := by omega
    by_cases h2 : 20 < cs.length
    · have h2i : (20 : Int) < (cs.length : Int) := by omega
      clear h HM
      go_enter Try.func6, Try.ntmps6
      go_wp2_with fail
      refine (HN.out _ (Fr.refl _)).mono ?_
      rintro e w1 ⟨p, rfl, hf1⟩
      go_wp2_with fail
      refine (HN.out _ hf1).mono ?_
      rintro e w2 ⟨p2, rfl, hf2⟩
      have hf := hf1.trans hf2
      clear hf1 hf2
      go_wp2_with fail
      refine (HW.out _).mono ?_
      rintro e w3 ⟨rfl, hf3⟩
      go_wp2_with fail
      go_ret
      exact ⟨rfl, hf.trans hf3⟩
    · have h2i : ¬ (20 : Int) < (cs.length : Int) := by omega
      by_cases h3 : mayRows (eRows l) = false
      · have HM2 := Lib.hid (HM.out h3)
        clear h HM
        go_enter Try.func6, Try.ntmps6
        go_wp2_with fail
        refine (HM2.out _ (Fr.refl _)).mono ?_
        rintro e w1 ⟨rfl, hf1⟩
        go_wp2_with fail
        refine (HN.out _ hf1).mono ?_
        rintro e w2 ⟨p2, rfl, hf2⟩
        have hf := hf1.trans hf2
        clear hf1 hf2
        go_wp2_with fail
        refine (HW.out _).mono ?_
        rintro e w3 ⟨rfl, hf3⟩
        go_wp2_with fail
        go_ret
        exact ⟨rfl, hf.trans hf3⟩
      · obtain rfl : l = [] := by rcases h with h | h | h | h <;> first | contradiction | exact h
        have HY2 := Lib.hid (HY.out rfl)
        clear h HM HY
        go_enter Try.func6, Try.ntmps6
        go_wp2_with fail
        refine (HY2.out _ (Fr.refl _)).mono ?_
        rintro e w1 ⟨hf1, x, Z, rfl, _⟩
        go_wp2_with fail
        refine (HN.out _ hf1).mono ?_
        rintro e w2 ⟨p2, rfl, hf2⟩
        have hf := hf1.trans hf2
        clear hf1 hf2
        go_wp2_with fail
        refine (HW.out _).mono ?_
        rintro e w3 ⟨rfl, hf3⟩
        go_wp2_with fail
        go_ret
        exact ⟨rfl, hf.trans hf3⟩
end Go.Proofs.Ytjomjlodmelnbaa

/- umpirelaw16.EntriesBack: the law's walk, where it does not only ask works. No condition but how many rows there are. -/
namespace Go.Proofs.Ytjomjlodmelnbaa
open Go.RowKit Go.Sort
attribute [local go_sem] Oper.semAt_some

theorem ints_at {w : World} {base : Nat} {v : Value} {l : List Nat} (h : w.ownsRow base 3 1 v l.length (l.map intV)) : ∃ a c, v = .slice a l.length c := by
  obtain ⟨a, c, h1, _⟩ := ints_form h
  exact ⟨a, c, h1⟩
set_option maxRecDepth 100000 in
set_option maxHeartbeats 16000000 in
theorem backOn_c (l : List TRow) (v : Value) (cs : List Nat) (u : Value) (w : World) (hl : RdT w v l) (hn : l.length ≤ 20) (hu : RdU w u cs) (hc : cs.length ≤ 20) (hm : mayRows (eRows l) = true) (h0 : l ≠ []) :
    Calls Try.prog 6 #[v, u] w fun e w' => e = .returned (.bool true) ∧ Fr w w' := by
  have HW := Lib.hid (fun W => works16_c W)
  have HY := Lib.hid (fun (W : World) (f : Fr w W) => newYes_c (base := w.heap.size) l v W (hl.keep f) (by omega) hm f.size)
  have HU := Lib.hid hu
  have hlen := eRows_len l
  obtain ⟨a, cap, rfl, hcap, hmax, _⟩ := id hl
  unfold maxLen at hmax
  have hl0 : 0 < l.length := List.length_pos_iff.2 h0
  obtain ⟨n, hn'⟩ : ∃ n, n = l.length := ⟨_, rfl⟩
  rw [← hn'] at hn hlen hcap hl0 HY ⊢
  generalize eRows l = rs at HY hlen
  clear hl hm h0 hn'
  subst hlen
  obtain ⟨b, cb, rfl, hcb, _⟩ := id hu
  clear hu
  have h1i : ¬ (20 : Int) < (rs.length : Int) := by omega
  have h2i : ¬ (20 : Int) < (cs.length : Int) := by omega
  have h3i : ((rs.length : Int) == 0) = false := by rw [beqN0]; exact decide_eq_false (by omega)
  go_enter Try.func6, Try.ntmps6
  go_wp2_with fail
  refine (HY.out _ (Fr.refl _)).mono ?_
  rintro e w1 ⟨hf1, x, Zx, rfl, hLx, hZx⟩
  have HLx := Lib.hid hLx
  have HLT := Lib.hid hLx.lt
  clear hLx hZx
  go_wp2_with fail
  refine (HY.out _ hf1).mono ?_
  rintro e w2 ⟨hf2, y, Zy, rfl, hLy, hZy⟩
  have HLx := Lib.hid (HLx.out.fr hf2)
  have hdis : ∀ b, Zx b → ¬ Zy b := fun b hb hc => by have h1 := HLT.out b hb; have h2 := hZy b hc; omega
  have HLy := Lib.hid hLy
  have hf := hf1.trans hf2
  have HN := Lib.hid (next_c HLx.out.at_)
  clear hLy hZy hf1
  go_wp2_with fail
  refine HN.out.mono ?_
  rintro e w3 ⟨v1, rfl, hO, hf3⟩
  have HT : Hid (Two w w3 x y rs [] [] v1 (nexts rs [])) := ⟨Zx, Zy, hf.trans hf3, HLx.out.fr hf3, HLy.out.fr hf3, hdis, ownsRow_base hO hf.size, fun g hg => ⟨fun hz => by have h1 := HLx.out.lt g hz; have h2 := (World.ownsRow.lt hO g hg).1; omega, fun hz => by have h1 := HLy.out.lt g hz; have h2 := (World.ownsRow.lt hO g hg).1; omega⟩⟩
  obtain ⟨va, vc, rfl⟩ := ints_at hO
  clear HLx HLy HN hO hf hf2 hf3 hdis
  go_wp2_with fail
  go_loopw [9, 10] (fun vn vi wr => ∃ k : Nat, k ≤ cs.length ∧ vn = .int .i64 (ups rs.length (cs.take k)).length ∧ vi = .int .i64 k ∧ Hid (Two w wr x y rs (ups rs.length (cs.take k)) (ups rs.length (cs.reverse.take k)) (.slice va (nexts rs []).length vc) (nexts rs []))) (fun _ vi _ => cs.length - (intOf vi).toNat)
  case atStart => exact ⟨0, Nat.zero_le _, rfl, rfl, HT⟩
  case round =>
    clear HT
    obtain ⟨k, hk, rfl, rfl, HT⟩ := hrel
    by_cases hlt : k < cs.length
    · obtain ⟨hub, hcell⟩ := (show (∀ b ∈ cs, b < 256) ∧ _ from by obtain ⟨_, _, h1, _, h2, h3⟩ := HU.out; cases h1; exact ⟨h2, h3⟩)
      obtain ⟨g, o, rfl, hg⟩ := hcell k hlt
      have hfr := HT.out.choose_spec.choose_spec.1
      have hg := hfr.keep hg
      have lg := lt_of_cell hg
      simp only at lg
      have h256 := hub cs[k] (List.getElem_mem hlt)
      have htk : cs.take k ++ [cs[k]] = cs.take (k + 1) := (List.take_succ_eq_append_getElem hlt).symm
      have hli := twoLift_c HT.out ((cs[k] : Int) % (rs.length : Int))
      rw [liftOf_mod hl0, htk] at hli
      have hsn := ups_snoc' rs.length (cs.take k) cs[k]
      rw [htk] at hsn
      have hj : cs.length - 1 - k < cs.length := by omega
      obtain ⟨g', o', hgo, hg2⟩ := hcell (cs.length - 1 - k) hj
      cases hgo
      have hg2 := hg2
      have hrev : cs.reverse.take k ++ [cs[cs.length - 1 - k]] = cs.reverse.take (k + 1) := by
        rw [List.take_succ_eq_append_getElem (by simpa using hlt), List.getElem_reverse]
      have h256' := hub cs[cs.length - 1 - k] (List.getElem_mem hj)
      have hjl : (cs.length : Int) - 1 - (k : Int) < cs.length := by omega
      have hjn : ((cs.length : Int) - 1 - (k : Int)).toNat = cs.length - 1 - k := by omega
      clear hcell hub htk
      generalize cs[cs.length - 1 - k] = d at *
      generalize cs[k] = c at *
      have HLI := Lib.hid hli
      have HSN := Lib.hid hsn
      have HRV := Lib.hid hrev
      have HG2 := Lib.hid hg2
      clear hli hsn hrev hg2
      by_cases hm : c % rs.length ∈ ups rs.length (cs.take k)
      · have HLI2 : Hid (Calls Try.prog 12 #[Pt x, .int .i64 ((c : Int) % (rs.length : Int))] wr fun e w' => e = .returned (.int .i64 8) ∧ Two w w' x y rs (ups rs.length (cs.take (k + 1))) (ups rs.length (cs.reverse.take k)) (.slice va (nexts rs []).length vc) (nexts rs [])) := by
          have := HLI.out
          rw [if_pos hm] at this
          exact this
        have hle := HSN.out
        rw [if_pos hm] at hle
        have HLE := Lib.hid (congrArg List.length hle)
        clear HLI HSN hle hm
        go_wp2_with fail
        refine HLI2.out.mono ?_
        rintro e w5 ⟨rfl, hT5⟩
        have HT5 := Lib.hid hT5
        clear hT5 HT HLI2 hg hfr
        have hfr5 := HT5.out.choose_spec.choose_spec.1
        have hg2 := hfr5.keep HG2.out
        have lg2 := lt_of_cell hg2
        simp only at lg2
        have hly := twoLift_c HT5.out.swap ((d : Int) % (rs.length : Int))
        rw [liftOf_mod hl0, HRV.out] at hly
        have HLY := Lib.hid hly
        clear hly
        go_wp2_with fail
        refine HLY.out.mono ?_
        rintro e w6 ⟨rfl, hT6⟩
        have HT6 := Lib.hid hT6.swap
        clear hT6 HT5 HLY
        go_wp2_with fail
        go_roundw
        case rel => exact ⟨k + 1, by omega, by rw [HLE.out], by go_num, HT6⟩
        case measure => simp [intOf]; omega
      · have HLI2 : Hid (Calls Try.prog 12 #[Pt x, .int .i64 ((c : Int) % (rs.length : Int))] wr fun e w' => e = .returned (.int .i64 0) ∧ Two w w' x y rs (ups rs.length (cs.take (k + 1))) (ups rs.length (cs.reverse.take k)) (.slice va (nexts rs []).length vc) (nexts rs [])) := by
          have := HLI.out
          rw [if_neg hm] at this
          exact this
        have hle := HSN.out
        rw [if_neg hm] at hle
        have HLE := Lib.hid (congrArg List.length hle)
        have hul : (ups rs.length (cs.take k)).length ≤ 20 := Nat.le_trans (nodup_len_le HT.out.choose_spec.choose_spec.2.1.ups.1 HT.out.choose_spec.choose_spec.2.1.ups.2) hn
        clear HLI HSN hle hm
        go_wp2_with fail
        refine HLI2.out.mono ?_
        rintro e w5 ⟨rfl, hT5⟩
        have HT5 := Lib.hid hT5
        clear hT5 HT HLI2 hg hfr
        have hfr5 := HT5.out.choose_spec.choose_spec.1
        have hg2 := hfr5.keep HG2.out
        have lg2 := lt_of_cell hg2
        simp only at lg2
        have hly := twoLift_c HT5.out.swap ((d : Int) % (rs.length : Int))
        rw [liftOf_mod hl0, HRV.out] at hly
        have HLY := Lib.hid hly
        clear hly
        go_wp2_with fail
        refine HLY.out.mono ?_
        rintro e w6 ⟨rfl, hT6⟩
        have HT6 := Lib.hid hT6.swap
        clear hT6 HT5 HLY
        go_wp2_with fail
        go_roundw
        case rel => exact ⟨k + 1, by omega, by rw [HLE.out, List.length_append, List.length_singleton]; go_num, by go_num, HT6⟩
        case measure => simp [intOf]; omega
    · obtain rfl : k = cs.length := by omega
      rw [List.take_length, show cs.reverse.take cs.length = cs.reverse by rw [← List.length_reverse, List.take_length]] at HT
      rw [List.take_length]
      have hE := ups_rev rs.length cs
      generalize ups rs.length cs = Ux at HT hE ⊢
      generalize ups rs.length cs.reverse = Uy at HT hE
      have hux := HT.out.choose_spec.choose_spec.2.1.ups
      have huy := HT.out.choose_spec.choose_spec.2.2.1.ups
      have hfew := HT.out.choose_spec.choose_spec.2.1.few
      have HN1 := Lib.hid (next_c HT.out.choose_spec.choose_spec.2.1.at_)
      have HEN := Lib.hid (nexts_congr (rs := rs) hE)
      have HEL := Lib.hid (leftOf_congr (rs := rs) hE)
      have HEC := Lib.hid (len_congr hux.1 huy.1 hE)
      have hul : Ux.length ≤ 20 := Nat.le_trans (nodup_len_le hux.1 hux.2) hn
      have HFEW := Lib.hid (Nat.le_trans (nexts_len rs Ux) hfew)
      clear hE hux huy hfew hlt hk
      go_wp2_with fail
      refine HN1.out.mono ?_
      rintro e w4 ⟨v2, rfl, hO2, hf4⟩
      have HT := Lib.hid (HT.out.fr hf4)
      have HN2 := Lib.hid (next_c HT.out.choose_spec.choose_spec.2.2.1.at_)
      have HO2 := Lib.hid hO2
      obtain ⟨va2, vc2, rfl⟩ := ints_at hO2
      clear hO2 HN1 hf4
      go_wp2_with fail
      refine HN2.out.mono ?_
      rintro e w5 ⟨v3, rfl, hO3, hf5⟩
      have HT := Lib.hid (HT.out.fr hf5)
      have HSM := Lib.hid (same16_c _ _ _ _ w5 ((RdI.own HO2.out).fr hf5) (RdI.own hO3) HFEW.out)
      rw [decide_eq_true HEN.out] at HSM
      obtain ⟨va3, vc3, rfl⟩ := ints_at hO3
      clear hO3 HN2 hf5 HO2
      go_wp2_with fail
      refine HSM.out.mono ?_
      rintro e w6 ⟨rfl, hf6⟩
      have HT := Lib.hid (HT.out.fr hf6)
      have HWX := Lib.hid (whole_c HT.out.choose_spec.choose_spec.2.1.at_)
      clear HSM hf6
      go_wp2_with fail
      refine HWX.out.mono ?_
      rintro e w7 ⟨rfl, hf7⟩
      have HT := Lib.hid (HT.out.fr hf7)
      have HWY := Lib.hid (whole_c HT.out.choose_spec.choose_spec.2.2.1.at_)
      rw [← HEL.out] at HWY
      clear HWX hf7
      generalize decide (leftOf rs Ux = 0) = d at *
      go_wp2_with fail
      refine HWY.out.mono ?_
      rintro e w8 ⟨rfl, hf8⟩
      have HT := Lib.hid (HT.out.fr hf8)
      have HCX := Lib.hid (count_c HT.out.choose_spec.choose_spec.2.1.at_)
      clear HWY hf8
      go_wp2_with fail
      refine HCX.out.mono ?_
      rintro e w9 ⟨rfl, hf9⟩
      have HT := Lib.hid (HT.out.fr hf9)
      have HCY := Lib.hid (count_c HT.out.choose_spec.choose_spec.2.2.1.at_)
      rw [← HEC.out] at HCY
      clear HCX hf9
      go_wp2_with fail
      refine HCY.out.mono ?_
      rintro e w10 ⟨rfl, hf10⟩
      have HT := Lib.hid (HT.out.fr hf10)
      clear HCY hf10
      go_wp2_with fail
      clear HEN HEL HEC HFEW
      go_loopw [9] (fun vn wr => ∃ up : List Nat, up.length ≤ 20 ∧ vn = .int .i64 up.length ∧ Hid (Two w wr x y rs up Uy (.slice va (nexts rs []).length vc) (nexts rs []))) (fun vn _ => (intOf vn).toNat)
      case atStart => exact ⟨Ux, hul, rfl, HT⟩
      case round =>
        clear HT
        obtain ⟨up, hup, rfl, HT⟩ := hrel
        rcases List.eq_nil_or_concat up with rfl | ⟨up0, i, rfl⟩
        · have HTL := Lib.hid (tells16_c HT.out.choose_spec.choose_spec.2.1.at_ _ (nexts rs []) (RdI.own HT.out.choose_spec.choose_spec.2.2.2.2.1))
          rw [decide_eq_true rfl] at HTL
          go_wp2_with fail
          refine HTL.out.mono ?_
          rintro e w11 ⟨rfl, hf11⟩
          have HT := Lib.hid (HT.out.fr hf11)
          have HCX := Lib.hid (count_c HT.out.choose_spec.choose_spec.2.1.at_)
          clear HTL hf11
          go_wp2_with fail
          refine HCX.out.mono ?_
          rintro e w12 ⟨rfl, hf12⟩
          have hf := HT.out.choose_spec.choose_spec.1.trans hf12
          clear HT HCX hf12
          go_wp2_with fail
          refine (HW.out _).mono ?_
          rintro e w13 ⟨rfl, hf13⟩
          go_wp2_with fail
          go_ret
          exact ⟨rfl, hf.trans hf13⟩
        · rw [List.concat_eq_append] at HT hup
          rw [List.concat_eq_append]
          rw [List.length_append, List.length_singleton] at hup ⊢
          have hups := HT.out.choose_spec.choose_spec.2.1.ups
          have hni := (ups_snoc hups).2.1
          have HU2 := Lib.hid (twoUnlift_c HT.out)
          obtain ⟨m, hm⟩ : ∃ m, m = up0.length := ⟨_, rfl⟩
          rw [← hm] at hup ⊢
          have HMM := Lib.hid hm
          have HNI := Lib.hid hni
          clear hm hups hni HT
          go_wp2_with fail
          refine HU2.out.mono ?_
          rintro e w11 ⟨rfl, hT11⟩
          have HT := Lib.hid hT11
          have hlf := lifted_c HT.out.choose_spec.choose_spec.2.1.at_ (i : Int)
          have hb : (decide (0 ≤ (i : Int)) && up0.contains ((i : Int)).toNat) = false := by simp [HNI.out]
          rw [hb] at hlf
          have HLF := Lib.hid hlf
          clear hT11 hlf hb HU2
          go_wp2_with fail
          refine HLF.out.mono ?_
          rintro e w12 ⟨rfl, hf12⟩
          have HT := Lib.hid (HT.out.fr hf12)
          clear HLF hf12
          go_wp2_with fail
          go_roundw
          case rel => exact ⟨up0, by have := HMM.out; omega, by rw [← HMM.out], HT⟩
          case measure => first | (simp [intOf]; done) | (simp [intOf]; omega)
/-- EntriesBack: of any rows, any bytes the law returns true. -/
theorem entBack_c (l : List TRow) (v : Value) (cs : List Nat) (u : Value) (w : World) (hl : RdT w v l) (hn : l.length ≤ 3518437208780) (hu : RdU w u cs) :
    Calls Try.prog 6 #[v, u] w fun e w' => e = .returned (.bool true) ∧ Fr w w' := by
  by_cases h : 20 < l.length ∨ 20 < cs.length ∨ mayRows (eRows l) = false ∨ l = []
  · exact backOff_c l v cs u w hl hn hu h
  · simp only [not_or] at h
    exact backOn_c l v cs u w hl (by omega) hu (by omega) (by simpa using h.2.2.1) h.2.2.2
end Go.Proofs.Ytjomjlodmelnbaa

/- Layer 16: EntriesOrder: one list and the order in which its rows are lifted. No condition but what each says. -/
namespace Go.Proofs.Ytjomjlodmelnbaa
open Go.RowKit Go.Sort
attribute [local go_sem] Oper.semAt_some

/-- One list, and numbers that are kept beside it. -/
def One (w0 w : World) (x : Nat) (rs : List ERow) (up : List Nat) (v : Value) (L : List Nat) : Prop := ∃ Z, Fr w0 w ∧ Lst w0.heap.size w x rs up Z ∧ w.ownsRow w0.heap.size 3 1 v L.length (L.map intV) ∧ ∀ g, v.ownBlock = some g → ¬ Z g
theorem One.fr {w0 w w' : World} {x : Nat} {rs : List ERow} {up : List Nat} {v : Value} {L : List Nat} (H : One w0 w x rs up v L) (f : Fr w w') : One w0 w' x rs up v L := by
  obtain ⟨Z, h1, h2, h3, h4⟩ := H
  exact ⟨Z, h1.trans f, h2.fr f, ownsRow_kept2 h3 fun g hg => f.block (World.ownsRow.lt h3 g hg).2, h4⟩
/-- .. with its blocks named. -/
def OneZ (w0 w : World) (x : Nat) (rs : List ERow) (up : List Nat) (v : Value) (L : List Nat) (Z : Nat → Prop) : Prop := Fr w0 w ∧ Lst w0.heap.size w x rs up Z ∧ w.ownsRow w0.heap.size 3 1 v L.length (L.map intV) ∧ ∀ g, v.ownBlock = some g → ¬ Z g
theorem One.z {w0 w : World} {x : Nat} {rs : List ERow} {up : List Nat} {v : Value} {L : List Nat} (H : One w0 w x rs up v L) : ∃ Z, OneZ w0 w x rs up v L Z := H
theorem OneZ.fr {w0 w w' : World} {x : Nat} {rs : List ERow} {up : List Nat} {v : Value} {L : List Nat} {Z : Nat → Prop} (H : OneZ w0 w x rs up v L Z) (f : Fr w w') : OneZ w0 w' x rs up v L Z := by
  obtain ⟨h1, h2, h3, h4⟩ := H
  exact ⟨h1.trans f, h2.fr f, ownsRow_kept2 h3 fun g hg => f.block (World.ownsRow.lt h3 g hg).2, h4⟩
theorem OneZ.turned {w0 w w' : World} {x : Nat} {rs : List ERow} {up up' : List Nat} {v : Value} {L : List Nat} {Z : Nat → Prop} (H : OneZ w0 w x rs up v L Z) (T : Turned w0.heap.size w w' x rs up' Z) : One w0 w' x rs up' v L ∧ ∀ base u (M : List Nat), w.ownsRow base 3 1 u M.length (M.map intV) → (∀ g, u.ownBlock = some g → ¬ Z g) → w'.ownsRow base 3 1 u M.length (M.map intV) := by
  obtain ⟨h1, h2, h3, h4⟩ := H
  obtain ⟨Z', g1, g2, g3⟩ := T
  refine ⟨⟨Z', g3.fr h1 (fun b hb => h2.ge b hb), g1, ownsRow_kept2 h3 fun g hg => g3.block g (World.ownsRow.lt h3 g hg).2 (h4 g hg), fun g hg hz => ?_⟩, fun base u M hu hs => ownsRow_kept2 hu fun g hg => g3.block g (World.ownsRow.lt hu g hg).2 (hs g hg)⟩
  rcases g2 g hz with h | h
  · exact h4 g hg h
  · have := (World.ownsRow.lt h3 g hg).2; omega
theorem One.append {w0 w w1 w2 : World} {x : Nat} {rs : List ERow} {up : List Nat} {v v' : Value} {L L' : List Nat} (H : One w0 w x rs up v L) (f : Fr w w1) (k : Chg (fun b => v.ownBlock = some b) w1 w2) (hO : w2.ownsRow w0.heap.size 3 1 v' L'.length (L'.map intV)) (hat : ∀ g, v'.ownBlock = some g → v.ownBlock = some g ∨ w.heap.size ≤ g) : One w0 w2 x rs up v' L' := by
  obtain ⟨Z, h1, h2, h3, h4⟩ := H
  refine ⟨Z, k.fr (h1.trans f) (fun g hg => (World.ownsRow.lt h3 g hg).1), (h2.fr f).keep k (fun b hb hv => h4 b hv hb), hO, fun g hg hz => ?_⟩
  rcases hat g hg with h | h
  · exact h4 g h hz
  · have := h2.lt g hz; omega
/-- In the order of lifting: the newest one stands last. -/
def GoodUp (rs : List ERow) (up : List Nat) : Prop := ∀ k (h : k < up.length), isNext rs (up.take k) up[k]
theorem GoodUp.nil (rs : List ERow) : GoodUp rs [] := fun k h => by simp at h
theorem GoodUp.snoc {rs : List ERow} {up : List Nat} {i : Nat} (h : GoodUp rs up) (hi : isNext rs up i) : GoodUp rs (up ++ [i]) := fun k hk => by
  rw [List.length_append, List.length_singleton] at hk
  by_cases h1 : k < up.length
  · rw [List.getElem_append_left h1, List.take_append_of_le_length (by omega)]
    exact h k h1
  · obtain rfl : k = up.length := by omega
    rw [List.getElem_append_right (Nat.le_refl _), List.take_left]
    simpa using hi
theorem GoodUp.before {rs : List ERow} {up : List Nat} (h : GoodUp rs up) (hn : up.Nodup) {i k : Nat} (hik : i < k) (hk : k < up.length) : up[i]'(by omega) ≠ up[k] ∧ ∀ (a : up[k] < rs.length) (b : up[i]'(by omega) < rs.length), beforeB rs[up[k]] rs[up[i]'(by omega)] = false := by
  have hi : i < up.length := by omega
  refine ⟨fun e => ?_, fun a b => ?_⟩
  · have := (List.getElem_inj hn).1 e; omega
  · obtain ⟨h1, h2, h3⟩ := h i hi
    have hnt : up[k] ∉ up.take i := fun hm => by
      obtain ⟨j, hj, e⟩ := List.getElem_of_mem hm
      rw [List.getElem_take] at e
      rw [List.length_take] at hj
      have := (List.getElem_inj hn).1 e; omega
    unfold beforeB
    cases hd : rs[up[k]].done with
    | false => simp
    | true => have := h3 up[k] a hnt hd; simp; omega
/-- Lists without repeats, as long as there are rows, hold all of them. -/
theorem all_in {n : Nat} {l : List Nat} (hd : l.Nodup) (hl : ∀ i ∈ l, i < n) (hn : n ≤ l.length) {i : Nat} (hi : i < n) : i ∈ l := by
  refine Classical.byContradiction fun h => ?_
  have h1 : (i :: l).Nodup := List.nodup_cons.2 ⟨h, hd⟩
  have := nodup_len_le h1 (fun j hj => by rcases List.mem_cons.1 hj with rfl | hj; exact hi; exact hl j hj)
  simp at this
  omega
theorem sub_len {α : Type} [DecidableEq α] : ∀ {a b : List α}, a.Nodup → (∀ x ∈ a, x ∈ b) → a.length ≤ b.length
  | [], b, _, _ => by simp
  | x :: a, b, hd, hs => by
    rw [List.nodup_cons] at hd
    have h1 := hs x (by simp)
    have h2 := sub_len (a := a) (b := b.erase x) hd.2 (fun y hy => (List.mem_erase_of_ne (fun e => hd.1 (by rw [← e]; exact hy))).2 (hs y (by simp [hy])))
    have h3 := List.length_erase_of_mem h1
    have h4 := List.length_pos_of_mem h1
    simp only [List.length_cons]
    omega
theorem some_out {n : Nat} {l : List Nat} (hn : l.length < n) : ∃ i, i < n ∧ i ∉ l := by
  refine Classical.byContradiction fun h => ?_
  have h3 := sub_len (a := List.range n) (b := l) List.nodup_range (fun i hi => Classical.byContradiction fun h2 => h ⟨i, List.mem_range.1 hi, h2⟩)
  rw [List.length_range] at h3
  omega
theorem nexts_all {rs : List ERow} {up : List Nat} (h : ∀ i, i < rs.length → i ∈ up) : nexts rs up = [] := by
  refine List.eq_nil_iff_forall_not_mem.2 fun i hi => ?_
  obtain ⟨h1, h2, _⟩ := mem_nexts.1 hi
  exact h1 (h i h2)
theorem leftOf_all {rs : List ERow} {up : List Nat} (h : ∀ i, i < rs.length → i ∈ up) : leftOf rs up = 0 := by
  unfold leftOf
  rw [List.length_eq_zero_iff, List.filter_eq_nil_iff]
  intro i hi
  have := h i (List.mem_range.1 hi)
  simp [this]
end Go.Proofs.Ytjomjlodmelnbaa
