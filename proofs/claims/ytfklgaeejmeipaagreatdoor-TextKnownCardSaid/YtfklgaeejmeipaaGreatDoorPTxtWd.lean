/- What is left of a line, and the event that it says, in memory; (*words).take, is, number, digits. No condition but what each says. -/
import Derived.Test.YtfklgaeejmeipaaGreatDoorPTxtRow
import Derived.Test.YtfklgaeejmeipaaGreatDoorPItoa
import Derived.Test.YtfklgaeejmeipaaGreatDoorPEvCheck
import Derived.Laws.PanicsMore
set_option linter.all false
set_option linter.unusedVariables false
set_option linter.unusedSimpArgs false
set_option linter.unnecessarySimpa false
/- What is left of a line, and the event that it says, in memory; (*words).take, is, number, digits. No condition but what each says. -/
namespace Go.Proofs.YtfklgaeejmeipaaGreatDoor
open Go.RowKit

/-- What the parser gives up with. -/
def wrongP : List PanicEntry := [{ v := .iface 77 (.agg #[]), recovered := false }]
def GaveUp (w : World) (e : Ending) (w' : World) : Prop := e = .panicked wrongP ∧ Fr w w'
/-- One block is written, all else stands. -/
structure Oth (B : Nat) (w w' : World) : Prop where
  os : w'.os = w.os
  tape : w'.tape = w.tape
  output : w'.output = w.output
  size : w.heap.size ≤ w'.heap.size
  block : ∀ k, k < w.heap.size → k ≠ B → w'.heap[k]? = w.heap[k]?
theorem Oth.refl (B : Nat) (w : World) : Oth B w w := ⟨rfl, rfl, rfl, Nat.le_refl _, fun _ _ _ => rfl⟩
theorem Oth.trans {B : Nat} {a b c : World} (h : Oth B a b) (k : Oth B b c) : Oth B a c := ⟨k.os.trans h.os, k.tape.trans h.tape, k.output.trans h.output, Nat.le_trans h.size k.size, fun i hi hs => (k.block i (Nat.lt_of_lt_of_le hi h.size) hs).trans (h.block i hi hs)⟩
theorem Oth.of_fr {B : Nat} {a b : World} (h : Fr a b) : Oth B a b := ⟨h.os, h.tape, h.output, h.size, fun i hi _ => h.block hi⟩
theorem Oth.fr {B : Nat} {a w w' : World} (h : Oth B w w') (f : Fr a w) (hB : a.heap.size ≤ B) : Fr a w' := ⟨h.os.trans f.os, h.tape.trans f.tape, h.output.trans f.output, Nat.le_trans f.size h.size, fun i hi => (h.block i (Nat.lt_of_lt_of_le hi f.size) (by omega)).trans (f.block hi)⟩
theorem Oth.set {B : Nat} {a w : World} (h : Oth B a w) (o : Nat) (u : Value) : Oth B a (w.setCell ⟨B, o, none⟩ u) :=
  ⟨h.os, h.tape, h.output, by simpa using h.size, fun i hi hs => (Below.heap_setCell w ⟨B, o, none⟩ u i (by simpa using hs)).trans (h.block i hi hs)⟩
theorem Oth.drew {B : Nat} {a w : World} (h : Oth B a w) : Oth B a w.drew := ⟨h.os, h.tape, h.output, h.size, h.block⟩
def wdCells (v : Value) (x : Ev) (t r : Value) : Array Value := #[v, .int .u8 x.kind, .int .u8 x.client, .int .u16 x.id, .int .u8 x.op.F, .int .u8 x.op.O, .int .u8 x.op.K, .int .u16 x.op.A, .int .u16 x.op.B, .int .u8 x.rk, .int .u16 x.rv, t, r, .int .u8 x.cfg.model, .int .i64 x.cfg.opens, .int .i64 x.cfg.states, .int .i64 x.cfg.steps, .bool x.cfg.part, .bool x.cfg.cut, .bool x.cfg.memo]
/-- The words that are left, and the event so far, in block B, which is newer than w0. -/
structure WdAt (w0 w : World) (B : Nat) (v : Value) (l : List W8) (x : Ev) (t r : Value) : Prop where
  frm : Fr w0 w
  ge : w0.heap.size ≤ B
  box : BoxAt w B (wdCells v x t r) 80
  rd : RdS w0 v l
theorem WdAt.fr {w0 w w' : World} {B : Nat} {v t r : Value} {l : List W8} {x : Ev} (h : WdAt w0 w B v l x t r) (f : Fr w w') : WdAt w0 w' B v l x t r := ⟨h.frm.trans f, h.ge, h.box.fr f, h.rd⟩
/-- The words are what they are now. -/
theorem WdAt.words {w0 w w' : World} {B : Nat} {v v' t r : Value} {l l' : List W8} {x : Ev} (h : WdAt w0 w B v l x t r) (k : Oth B w w') (hb : BoxAt w' B (wdCells v' x t r) 80) (hr : RdS w0 v' l') : WdAt w0 w' B v' l' x t r := ⟨k.fr h.frm h.ge, h.ge, hb, hr⟩
/-- The rest of the words. -/
theorem RdS.rest1 {w : World} {b off cap n : Nat} {s : W8} {l : List W8} (hcap : (s :: l).length ≤ cap) (hmax : cap ≤ maxLen) (hb : b < w.heap.size) (hc : ∀ j u, (s :: l)[j]? = some u → w.cell? ⟨b, off + j, none⟩ = some (.string ⟨u.toArray⟩)) (hn : n = l.length) : RdS w (.slice (some ⟨b, off + 1, none⟩) n (cap - 1)) l := by
  subst hn
  simp only [List.length_cons] at hcap
  refine ⟨_, _, rfl, by omega, by omega, .inr ⟨b, off + 1, rfl, trivial, hb, fun j u hj => ?_⟩⟩
  unfold strCells at hj
  rw [List.getElem?_map] at hj
  obtain ⟨y, hy, rfl⟩ := Option.map_eq_some_iff.1 hj
  rw [show off + 1 + j = off + (j + 1) by omega]
  exact hc (j + 1) y (by simpa using hy)
set_option maxRecDepth 100000 in
set_option maxHeartbeats 1000000 in
theorem take_c {w0 w : World} {B : Nat} {v t r : Value} {s : W8} {l : List W8} {x : Ev} (h : WdAt w0 w B v (s :: l) x t r) :
    Calls Tryz.prog 44 #[.pointer (some ⟨B, 0, none⟩)] w fun e w' => e = .returned (.string ⟨s.toArray⟩) ∧ ∃ v', WdAt w0 w' B v' l x t r ∧ Oth B w w' := by
  obtain ⟨b, off, cap, rfl, h1, h2, h3, hc⟩ := h.rd.at (k := 0) (by simp)
  have hs0 := h.frm.keep (hc 0 s rfl)
  have c0 : w.cell? ⟨B, 0, none⟩ = some (.slice (some ⟨b, off, none⟩) (s :: l).length cap) := h.box.at 0 rfl
  have f0 : w.frozen? ⟨B, 0, none⟩ = false := h.box.free 0
  have HT := Lib.hid (fun n hn => RdS.rest1 (w := w0) (n := n) h1 h2 h3 hc hn)
  have H := Lib.hid h
  rw [Nat.add_zero] at hs0
  simp only [List.length_cons] at c0 h1
  unfold maxLen at h2
  clear hc h h3
  have HO : Hid (∀ u, RdS w0 u l → (∃ v', WdAt w0 (w.setCell ⟨B, 0, none⟩ u) B v' l x t r) ∧ Oth B w (w.setCell ⟨B, 0, none⟩ u)) := Lib.hid (fun u hu => ⟨⟨u, H.out.words ((Oth.refl B w).set 0 u) (H.out.box.setAt 0 u) hu⟩, (Oth.refl B w).set 0 u⟩)
  have HT0 : Hid (cap = 1 → RdS w0 (.slice (some ⟨b, off, none⟩) l.length 0) l) := Lib.hid (fun e => by
    have : l = [] := List.eq_nil_of_length_eq_zero (by omega)
    subst this
    exact ⟨_, _, rfl, Nat.le_refl _, by decide, .inl rfl⟩)
  clear H
  go_enter Tryz.func44, Tryz.ntmps44
  go_wp2
  all_goals go_ret
  all_goals (refine ⟨rfl, ?_⟩)
  all_goals first
    | exact ⟨(HO.out _ (HT.out _ rfl)).1, (HO.out _ (HT.out _ rfl)).2⟩
    | (have e1 : cap = 1 := by omega
       exact ⟨(HO.out _ (HT0.out e1)).1, (HO.out _ (HT0.out e1)).2⟩)
    | exact ⟨(HO.out _ (HT0.out rfl)).1, (HO.out _ (HT0.out rfl)).2⟩
set_option maxRecDepth 100000 in
set_option maxHeartbeats 1000000 in
theorem take_no {w0 w : World} {B : Nat} {v t r : Value} {x : Ev} (h : WdAt w0 w B v [] x t r) :
    Calls Tryz.prog 44 #[.pointer (some ⟨B, 0, none⟩)] w (GaveUp w) := by
  obtain ⟨a, cap, rfl, _, _⟩ := h.rd.form
  have c0 : w.cell? ⟨B, 0, none⟩ = some (.slice a 0 cap) := h.box.at 0 rfl
  clear h
  go_enter Tryz.func44, Tryz.ntmps44
  go_wp2
  exact ⟨rfl, rfl, Fr.refl _⟩
set_option maxRecDepth 100000 in
set_option maxHeartbeats 1000000 in
theorem digits_c {most : Int} {s : W8} {n : Nat} (w : World) (hs : s.length < 1000000) (h : digW most s = some n) :
    Calls Tryz.prog 96 #[.string ⟨s.toArray⟩, .int .i64 most] w fun e w' => e = .returned (.int .i64 n) ∧ Fr w w' := by
  obtain ⟨v, hv, hvn, hm⟩ := digW_some h
  subst hvn
  have hsz := size_mk s
  have HA := Lib.hid (fun W => Tryz.strconv_Atoi_ok ⟨s.toArray⟩ (by omega) (n : Int) (by simpa using hv) W)
  have k1 : decide ((n : Int) < 0) = false := by simp
  have k2 : decide (most < (n : Int)) = false := by simp; omega
  clear hv h
  go_enter Tryz.func96, Tryz.ntmps96
  go_wp2_with fail
  refine (HA.out _).mono ?_
  rintro e w1 ⟨rfl, hw1⟩
  have hf1 : Fr w w1 := by
    rcases hw1 with rfl | ⟨q, rfl⟩
    · exact Fr.refl _
    · exact bytesWorld_fr _ _ _
  have HF := Lib.hid hf1
  clear hw1 hf1 HA
  go_wp2_with fail
  go_ret
  exact ⟨rfl, HF.out⟩
theorem atoi_bad {s : W8} (w : World) (hE : Env0 w) (hs : s.length < 1000000) (h : ∀ v, Lib.atoiAll s ≠ .ok v) :
    Calls Tryz.prog 136 #[.string ⟨s.toArray⟩] w fun e w' => ∃ z p, e = .returned (.tuple #[.int .i64 z, .iface 225 p]) ∧ Fr w w' := by
  have hsz := size_mk s
  rcases hq : Lib.atoiAll s with v | ⟨⟩ | ⟨⟩
  · exact absurd hq (h v)
  · obtain ⟨te, pe, hm⟩ := hE.errS
    refine (Any.strconv_Atoi_syntax Tryz.laysC172 ⟨s.toArray⟩ (by omega) (by simpa using hq) _ w hm (.inr ⟨te, pe, rfl⟩)).mono ?_
    rintro e w' ⟨N, he, _, _, hw⟩
    exact ⟨_, _, he, hw⟩
  · obtain ⟨te, pe, hm⟩ := hE.errR
    refine (Tryz.strconv_Atoi_range ⟨s.toArray⟩ (by omega) (by simpa using hq) _ w hm (.inr ⟨te, pe, rfl⟩)).mono ?_
    rintro e w' ⟨N, he, _, _, hw⟩
    exact ⟨_, _, he, hw⟩
set_option maxRecDepth 100000 in
set_option maxHeartbeats 1000000 in
theorem digits_bad {most : Int} {s : W8} (w : World) (hE : Env0 w) (hs : s.length < 1000000) (h : ∀ v, Lib.atoiAll s ≠ .ok v) :
    Calls Tryz.prog 96 #[.string ⟨s.toArray⟩, .int .i64 most] w (GaveUp w) := by
  have HA := Lib.hid (fun W (f : Fr w W) => atoi_bad W (hE.keep f) hs h)
  clear hE h
  go_enter Tryz.func96, Tryz.ntmps96
  go_wp2_with fail
  refine (HA.out _ (by first | exact Fr.refl _ | exact (Fr.refl _).drew)).mono ?_
  rintro e w1 ⟨z, p, rfl, hf1⟩
  have HF := Lib.hid hf1
  clear hf1 HA
  go_wp2_with fail
  exact ⟨rfl, rfl, HF.out⟩
set_option maxRecDepth 100000 in
set_option maxHeartbeats 1000000 in
theorem digits_far {most v : Int} {s : W8} (w : World) (hs : s.length < 1000000) (hv : Lib.atoiAll s = .ok v) (h : v < 0 ∨ most < v) :
    Calls Tryz.prog 96 #[.string ⟨s.toArray⟩, .int .i64 most] w (GaveUp w) := by
  have hsz := size_mk s
  have HA := Lib.hid (fun W => Tryz.strconv_Atoi_ok ⟨s.toArray⟩ (by omega) v (by simpa using hv) W)
  have HH := Lib.hid h
  clear hv h
  by_cases h0 : v < 0
  · go_enter Tryz.func96, Tryz.ntmps96
    go_wp2_with fail
    refine (HA.out _).mono ?_
    rintro e w1 ⟨rfl, hw1⟩
    have hf1 : Fr w w1 := by
      rcases hw1 with rfl | ⟨q, rfl⟩
      · exact Fr.refl _
      · exact bytesWorld_fr _ _ _
    have HF := Lib.hid hf1
    clear hw1 hf1 HA
    go_wp2_with fail
    exact ⟨rfl, rfl, HF.out⟩
  · have h1 : most < v := by rcases HH.out with k | k; exact absurd k h0; exact k
    go_enter Tryz.func96, Tryz.ntmps96
    go_wp2_with fail
    refine (HA.out _).mono ?_
    rintro e w1 ⟨rfl, hw1⟩
    have hf1 : Fr w w1 := by
      rcases hw1 with rfl | ⟨q, rfl⟩
      · exact Fr.refl _
      · exact bytesWorld_fr _ _ _
    have HF := Lib.hid hf1
    clear hw1 hf1 HA
    go_wp2_with fail
    exact ⟨rfl, rfl, HF.out⟩
theorem digits_no {most : Int} {s : W8} (w : World) (hE : Env0 w) (hs : s.length < 1000000) (h : digW most s = none) :
    Calls Tryz.prog 96 #[.string ⟨s.toArray⟩, .int .i64 most] w (GaveUp w) := by
  by_cases hb : ∃ v, Lib.atoiAll s = .ok v
  · obtain ⟨v, hv⟩ := hb
    refine digits_far w hs hv ?_
    unfold digW at h
    rw [hv] at h
    simp only at h
    split at h
    · assumption
    · cases h
  · exact digits_bad w hE hs fun v hv => hb ⟨v, hv⟩
/-- (*words).number. -/
theorem GaveUp.of {w w1 w' : World} {e : Ending} (h : GaveUp w1 e w') (f : Fr w w1) : GaveUp w e w' := ⟨h.1, f.trans h.2⟩
set_option maxRecDepth 100000 in
set_option maxHeartbeats 1000000 in
theorem number_c {w0 w : World} {B n : Nat} {most : Int} {v t r : Value} {s : W8} {l : List W8} {x : Ev} (h : WdAt w0 w B v (s :: l) x t r) (hs : s.length < 1000000) (hd : digW most s = some n) :
    Calls Tryz.prog 81 #[.pointer (some ⟨B, 0, none⟩), .int .i64 most] w fun e w' => e = .returned (.int .i64 n) ∧ ∃ v', WdAt w0 w' B v' l x t r ∧ Oth B w w' := by
  have HT := Lib.hid (take_c h)
  have HD := Lib.hid (fun W => digits_c W hs hd)
  clear h hd
  go_enter Tryz.func81, Tryz.ntmps81
  go_wp2_with fail
  refine HT.out.mono ?_
  rintro e w1 ⟨rfl, v1, h1, k1⟩
  have H1 := Lib.hid h1
  have K1 := Lib.hid k1
  clear h1 k1
  go_wp2_with fail
  refine (HD.out _).mono ?_
  rintro e w2 ⟨rfl, f2⟩
  have F2 := Lib.hid f2
  clear f2
  go_wp2_with fail
  go_ret
  exact ⟨rfl, v1, H1.out.fr F2.out, K1.out.trans (Oth.of_fr F2.out)⟩
set_option maxRecDepth 100000 in
set_option maxHeartbeats 1000000 in
theorem number_none {w0 w : World} {B : Nat} {most : Int} {v t r : Value} {x : Ev} (h : WdAt w0 w B v [] x t r) :
    Calls Tryz.prog 81 #[.pointer (some ⟨B, 0, none⟩), .int .i64 most] w (GaveUp w0) := by
  have HT := Lib.hid (take_no h)
  have HF := Lib.hid h.frm
  clear h
  go_enter Tryz.func81, Tryz.ntmps81
  go_wp2_with fail
  refine HT.out.mono ?_
  rintro e w1 ⟨rfl, f1⟩
  exact ⟨rfl, rfl, HF.out.trans f1⟩
set_option maxRecDepth 100000 in
set_option maxHeartbeats 1000000 in
theorem number_bad {w0 w : World} {B : Nat} {most : Int} {v t r : Value} {s : W8} {l : List W8} {x : Ev} (h : WdAt w0 w B v (s :: l) x t r) (hE : Env0 w0) (hs : s.length < 1000000) (hd : digW most s = none) :
    Calls Tryz.prog 81 #[.pointer (some ⟨B, 0, none⟩), .int .i64 most] w (GaveUp w0) := by
  have HT := Lib.hid (take_c h)
  have HD := Lib.hid (fun W (f : Fr w0 W) => digits_no W (hE.keep f) hs hd)
  clear h hd hE
  go_enter Tryz.func81, Tryz.ntmps81
  go_wp2_with fail
  refine HT.out.mono ?_
  rintro e w1 ⟨rfl, v1, h1, k1⟩
  have F1 := Lib.hid h1.frm
  clear h1 k1
  go_wp2_with fail
  refine (HD.out _ (by first | exact F1.out | exact F1.out.drew)).mono ?_
  rintro e w2 ⟨rfl, f2⟩
  exact ⟨rfl, rfl, F1.out.trans f2⟩
theorem number_no {w0 w : World} {B : Nat} {most : Int} {v t r : Value} {l : List W8} {x : Ev} (h : WdAt w0 w B v l x t r) (hE : Env0 w0) (hs : ∀ s ∈ l, s.length < 1000000) (hd : numN most l = none) :
    Calls Tryz.prog 81 #[.pointer (some ⟨B, 0, none⟩), .int .i64 most] w (GaveUp w0) := by
  cases l with
  | nil => exact number_none h
  | cons s r =>
    refine number_bad h hE (hs s (by simp)) ?_
    unfold numN at hd
    simpa using hd
theorem number_yes {w0 w : World} {B n : Nat} {most : Int} {v t r : Value} {l l' : List W8} {x : Ev} (h : WdAt w0 w B v l x t r) (hs : ∀ s ∈ l, s.length < 1000000) (hd : numN most l = some (n, l')) :
    Calls Tryz.prog 81 #[.pointer (some ⟨B, 0, none⟩), .int .i64 most] w fun e w' => e = .returned (.int .i64 n) ∧ ∃ v', WdAt w0 w' B v' l' x t r ∧ Oth B w w' := by
  cases l with
  | nil => cases hd
  | cons s q =>
    unfold numN at hd
    obtain ⟨m, h1, h2⟩ := Option.map_eq_some_iff.1 hd
    cases h2
    exact number_c h (hs s (by simp)) h1
set_option maxRecDepth 100000 in
set_option maxHeartbeats 1000000 in
theorem is_nil {w0 w : World} {B : Nat} {v t r : Value} {q : W8} {x : Ev} (h : WdAt w0 w B v [] x t r) :
    Calls Tryz.prog 93 #[.pointer (some ⟨B, 0, none⟩), .string ⟨q.toArray⟩] w fun e w' => e = .returned (.bool false) ∧ Fr w w' := by
  obtain ⟨a, cap, rfl, _, _⟩ := h.rd.form
  have c0 : w.cell? ⟨B, 0, none⟩ = some (.slice a 0 cap) := h.box.at 0 rfl
  clear h
  go_enter Tryz.func93, Tryz.ntmps93
  go_wp2
  all_goals go_ret
  all_goals exact ⟨rfl, by first | exact Fr.refl _ | (repeat (with_reducible first | assumption | apply Fr.drewN | apply Fr.drew)); exact Fr.refl _⟩
set_option maxRecDepth 100000 in
set_option maxHeartbeats 1000000 in
theorem is_not {w0 w : World} {B : Nat} {v t r : Value} {q s : W8} {l : List W8} {x : Ev} (h : WdAt w0 w B v (s :: l) x t r) (hq : s ≠ q) :
    Calls Tryz.prog 93 #[.pointer (some ⟨B, 0, none⟩), .string ⟨q.toArray⟩] w fun e w' => e = .returned (.bool false) ∧ Fr w w' := by
  obtain ⟨b, off, cap, rfl, h1, h2, h3, hc⟩ := h.rd.at (k := 0) (by simp)
  have hs0 := h.frm.keep (hc 0 s rfl)
  have c0 : w.cell? ⟨B, 0, none⟩ = some (.slice (some ⟨b, off, none⟩) (s :: l).length cap) := h.box.at 0 rfl
  rw [Nat.add_zero] at hs0
  simp only [List.length_cons] at c0 h1
  have e1 : (((l.length + 1 : Nat) : Int) == 0) = false := by simp; omega
  have e2 : (s != q) = true := by simpa using hq
  have e3 : (s == q) = false := by simpa using hq
  unfold maxLen at h2
  clear hc h h3 hq
  go_enter Tryz.func93, Tryz.ntmps93
  go_wp2
  all_goals go_ret
  all_goals exact ⟨rfl, by first | exact Fr.refl _ | (repeat (with_reducible first | assumption | apply Fr.drewN | apply Fr.drew)); exact Fr.refl _⟩
set_option maxRecDepth 100000 in
set_option maxHeartbeats 1000000 in
theorem wis_yes {w0 w : World} {B : Nat} {v t r : Value} {s : W8} {l : List W8} {x : Ev} (h : WdAt w0 w B v (s :: l) x t r) :
    Calls Tryz.prog 93 #[.pointer (some ⟨B, 0, none⟩), .string ⟨s.toArray⟩] w fun e w' => e = .returned (.bool true) ∧ ∃ v', WdAt w0 w' B v' l x t r ∧ Oth B w w' := by
  obtain ⟨b, off, cap, rfl, h1, h2, h3, hc⟩ := h.rd.at (k := 0) (by simp)
  have hs0 := h.frm.keep (hc 0 s rfl)
  have c0 : w.cell? ⟨B, 0, none⟩ = some (.slice (some ⟨b, off, none⟩) (s :: l).length cap) := h.box.at 0 rfl
  have f0 : w.frozen? ⟨B, 0, none⟩ = false := h.box.free 0
  have HT := Lib.hid (fun n hn => RdS.rest1 (w := w0) (n := n) h1 h2 h3 hc hn)
  have H := Lib.hid h
  rw [Nat.add_zero] at hs0
  simp only [List.length_cons] at c0 h1
  have e1 : (((l.length + 1 : Nat) : Int) == 0) = false := by simp; omega
  have e2 : (s != s) = false := by simp
  unfold maxLen at h2
  clear hc h h3
  have HT0 : Hid (cap = 1 → RdS w0 (.slice (some ⟨b, off, none⟩) l.length 0) l) := Lib.hid (fun e => by
    have : l = [] := List.eq_nil_of_length_eq_zero (by omega)
    subst this
    exact ⟨_, _, rfl, Nat.le_refl _, by decide, .inl rfl⟩)
  go_enter Tryz.func93, Tryz.ntmps93
  have HO : Hid (∀ u, RdS w0 u l → (∃ v', WdAt w0 (w.setCell ⟨B, 0, none⟩ u) B v' l x t r) ∧ Oth B w (w.setCell ⟨B, 0, none⟩ u)) := Lib.hid (fun u hu => ⟨⟨u, H.out.words ((Oth.refl B w).set 0 u) (H.out.box.setAt 0 u) hu⟩, (Oth.refl B w).set 0 u⟩)
  clear H
  go_wp2
  all_goals go_ret
  all_goals (refine ⟨rfl, ?_⟩)
  all_goals first
    | exact ⟨(HO.out _ (HT.out _ rfl)).1, (HO.out _ (HT.out _ rfl)).2⟩
    | (have e1 : cap = 1 := by omega
       exact ⟨(HO.out _ (HT0.out e1)).1, (HO.out _ (HT0.out e1)).2⟩)
    | exact ⟨(HO.out _ (HT0.out rfl)).1, (HO.out _ (HT0.out rfl)).2⟩
/-- (*words).is. -/
theorem is_c {w0 w : World} {B : Nat} {v t r : Value} {q : W8} {l : List W8} {x : Ev} (h : WdAt w0 w B v l x t r) :
    Calls Tryz.prog 93 #[.pointer (some ⟨B, 0, none⟩), .string ⟨q.toArray⟩] w fun e w' => e = .returned (.bool (isN q l).1) ∧ ∃ v', WdAt w0 w' B v' (isN q l).2 x t r ∧ Oth B w w' := by
  cases l with
  | nil => exact (is_nil h).mono fun e w' k => ⟨k.1, v, h.fr k.2, Oth.of_fr k.2⟩
  | cons s l =>
    unfold isN
    by_cases hq : s = q
    · subst hq
      simp only [if_true]
      exact wis_yes h
    · simp only [if_neg hq]
      exact (is_not h hq).mono fun e w' k => ⟨k.1, v, h.fr k.2, Oth.of_fr k.2⟩
end Go.Proofs.YtfklgaeejmeipaaGreatDoor
