/- The walks of umpire/op: which kind an operation is, whether it may be, whose it is. No condition but the tables' content ('Env') and the numbers' bounds. -/
import Derived.Test.YtfklgaeejmeipaaGreatDoorPBase
set_option linter.all false
set_option linter.unusedVariables false
set_option linter.unusedSimpArgs false
set_option linter.unnecessarySimpa false
/- The walks of umpire/op: which kind an operation is, whether it may be, whose it is. No condition but the tables' content ('Env') and the numbers' bounds. -/
namespace Go.Proofs.YtfklgaeejmeipaaGreatDoor
open Go.RowKit

theorem find_no (f : Int) (w : World) (h0 : 0 ≤ f) (h1 : f ≤ 255) (h : f = 0 ∨ 12 ≤ f) :
    Calls Tryz.prog 92 #[.int .u8 f] w fun e w' => e = .returned (.tuple #[.agg #[.int .u8 0, .string ⟨#[]⟩, .int .u8 0], .bool false]) ∧ Fr w w' := by
  rcases h with h | h
  · subst h
    go_enter Tryz.func92, Tryz.ntmps92
    go_wp2
    exact bodyPost_ret (v := .tuple #[.agg #[.int .u8 0, .string ⟨#[]⟩, .int .u8 0], .bool false]) (by simp [results, Tryz.results92, go_sem]) rfl ⟨rfl, (Fr.refl _).alloc _⟩
  · go_enter Tryz.func92, Tryz.ntmps92
    go_wp2
    exact bodyPost_ret (v := .tuple #[.agg #[.int .u8 0, .string ⟨#[]⟩, .int .u8 0], .bool false]) (by simp [results, Tryz.results92, go_sem]) rfl ⟨rfl, (Fr.refl _).alloc _⟩

theorem find_yes (f : Nat) (w : World) (h0 : 1 ≤ f) (h1 : f ≤ 11) (hE : Env w) :
    Calls Tryz.prog 92 #[.int .u8 f] w fun e w' => e = .returned (.tuple #[.agg #[.int .u8 (kModel f), .string ⟨(kName f).toArray⟩, .int .u8 (kNeeds f)], .bool true]) ∧ Fr w w' := by
  have c0 := hE.kinds.model f h0 h1
  have c1 := hE.kinds.name f h0 h1
  have c2 := hE.kinds.needs f h0 h1
  have hz : 2 < w.heap.size := lt_of_cell c0
  have hf0 : ((f : Int) == 0) = false := by simp; omega
  clear hE
  go_enter Tryz.func92, Tryz.ntmps92
  go_wp2
  exact bodyPost_ret (v := .tuple #[.agg #[.int .u8 (kModel f), .string ⟨(kName f).toArray⟩, .int .u8 (kNeeds f)], .bool true]) (by simp [results, Tryz.results92, go_sem, hz]) rfl ⟨rfl, (Fr.refl _).alloc _⟩

def hasK (f : Int) : Bool := bits BinOp.and IntKind.u8 (kNeeds f) 1 != 0
def hasA (f : Int) : Bool := bits BinOp.and IntKind.u8 (kNeeds f) 2 != 0
def hasB (f : Int) : Bool := bits BinOp.and IntKind.u8 (kNeeds f) 4 != 0
def mayB (F O K A B : Int) : Bool := decide (1 ≤ F) && decide (F ≤ 11) && decide (O < 8) && decide (K < 8) && (hasK F || K == 0) && (hasA F || A == 0) && (hasB F || B == 0)

theorem may_c (F : Nat) (O K A B : Int) (w : World) (hE : Env w) (hF : F ≤ 255) :
    Calls Tryz.prog 68 #[.agg #[.int .u8 F, .int .u8 O, .int .u8 K, .int .u16 A, .int .u16 B]] w fun e w' => e = .returned (.bool (mayB F O K A B)) ∧ Fr w w' := by
  by_cases hf : 1 ≤ F ∧ F ≤ 11
  · obtain ⟨h1, h2⟩ := hf
    have HM : Hid (mayB F O K A B = (decide (O < 8) && decide (K < 8) && (hasK F || K == 0) && (hasA F || A == 0) && (hasB F || B == 0))) := by
      unfold Hid mayB; rw [show decide (1 ≤ (F : Int)) = true by simp; omega, show decide ((F : Int) ≤ 11) = true by simp; omega]; simp
    go_enter Tryz.func68, Tryz.ntmps68
    go_wp2_with (go_at_call 92; refine (find_yes F _ h1 h2 (by repeat (first | assumption | apply Env.alloc))).mono ?_; rintro e w1 ⟨rfl, hb⟩; have hc := hb.cell; have hz := hb.size1)
    all_goals
      go_ret
      refine ⟨?_, ?_⟩
      · rw [HM.out]; first | (simp_all [hasK, hasA, hasB]; done) | (simp_all [hasK, hasA, hasB]; intros; omega)
      · repeat (first | exact Fr.refl _ | assumption | apply Fr.alloc | refine Fr.trans ?_ (by assumption))
  · have HM : Hid (mayB F O K A B = false) := by
      unfold Hid mayB
      rcases Nat.lt_or_ge F 1 with h | h
      · rw [show decide (1 ≤ (F : Int)) = false by simp; omega]; simp
      · rw [show decide ((F : Int) ≤ 11) = false by simp; omega]; simp
    go_enter Tryz.func68, Tryz.ntmps68
    go_wp2_with (go_at_call 92; refine (find_no F _ (by omega) (by omega) (by omega)).mono ?_; rintro e w1 ⟨rfl, hb⟩; have hc := hb.cell; have hz := hb.size1)
    all_goals
      go_ret
      refine ⟨?_, ?_⟩
      · rw [HM.out]; rfl
      · repeat (first | exact Fr.refl _ | assumption | apply Fr.alloc | refine Fr.trans ?_ (by assumption))

/-- Whose an operation is, as op.Check tells. -/
def checkN (m F O K A B : Int) : Int := if mayB F O K A B && kModel F == m then 0 else 10

end Go.Proofs.YtfklgaeejmeipaaGreatDoor

/- The walks of umpire/op: an operation's bytes. No condition but the tables' content and the numbers' bounds. -/
namespace Go.Proofs.YtfklgaeejmeipaaGreatDoor
open Go.RowKit

/-- An operation's bytes. -/
def opBytes (F O K A B : Nat) : List UInt8 := [UInt8.ofNat F, UInt8.ofNat O] ++ (if hasK F then [UInt8.ofNat K] else []) ++ (if hasA F then be A 2 else []) ++ (if hasB F then be B 2 else [])

theorem Put_no (F O K A B : Nat) (w : World) (hE : Env w) (hF : F ≤ 255) (hm : mayB F O K A B = false) :
    Calls Tryz.prog 147 #[.agg #[.int .u8 F, .int .u8 O, .int .u8 K, .int .u16 A, .int .u16 B]] w fun e w' => e = .returned (.tuple #[.string ⟨#[]⟩, .int .i64 4]) ∧ Fr w w' := by
  have HM := Lib.hid hm
  clear hm
  go_enter Tryz.func147, Tryz.ntmps147
  go_wp2_with (go_at_call 68; refine (may_c F O K A B _ (by repeat (first | assumption | apply Env.alloc)) hF).mono ?_; rw [HM.out]; rintro e w1 ⟨rfl, hb⟩)
  go_ret2
  exact ⟨rfl, by repeat (first | exact Fr.refl _ | assumption | apply Fr.alloc | refine Fr.trans ?_ (by assumption))⟩
theorem below_alloc {w w1 : World} {X : Obj} (h : Fr (w.alloc X) w1) : Below (w.heap.size + 1) (w.alloc X) w1 := by
  have : Fr (w.alloc X) w1 := h
  unfold Fr at this
  simpa using this
theorem Below.fr1 {w w1 : World} {X : Obj} (h : Below (w.heap.size + 1) (w.alloc X) w1) : Fr w w1 := Fr.trans ((Fr.refl w).alloc X) (by unfold Fr; simpa using h)
/-- Two bytes of a number. -/
theorem two_bytes (n : Nat) : be n 2 = [UInt8.ofNat (n / 256), UInt8.ofNat n] := by simp [be]
theorem ownsRow_byte1 {w : World} {base g cap : Nat} {l : List UInt8} {x : Int} {b : UInt8} (hx : x = (b.toNat : Int)) {v : Value} (h : w.ownsRow base 5 1 v (l.length + 1) (byteCells l ++ [.int .u8 x])) : w.ownsRow base 5 1 v (l ++ [b]).length (byteCells (l ++ [b])) := by
  subst hx; rw [byteCells_append, List.length_append]; exact h
theorem ownsRow_byte2 {w : World} {base : Nat} {l : List UInt8} {x y : Int} {b c : UInt8} (hx : x = (b.toNat : Int)) (hy : y = (c.toNat : Int)) {v : Value} (h : w.ownsRow base 5 1 v (l.length + 2) (byteCells l ++ [.int .u8 x, .int .u8 y])) : w.ownsRow base 5 1 v (l ++ [b, c]).length (byteCells (l ++ [b, c])) := by
  subst hx hy; rw [byteCells_append, List.length_append]; exact h
theorem ownsRow_lit {base : Nat} {e : TypeId} (w : World) (cur : List Value) (hb : base ≤ w.heap.size) (hm : cur.length ≤ maxLen) :
    (w.alloc (.cells cur.toArray e)).ownsRow base e 1 (.slice (some ⟨w.heap.size, 0, none⟩) cur.length cur.length) cur.length cur :=
  ⟨by simp, .inr ⟨w.heap.size, cur.length, cur.toArray, rfl, hb, heap_alloc_new w _, Nat.le_refl _, hm, by simp, by simp⟩⟩
theorem u8mod (m : Nat) : (m : Int) % 256 = ((UInt8.ofNat m).toNat : Int) := by simp
theorem u8hi (m : Nat) : (m : Int) / 256 % 256 = ((UInt8.ofNat (m / 256)).toNat : Int) := by simp
theorem u8nat (m : Nat) (h : m < 256) : (m : Int) = ((UInt8.ofNat m).toNat : Int) := by rw [← u8mod]; omega

/-- The cells that Put reads, in whatever world keeps them. -/
theorem opBox {w wi : World} {F O K A B N : Int} {f : Nat} (h : Below (w.heap.size + 1) (w.alloc (.cells #[.int .u8 F, .int .u8 O, .int .u8 K, .int .u16 A, .int .u16 B] 24)) wi) (hg : w.cell? ⟨2, f, none⟩ = some (.int .u8 N)) :
    wi.cell? ⟨w.heap.size, 0, none⟩ = some (.int .u8 F) ∧ wi.cell? ⟨w.heap.size, 1, none⟩ = some (.int .u8 O) ∧ wi.cell? ⟨w.heap.size, 2, none⟩ = some (.int .u8 K) ∧ wi.cell? ⟨w.heap.size, 3, none⟩ = some (.int .u16 A) ∧ wi.cell? ⟨w.heap.size, 4, none⟩ = some (.int .u16 B) ∧
    wi.cell? ⟨2, f, none⟩ = some (.int .u8 N) ∧ 2 < wi.heap.size ∧ w.heap.size < wi.heap.size := by
  have hgz : 2 < w.heap.size := lt_of_cell hg
  have hs := h.size
  simp at hs
  have e : ∀ o, wi.cell? ⟨w.heap.size, o, none⟩ = (w.alloc (.cells #[.int .u8 F, .int .u8 O, .int .u8 K, .int .u16 A, .int .u16 B] 24)).cell? ⟨w.heap.size, o, none⟩ := fun o => Below.cell (p := ⟨w.heap.size, o, none⟩) h (by simp)
  refine ⟨by rw [e]; simp, by rw [e]; simp, by rw [e]; simp, by rw [e]; simp, by rw [e]; simp, ?_, by omega, by omega⟩
  rw [Below.cell (p := ⟨2, f, none⟩) h (by simp <;> omega), World.cell?_alloc_lt _ _ _ hgz]
  exact hg

-- GENERATED BELOW (gen_opput.py)

set_option maxHeartbeats 1000000 in
set_option maxRecDepth 100000 in
theorem Put_0 (F O K A B : Nat) (w : World) (hE : Env w) (h0 : 1 ≤ F) (h1 : F ≤ 11) (hO : O < 256) (hK : K < 256) (hm : mayB F O K A B = true) (hN : kNeeds F = 0) :
    Calls Tryz.prog 147 #[.agg #[.int .u8 F, .int .u8 O, .int .u8 K, .int .u16 A, .int .u16 B]] w fun e w' => e = .returned (.tuple #[.string ⟨(opBytes F O K A B).toArray⟩, .int .i64 0]) ∧ Fr w w' := by
  obtain ⟨i0, hi, hz0, hz1, hz2⟩ := info_parts Tryz.infoU8
  have hop : opBytes F O K A B = [UInt8.ofNat F, UInt8.ofNat O] := by
    have e1 : hasK F = false := by unfold hasK; rw [hN]; decide
    have e2 : hasA F = false := by unfold hasA; rw [hN]; decide
    have e3 : hasB F = false := by unfold hasB; rw [hN]; decide
    simp [opBytes, e1, e2, e3, two_bytes]
  have HOP := Lib.hid hop
  have HM := Lib.hid hm
  have hg := hE.kinds.needs F h0 h1
  rw [hN] at hg
  have HG := Lib.hid hg
  have HI := Lib.hid hi
  have HZ0 := Lib.hid hz0
  have HZ1 := Lib.hid hz1
  have HZ2 := Lib.hid hz2
  clear hm hop hN hg hi hz0 hz1 hz2
  go_enter Tryz.func147, Tryz.ntmps147
  go_wp2_with fail
  refine (may_c F O K A B _ (hE.alloc _) (by omega)).mono ?_
  rw [HM.out]
  rintro e w1 ⟨rfl, hb⟩
  have HB := below_alloc hb
  obtain ⟨b0, b1, b2, b3, b4, b5, b6, b7⟩ := opBox HB HG.out
  have hown := ownsRow_lit (base := w.heap.size + 1) (e := 5) w1 [.int .u8 F, .int .u8 O] (by omega) (by simp [maxLen])
  have hown1 : (w1.alloc (.cells #[.int .u8 F, .int .u8 O] 5)).ownsRow (w.heap.size + 1) 5 1 (.slice (some ⟨w1.heap.size, 0, none⟩) 2 2) [UInt8.ofNat F, UInt8.ofNat O].length (byteCells [UInt8.ofNat F, UInt8.ofNat O]) := by
    rw [show byteCells [UInt8.ofNat F, UInt8.ofNat O] = [.int .u8 F, .int .u8 O] by simp only [byteCells, List.map_cons, List.map_nil]; rw [← u8nat F (by omega), ← u8nat O hO]]
    exact hown
  clear hown hb
  go_wp2
  go_ret2
  exact ⟨by rw [HOP.out]; rfl, Below.fr1 (HB.alloc (by omega) _)⟩

set_option maxHeartbeats 1000000 in
set_option maxRecDepth 100000 in
theorem Put_1 (F O K A B : Nat) (w : World) (hE : Env w) (h0 : 1 ≤ F) (h1 : F ≤ 11) (hO : O < 256) (hK : K < 256) (hm : mayB F O K A B = true) (hN : kNeeds F = 1) :
    Calls Tryz.prog 147 #[.agg #[.int .u8 F, .int .u8 O, .int .u8 K, .int .u16 A, .int .u16 B]] w fun e w' => e = .returned (.tuple #[.string ⟨(opBytes F O K A B).toArray⟩, .int .i64 0]) ∧ Fr w w' := by
  obtain ⟨i0, hi, hz0, hz1, hz2⟩ := info_parts Tryz.infoU8
  have hop : opBytes F O K A B = ([UInt8.ofNat F, UInt8.ofNat O] ++ [UInt8.ofNat K]) := by
    have e1 : hasK F = true := by unfold hasK; rw [hN]; decide
    have e2 : hasA F = false := by unfold hasA; rw [hN]; decide
    have e3 : hasB F = false := by unfold hasB; rw [hN]; decide
    simp [opBytes, e1, e2, e3, two_bytes]
  have HOP := Lib.hid hop
  have HM := Lib.hid hm
  have hg := hE.kinds.needs F h0 h1
  rw [hN] at hg
  have HG := Lib.hid hg
  have HI := Lib.hid hi
  have HZ0 := Lib.hid hz0
  have HZ1 := Lib.hid hz1
  have HZ2 := Lib.hid hz2
  clear hm hop hN hg hi hz0 hz1 hz2
  go_enter Tryz.func147, Tryz.ntmps147
  go_wp2_with fail
  refine (may_c F O K A B _ (hE.alloc _) (by omega)).mono ?_
  rw [HM.out]
  rintro e w1 ⟨rfl, hb⟩
  have HB := below_alloc hb
  obtain ⟨b0, b1, b2, b3, b4, b5, b6, b7⟩ := opBox HB HG.out
  have hown := ownsRow_lit (base := w.heap.size + 1) (e := 5) w1 [.int .u8 F, .int .u8 O] (by omega) (by simp [maxLen])
  have hown1 : (w1.alloc (.cells #[.int .u8 F, .int .u8 O] 5)).ownsRow (w.heap.size + 1) 5 1 (.slice (some ⟨w1.heap.size, 0, none⟩) 2 2) [UInt8.ofNat F, UInt8.ofNat O].length (byteCells [UInt8.ofNat F, UInt8.ofNat O]) := by
    rw [show byteCells [UInt8.ofNat F, UInt8.ofNat O] = [.int .u8 F, .int .u8 O] by simp only [byteCells, List.map_cons, List.map_nil]; rw [← u8nat F (by omega), ← u8nat O hO]]
    exact hown
  clear hown hb
  go_wp2_with (at_builtin; refine wpList_append_own _ rfl (.tmp 20) (.tmp 23) 107 rfl (w.heap.size + 1) 5 i0 (.int .u8 0) 1 1 Tryz.underlying107 HI.out HZ0.out HZ1.out HZ2.out rfl (by decide) _ _ _ rfl (hown1.alloc _) ⟨(w1.heap.size + 1), 0, none⟩ 1 1 [.int .u8 K] rfl rfl ?c1 ?c2 ?c3 ?c4 ?c5 ?_)
  case c1 => intro j u hj; match j, hj with | 0, hj => simp at hj; subst hj; simp [Addr.add]
  case c2 => intro u hu; simp at hu; subst hu; rfl
  case c3 => simp [maxLen]
  case c4 => simp
  case c5 => simp; omega
  intro v2 w2 hn hgrow _
  have HB2 : Below (w.heap.size + 1) (w.alloc (.cells #[.int .u8 F, .int .u8 O, .int .u8 K, .int .u16 A, .int .u16 B] 24)) w2 := ((HB.alloc (by omega) _).alloc (by simp; omega) _).grown hgrow (by simp; omega) (fun k hk => ((hown1).lt k hk).1)
  have hown2 : w2.ownsRow (w.heap.size + 1) 5 1 v2 ([UInt8.ofNat F, UInt8.ofNat O] ++ [UInt8.ofNat K]).length (byteCells ([UInt8.ofNat F, UInt8.ofNat O] ++ [UInt8.ofNat K])) := ownsRow_byte1 (g := 0) (cap := 0) (u8nat K hK) hn
  clear hgrow hn b0 b1 b2 b3 b4 b5 b6 b7 hown1
  obtain ⟨b0, b1, b2, b3, b4, b5, b6, b7⟩ := opBox HB2 HG.out
  have hcv := conv_own hown2
  clear hown2
  go_wp2
  go_ret2
  exact ⟨by rw [HOP.out]; rfl, Below.fr1 HB2⟩

set_option maxHeartbeats 1000000 in
set_option maxRecDepth 100000 in
theorem Put_2 (F O K A B : Nat) (w : World) (hE : Env w) (h0 : 1 ≤ F) (h1 : F ≤ 11) (hO : O < 256) (hK : K < 256) (hm : mayB F O K A B = true) (hN : kNeeds F = 2) :
    Calls Tryz.prog 147 #[.agg #[.int .u8 F, .int .u8 O, .int .u8 K, .int .u16 A, .int .u16 B]] w fun e w' => e = .returned (.tuple #[.string ⟨(opBytes F O K A B).toArray⟩, .int .i64 0]) ∧ Fr w w' := by
  obtain ⟨i0, hi, hz0, hz1, hz2⟩ := info_parts Tryz.infoU8
  have hop : opBytes F O K A B = ([UInt8.ofNat F, UInt8.ofNat O] ++ [UInt8.ofNat (A / 256), UInt8.ofNat A]) := by
    have e1 : hasK F = false := by unfold hasK; rw [hN]; decide
    have e2 : hasA F = true := by unfold hasA; rw [hN]; decide
    have e3 : hasB F = false := by unfold hasB; rw [hN]; decide
    simp [opBytes, e1, e2, e3, two_bytes]
  have HOP := Lib.hid hop
  have HM := Lib.hid hm
  have hg := hE.kinds.needs F h0 h1
  rw [hN] at hg
  have HG := Lib.hid hg
  have HI := Lib.hid hi
  have HZ0 := Lib.hid hz0
  have HZ1 := Lib.hid hz1
  have HZ2 := Lib.hid hz2
  clear hm hop hN hg hi hz0 hz1 hz2
  go_enter Tryz.func147, Tryz.ntmps147
  go_wp2_with fail
  refine (may_c F O K A B _ (hE.alloc _) (by omega)).mono ?_
  rw [HM.out]
  rintro e w1 ⟨rfl, hb⟩
  have HB := below_alloc hb
  obtain ⟨b0, b1, b2, b3, b4, b5, b6, b7⟩ := opBox HB HG.out
  have hown := ownsRow_lit (base := w.heap.size + 1) (e := 5) w1 [.int .u8 F, .int .u8 O] (by omega) (by simp [maxLen])
  have hown1 : (w1.alloc (.cells #[.int .u8 F, .int .u8 O] 5)).ownsRow (w.heap.size + 1) 5 1 (.slice (some ⟨w1.heap.size, 0, none⟩) 2 2) [UInt8.ofNat F, UInt8.ofNat O].length (byteCells [UInt8.ofNat F, UInt8.ofNat O]) := by
    rw [show byteCells [UInt8.ofNat F, UInt8.ofNat O] = [.int .u8 F, .int .u8 O] by simp only [byteCells, List.map_cons, List.map_nil]; rw [← u8nat F (by omega), ← u8nat O hO]]
    exact hown
  clear hown hb
  go_wp2_with (at_builtin; refine wpList_append_own _ rfl (.tmp 32) (.tmp 40) 107 rfl (w.heap.size + 1) 5 i0 (.int .u8 0) 1 1 Tryz.underlying107 HI.out HZ0.out HZ1.out HZ2.out rfl (by decide) _ _ _ rfl (hown1.alloc _) ⟨(w1.heap.size + 1), 0, none⟩ 2 2 [.int .u8 ((A : Int) / 256 % 256), .int .u8 ((A : Int) % 256)] rfl rfl ?c1 ?c2 ?c3 ?c4 ?c5 ?_)
  case c1 => intro j u hj; match j, hj with | 0, hj => (simp at hj; subst hj; simp [Addr.add]) | 1, hj => (simp at hj; subst hj; simp [Addr.add])
  case c2 => intro u hu; simp at hu; rcases hu with rfl | rfl <;> rfl
  case c3 => simp [maxLen]
  case c4 => simp
  case c5 => simp; omega
  intro v2 w2 hn hgrow _
  have HB2 : Below (w.heap.size + 1) (w.alloc (.cells #[.int .u8 F, .int .u8 O, .int .u8 K, .int .u16 A, .int .u16 B] 24)) w2 := ((HB.alloc (by omega) _).alloc (by simp; omega) _).grown hgrow (by simp; omega) (fun k hk => ((hown1).lt k hk).1)
  have hown2 : w2.ownsRow (w.heap.size + 1) 5 1 v2 ([UInt8.ofNat F, UInt8.ofNat O] ++ [UInt8.ofNat (A / 256), UInt8.ofNat A]).length (byteCells ([UInt8.ofNat F, UInt8.ofNat O] ++ [UInt8.ofNat (A / 256), UInt8.ofNat A])) := ownsRow_byte2 (u8hi A) (u8mod A) hn
  clear hgrow hn b0 b1 b2 b3 b4 b5 b6 b7 hown1
  obtain ⟨b0, b1, b2, b3, b4, b5, b6, b7⟩ := opBox HB2 HG.out
  have hcv := conv_own hown2
  clear hown2
  go_wp2
  go_ret2
  exact ⟨by rw [HOP.out]; rfl, Below.fr1 HB2⟩

set_option maxHeartbeats 1000000 in
set_option maxRecDepth 100000 in
theorem Put_3 (F O K A B : Nat) (w : World) (hE : Env w) (h0 : 1 ≤ F) (h1 : F ≤ 11) (hO : O < 256) (hK : K < 256) (hm : mayB F O K A B = true) (hN : kNeeds F = 3) :
    Calls Tryz.prog 147 #[.agg #[.int .u8 F, .int .u8 O, .int .u8 K, .int .u16 A, .int .u16 B]] w fun e w' => e = .returned (.tuple #[.string ⟨(opBytes F O K A B).toArray⟩, .int .i64 0]) ∧ Fr w w' := by
  obtain ⟨i0, hi, hz0, hz1, hz2⟩ := info_parts Tryz.infoU8
  have hop : opBytes F O K A B = (([UInt8.ofNat F, UInt8.ofNat O] ++ [UInt8.ofNat K]) ++ [UInt8.ofNat (A / 256), UInt8.ofNat A]) := by
    have e1 : hasK F = true := by unfold hasK; rw [hN]; decide
    have e2 : hasA F = true := by unfold hasA; rw [hN]; decide
    have e3 : hasB F = false := by unfold hasB; rw [hN]; decide
    simp [opBytes, e1, e2, e3, two_bytes]
  have HOP := Lib.hid hop
  have HM := Lib.hid hm
  have hg := hE.kinds.needs F h0 h1
  rw [hN] at hg
  have HG := Lib.hid hg
  have HI := Lib.hid hi
  have HZ0 := Lib.hid hz0
  have HZ1 := Lib.hid hz1
  have HZ2 := Lib.hid hz2
  clear hm hop hN hg hi hz0 hz1 hz2
  go_enter Tryz.func147, Tryz.ntmps147
  go_wp2_with fail
  refine (may_c F O K A B _ (hE.alloc _) (by omega)).mono ?_
  rw [HM.out]
  rintro e w1 ⟨rfl, hb⟩
  have HB := below_alloc hb
  obtain ⟨b0, b1, b2, b3, b4, b5, b6, b7⟩ := opBox HB HG.out
  have hown := ownsRow_lit (base := w.heap.size + 1) (e := 5) w1 [.int .u8 F, .int .u8 O] (by omega) (by simp [maxLen])
  have hown1 : (w1.alloc (.cells #[.int .u8 F, .int .u8 O] 5)).ownsRow (w.heap.size + 1) 5 1 (.slice (some ⟨w1.heap.size, 0, none⟩) 2 2) [UInt8.ofNat F, UInt8.ofNat O].length (byteCells [UInt8.ofNat F, UInt8.ofNat O]) := by
    rw [show byteCells [UInt8.ofNat F, UInt8.ofNat O] = [.int .u8 F, .int .u8 O] by simp only [byteCells, List.map_cons, List.map_nil]; rw [← u8nat F (by omega), ← u8nat O hO]]
    exact hown
  clear hown hb
  go_wp2_with (at_builtin; refine wpList_append_own _ rfl (.tmp 20) (.tmp 23) 107 rfl (w.heap.size + 1) 5 i0 (.int .u8 0) 1 1 Tryz.underlying107 HI.out HZ0.out HZ1.out HZ2.out rfl (by decide) _ _ _ rfl (hown1.alloc _) ⟨(w1.heap.size + 1), 0, none⟩ 1 1 [.int .u8 K] rfl rfl ?c1 ?c2 ?c3 ?c4 ?c5 ?_)
  case c1 => intro j u hj; match j, hj with | 0, hj => simp at hj; subst hj; simp [Addr.add]
  case c2 => intro u hu; simp at hu; subst hu; rfl
  case c3 => simp [maxLen]
  case c4 => simp
  case c5 => simp; omega
  intro v2 w2 hn hgrow _
  have HB2 : Below (w.heap.size + 1) (w.alloc (.cells #[.int .u8 F, .int .u8 O, .int .u8 K, .int .u16 A, .int .u16 B] 24)) w2 := ((HB.alloc (by omega) _).alloc (by simp; omega) _).grown hgrow (by simp; omega) (fun k hk => ((hown1).lt k hk).1)
  have hown2 : w2.ownsRow (w.heap.size + 1) 5 1 v2 ([UInt8.ofNat F, UInt8.ofNat O] ++ [UInt8.ofNat K]).length (byteCells ([UInt8.ofNat F, UInt8.ofNat O] ++ [UInt8.ofNat K])) := ownsRow_byte1 (g := 0) (cap := 0) (u8nat K hK) hn
  clear hgrow hn b0 b1 b2 b3 b4 b5 b6 b7 hown1
  obtain ⟨b0, b1, b2, b3, b4, b5, b6, b7⟩ := opBox HB2 HG.out
  go_wp2_with (at_builtin; refine wpList_append_own _ rfl (.tmp 32) (.tmp 40) 107 rfl (w.heap.size + 1) 5 i0 (.int .u8 0) 1 1 Tryz.underlying107 HI.out HZ0.out HZ1.out HZ2.out rfl (by decide) _ _ _ rfl (hown2.alloc _) ⟨w2.heap.size, 0, none⟩ 2 2 [.int .u8 ((A : Int) / 256 % 256), .int .u8 ((A : Int) % 256)] rfl rfl ?c1 ?c2 ?c3 ?c4 ?c5 ?_)
  case c1 => intro j u hj; match j, hj with | 0, hj => (simp at hj; subst hj; simp [Addr.add]) | 1, hj => (simp at hj; subst hj; simp [Addr.add])
  case c2 => intro u hu; simp at hu; rcases hu with rfl | rfl <;> rfl
  case c3 => simp [maxLen]
  case c4 => simp
  case c5 => simp; omega
  intro v3 w3 hn hgrow _
  have HB3 : Below (w.heap.size + 1) (w.alloc (.cells #[.int .u8 F, .int .u8 O, .int .u8 K, .int .u16 A, .int .u16 B] 24)) w3 := (HB2.alloc (by omega) _).grown hgrow (by simp; omega) (fun k hk => ((hown2).lt k hk).1)
  have hown3 : w3.ownsRow (w.heap.size + 1) 5 1 v3 (([UInt8.ofNat F, UInt8.ofNat O] ++ [UInt8.ofNat K]) ++ [UInt8.ofNat (A / 256), UInt8.ofNat A]).length (byteCells (([UInt8.ofNat F, UInt8.ofNat O] ++ [UInt8.ofNat K]) ++ [UInt8.ofNat (A / 256), UInt8.ofNat A])) := ownsRow_byte2 (u8hi A) (u8mod A) hn
  clear hgrow hn b0 b1 b2 b3 b4 b5 b6 b7 hown2
  obtain ⟨b0, b1, b2, b3, b4, b5, b6, b7⟩ := opBox HB3 HG.out
  have hcv := conv_own hown3
  clear hown3
  go_wp2
  go_ret2
  exact ⟨by rw [HOP.out]; rfl, Below.fr1 HB3⟩

set_option maxHeartbeats 1000000 in
set_option maxRecDepth 100000 in
theorem Put_6 (F O K A B : Nat) (w : World) (hE : Env w) (h0 : 1 ≤ F) (h1 : F ≤ 11) (hO : O < 256) (hK : K < 256) (hm : mayB F O K A B = true) (hN : kNeeds F = 6) :
    Calls Tryz.prog 147 #[.agg #[.int .u8 F, .int .u8 O, .int .u8 K, .int .u16 A, .int .u16 B]] w fun e w' => e = .returned (.tuple #[.string ⟨(opBytes F O K A B).toArray⟩, .int .i64 0]) ∧ Fr w w' := by
  obtain ⟨i0, hi, hz0, hz1, hz2⟩ := info_parts Tryz.infoU8
  have hop : opBytes F O K A B = (([UInt8.ofNat F, UInt8.ofNat O] ++ [UInt8.ofNat (A / 256), UInt8.ofNat A]) ++ [UInt8.ofNat (B / 256), UInt8.ofNat B]) := by
    have e1 : hasK F = false := by unfold hasK; rw [hN]; decide
    have e2 : hasA F = true := by unfold hasA; rw [hN]; decide
    have e3 : hasB F = true := by unfold hasB; rw [hN]; decide
    simp [opBytes, e1, e2, e3, two_bytes]
  have HOP := Lib.hid hop
  have HM := Lib.hid hm
  have hg := hE.kinds.needs F h0 h1
  rw [hN] at hg
  have HG := Lib.hid hg
  have HI := Lib.hid hi
  have HZ0 := Lib.hid hz0
  have HZ1 := Lib.hid hz1
  have HZ2 := Lib.hid hz2
  clear hm hop hN hg hi hz0 hz1 hz2
  go_enter Tryz.func147, Tryz.ntmps147
  go_wp2_with fail
  refine (may_c F O K A B _ (hE.alloc _) (by omega)).mono ?_
  rw [HM.out]
  rintro e w1 ⟨rfl, hb⟩
  have HB := below_alloc hb
  obtain ⟨b0, b1, b2, b3, b4, b5, b6, b7⟩ := opBox HB HG.out
  have hown := ownsRow_lit (base := w.heap.size + 1) (e := 5) w1 [.int .u8 F, .int .u8 O] (by omega) (by simp [maxLen])
  have hown1 : (w1.alloc (.cells #[.int .u8 F, .int .u8 O] 5)).ownsRow (w.heap.size + 1) 5 1 (.slice (some ⟨w1.heap.size, 0, none⟩) 2 2) [UInt8.ofNat F, UInt8.ofNat O].length (byteCells [UInt8.ofNat F, UInt8.ofNat O]) := by
    rw [show byteCells [UInt8.ofNat F, UInt8.ofNat O] = [.int .u8 F, .int .u8 O] by simp only [byteCells, List.map_cons, List.map_nil]; rw [← u8nat F (by omega), ← u8nat O hO]]
    exact hown
  clear hown hb
  go_wp2_with (at_builtin; refine wpList_append_own _ rfl (.tmp 32) (.tmp 40) 107 rfl (w.heap.size + 1) 5 i0 (.int .u8 0) 1 1 Tryz.underlying107 HI.out HZ0.out HZ1.out HZ2.out rfl (by decide) _ _ _ rfl (hown1.alloc _) ⟨(w1.heap.size + 1), 0, none⟩ 2 2 [.int .u8 ((A : Int) / 256 % 256), .int .u8 ((A : Int) % 256)] rfl rfl ?c1 ?c2 ?c3 ?c4 ?c5 ?_)
  case c1 => intro j u hj; match j, hj with | 0, hj => (simp at hj; subst hj; simp [Addr.add]) | 1, hj => (simp at hj; subst hj; simp [Addr.add])
  case c2 => intro u hu; simp at hu; rcases hu with rfl | rfl <;> rfl
  case c3 => simp [maxLen]
  case c4 => simp
  case c5 => simp; omega
  intro v2 w2 hn hgrow _
  have HB2 : Below (w.heap.size + 1) (w.alloc (.cells #[.int .u8 F, .int .u8 O, .int .u8 K, .int .u16 A, .int .u16 B] 24)) w2 := ((HB.alloc (by omega) _).alloc (by simp; omega) _).grown hgrow (by simp; omega) (fun k hk => ((hown1).lt k hk).1)
  have hown2 : w2.ownsRow (w.heap.size + 1) 5 1 v2 ([UInt8.ofNat F, UInt8.ofNat O] ++ [UInt8.ofNat (A / 256), UInt8.ofNat A]).length (byteCells ([UInt8.ofNat F, UInt8.ofNat O] ++ [UInt8.ofNat (A / 256), UInt8.ofNat A])) := ownsRow_byte2 (u8hi A) (u8mod A) hn
  clear hgrow hn b0 b1 b2 b3 b4 b5 b6 b7 hown1
  obtain ⟨b0, b1, b2, b3, b4, b5, b6, b7⟩ := opBox HB2 HG.out
  go_wp2_with (at_builtin; refine wpList_append_own _ rfl (.tmp 49) (.tmp 57) 107 rfl (w.heap.size + 1) 5 i0 (.int .u8 0) 1 1 Tryz.underlying107 HI.out HZ0.out HZ1.out HZ2.out rfl (by decide) _ _ _ rfl (hown2.alloc _) ⟨w2.heap.size, 0, none⟩ 2 2 [.int .u8 ((B : Int) / 256 % 256), .int .u8 ((B : Int) % 256)] rfl rfl ?c1 ?c2 ?c3 ?c4 ?c5 ?_)
  case c1 => intro j u hj; match j, hj with | 0, hj => (simp at hj; subst hj; simp [Addr.add]) | 1, hj => (simp at hj; subst hj; simp [Addr.add])
  case c2 => intro u hu; simp at hu; rcases hu with rfl | rfl <;> rfl
  case c3 => simp [maxLen]
  case c4 => simp
  case c5 => simp; omega
  intro v3 w3 hn hgrow _
  have HB3 : Below (w.heap.size + 1) (w.alloc (.cells #[.int .u8 F, .int .u8 O, .int .u8 K, .int .u16 A, .int .u16 B] 24)) w3 := (HB2.alloc (by omega) _).grown hgrow (by simp; omega) (fun k hk => ((hown2).lt k hk).1)
  have hown3 : w3.ownsRow (w.heap.size + 1) 5 1 v3 (([UInt8.ofNat F, UInt8.ofNat O] ++ [UInt8.ofNat (A / 256), UInt8.ofNat A]) ++ [UInt8.ofNat (B / 256), UInt8.ofNat B]).length (byteCells (([UInt8.ofNat F, UInt8.ofNat O] ++ [UInt8.ofNat (A / 256), UInt8.ofNat A]) ++ [UInt8.ofNat (B / 256), UInt8.ofNat B])) := ownsRow_byte2 (u8hi B) (u8mod B) hn
  clear hgrow hn b0 b1 b2 b3 b4 b5 b6 b7 hown2
  obtain ⟨b0, b1, b2, b3, b4, b5, b6, b7⟩ := opBox HB3 HG.out
  have hcv := conv_own hown3
  clear hown3
  go_wp2
  go_ret2
  exact ⟨by rw [HOP.out]; rfl, Below.fr1 HB3⟩

set_option maxHeartbeats 1000000 in
set_option maxRecDepth 100000 in
theorem Put_7 (F O K A B : Nat) (w : World) (hE : Env w) (h0 : 1 ≤ F) (h1 : F ≤ 11) (hO : O < 256) (hK : K < 256) (hm : mayB F O K A B = true) (hN : kNeeds F = 7) :
    Calls Tryz.prog 147 #[.agg #[.int .u8 F, .int .u8 O, .int .u8 K, .int .u16 A, .int .u16 B]] w fun e w' => e = .returned (.tuple #[.string ⟨(opBytes F O K A B).toArray⟩, .int .i64 0]) ∧ Fr w w' := by
  obtain ⟨i0, hi, hz0, hz1, hz2⟩ := info_parts Tryz.infoU8
  have hop : opBytes F O K A B = ((([UInt8.ofNat F, UInt8.ofNat O] ++ [UInt8.ofNat K]) ++ [UInt8.ofNat (A / 256), UInt8.ofNat A]) ++ [UInt8.ofNat (B / 256), UInt8.ofNat B]) := by
    have e1 : hasK F = true := by unfold hasK; rw [hN]; decide
    have e2 : hasA F = true := by unfold hasA; rw [hN]; decide
    have e3 : hasB F = true := by unfold hasB; rw [hN]; decide
    simp [opBytes, e1, e2, e3, two_bytes]
  have HOP := Lib.hid hop
  have HM := Lib.hid hm
  have hg := hE.kinds.needs F h0 h1
  rw [hN] at hg
  have HG := Lib.hid hg
  have HI := Lib.hid hi
  have HZ0 := Lib.hid hz0
  have HZ1 := Lib.hid hz1
  have HZ2 := Lib.hid hz2
  clear hm hop hN hg hi hz0 hz1 hz2
  go_enter Tryz.func147, Tryz.ntmps147
  go_wp2_with fail
  refine (may_c F O K A B _ (hE.alloc _) (by omega)).mono ?_
  rw [HM.out]
  rintro e w1 ⟨rfl, hb⟩
  have HB := below_alloc hb
  obtain ⟨b0, b1, b2, b3, b4, b5, b6, b7⟩ := opBox HB HG.out
  have hown := ownsRow_lit (base := w.heap.size + 1) (e := 5) w1 [.int .u8 F, .int .u8 O] (by omega) (by simp [maxLen])
  have hown1 : (w1.alloc (.cells #[.int .u8 F, .int .u8 O] 5)).ownsRow (w.heap.size + 1) 5 1 (.slice (some ⟨w1.heap.size, 0, none⟩) 2 2) [UInt8.ofNat F, UInt8.ofNat O].length (byteCells [UInt8.ofNat F, UInt8.ofNat O]) := by
    rw [show byteCells [UInt8.ofNat F, UInt8.ofNat O] = [.int .u8 F, .int .u8 O] by simp only [byteCells, List.map_cons, List.map_nil]; rw [← u8nat F (by omega), ← u8nat O hO]]
    exact hown
  clear hown hb
  go_wp2_with (at_builtin; refine wpList_append_own _ rfl (.tmp 20) (.tmp 23) 107 rfl (w.heap.size + 1) 5 i0 (.int .u8 0) 1 1 Tryz.underlying107 HI.out HZ0.out HZ1.out HZ2.out rfl (by decide) _ _ _ rfl (hown1.alloc _) ⟨(w1.heap.size + 1), 0, none⟩ 1 1 [.int .u8 K] rfl rfl ?c1 ?c2 ?c3 ?c4 ?c5 ?_)
  case c1 => intro j u hj; match j, hj with | 0, hj => simp at hj; subst hj; simp [Addr.add]
  case c2 => intro u hu; simp at hu; subst hu; rfl
  case c3 => simp [maxLen]
  case c4 => simp
  case c5 => simp; omega
  intro v2 w2 hn hgrow _
  have HB2 : Below (w.heap.size + 1) (w.alloc (.cells #[.int .u8 F, .int .u8 O, .int .u8 K, .int .u16 A, .int .u16 B] 24)) w2 := ((HB.alloc (by omega) _).alloc (by simp; omega) _).grown hgrow (by simp; omega) (fun k hk => ((hown1).lt k hk).1)
  have hown2 : w2.ownsRow (w.heap.size + 1) 5 1 v2 ([UInt8.ofNat F, UInt8.ofNat O] ++ [UInt8.ofNat K]).length (byteCells ([UInt8.ofNat F, UInt8.ofNat O] ++ [UInt8.ofNat K])) := ownsRow_byte1 (g := 0) (cap := 0) (u8nat K hK) hn
  clear hgrow hn b0 b1 b2 b3 b4 b5 b6 b7 hown1
  obtain ⟨b0, b1, b2, b3, b4, b5, b6, b7⟩ := opBox HB2 HG.out
  go_wp2_with (at_builtin; refine wpList_append_own _ rfl (.tmp 32) (.tmp 40) 107 rfl (w.heap.size + 1) 5 i0 (.int .u8 0) 1 1 Tryz.underlying107 HI.out HZ0.out HZ1.out HZ2.out rfl (by decide) _ _ _ rfl (hown2.alloc _) ⟨w2.heap.size, 0, none⟩ 2 2 [.int .u8 ((A : Int) / 256 % 256), .int .u8 ((A : Int) % 256)] rfl rfl ?c1 ?c2 ?c3 ?c4 ?c5 ?_)
  case c1 => intro j u hj; match j, hj with | 0, hj => (simp at hj; subst hj; simp [Addr.add]) | 1, hj => (simp at hj; subst hj; simp [Addr.add])
  case c2 => intro u hu; simp at hu; rcases hu with rfl | rfl <;> rfl
  case c3 => simp [maxLen]
  case c4 => simp
  case c5 => simp; omega
  intro v3 w3 hn hgrow _
  have HB3 : Below (w.heap.size + 1) (w.alloc (.cells #[.int .u8 F, .int .u8 O, .int .u8 K, .int .u16 A, .int .u16 B] 24)) w3 := (HB2.alloc (by omega) _).grown hgrow (by simp; omega) (fun k hk => ((hown2).lt k hk).1)
  have hown3 : w3.ownsRow (w.heap.size + 1) 5 1 v3 (([UInt8.ofNat F, UInt8.ofNat O] ++ [UInt8.ofNat K]) ++ [UInt8.ofNat (A / 256), UInt8.ofNat A]).length (byteCells (([UInt8.ofNat F, UInt8.ofNat O] ++ [UInt8.ofNat K]) ++ [UInt8.ofNat (A / 256), UInt8.ofNat A])) := ownsRow_byte2 (u8hi A) (u8mod A) hn
  clear hgrow hn b0 b1 b2 b3 b4 b5 b6 b7 hown2
  obtain ⟨b0, b1, b2, b3, b4, b5, b6, b7⟩ := opBox HB3 HG.out
  go_wp2_with (at_builtin; refine wpList_append_own _ rfl (.tmp 49) (.tmp 57) 107 rfl (w.heap.size + 1) 5 i0 (.int .u8 0) 1 1 Tryz.underlying107 HI.out HZ0.out HZ1.out HZ2.out rfl (by decide) _ _ _ rfl (hown3.alloc _) ⟨w3.heap.size, 0, none⟩ 2 2 [.int .u8 ((B : Int) / 256 % 256), .int .u8 ((B : Int) % 256)] rfl rfl ?c1 ?c2 ?c3 ?c4 ?c5 ?_)
  case c1 => intro j u hj; match j, hj with | 0, hj => (simp at hj; subst hj; simp [Addr.add]) | 1, hj => (simp at hj; subst hj; simp [Addr.add])
  case c2 => intro u hu; simp at hu; rcases hu with rfl | rfl <;> rfl
  case c3 => simp [maxLen]
  case c4 => simp
  case c5 => simp; omega
  intro v4 w4 hn hgrow _
  have HB4 : Below (w.heap.size + 1) (w.alloc (.cells #[.int .u8 F, .int .u8 O, .int .u8 K, .int .u16 A, .int .u16 B] 24)) w4 := (HB3.alloc (by omega) _).grown hgrow (by simp; omega) (fun k hk => ((hown3).lt k hk).1)
  have hown4 : w4.ownsRow (w.heap.size + 1) 5 1 v4 ((([UInt8.ofNat F, UInt8.ofNat O] ++ [UInt8.ofNat K]) ++ [UInt8.ofNat (A / 256), UInt8.ofNat A]) ++ [UInt8.ofNat (B / 256), UInt8.ofNat B]).length (byteCells ((([UInt8.ofNat F, UInt8.ofNat O] ++ [UInt8.ofNat K]) ++ [UInt8.ofNat (A / 256), UInt8.ofNat A]) ++ [UInt8.ofNat (B / 256), UInt8.ofNat B])) := ownsRow_byte2 (u8hi B) (u8mod B) hn
  clear hgrow hn b0 b1 b2 b3 b4 b5 b6 b7 hown3
  obtain ⟨b0, b1, b2, b3, b4, b5, b6, b7⟩ := opBox HB4 HG.out
  have hcv := conv_own hown4
  clear hown4
  go_wp2
  go_ret2
  exact ⟨by rw [HOP.out]; rfl, Below.fr1 HB4⟩

theorem kNeeds_cases {f : Int} (h0 : 1 ≤ f) (h1 : f ≤ 11) : kNeeds f = 0 ∨ kNeeds f = 1 ∨ kNeeds f = 2 ∨ kNeeds f = 3 ∨ kNeeds f = 6 ∨ kNeeds f = 7 := by
  rcases (show f = 1 ∨ f = 2 ∨ f = 3 ∨ f = 4 ∨ f = 5 ∨ f = 6 ∨ f = 7 ∨ f = 8 ∨ f = 9 ∨ f = 10 ∨ f = 11 by omega) with rfl | rfl | rfl | rfl | rfl | rfl | rfl | rfl | rfl | rfl | rfl <;> simp [kNeeds]
/-- What op.Put tells: the bytes, and 0; or none, and 4. -/
def putOp (F O K A B : Nat) : List UInt8 × Nat := if mayB F O K A B then (opBytes F O K A B, 0) else ([], 4)
theorem mayB_F {F O K A B : Int} (h : mayB F O K A B = true) : 1 ≤ F ∧ F ≤ 11 ∧ O < 8 ∧ K < 8 := by
  simp only [mayB, Bool.and_eq_true, decide_eq_true_eq] at h
  exact ⟨h.1.1.1.1.1.1, h.1.1.1.1.1.2, h.1.1.1.1.2, h.1.1.1.2⟩
theorem opPut_c (F O K A B : Nat) (w : World) (hE : Env w) (hF : F < 256) (hO : O < 256) (hK : K < 256) :
    Calls Tryz.prog 147 #[.agg #[.int .u8 F, .int .u8 O, .int .u8 K, .int .u16 A, .int .u16 B]] w fun e w' => e = .returned (.tuple #[.string ⟨(putOp F O K A B).1.toArray⟩, .int .i64 (putOp F O K A B).2]) ∧ Fr w w' := by
  unfold putOp
  cases hm : mayB F O K A B
  · exact Put_no F O K A B w hE (by omega) hm
  · obtain ⟨h0, h1, _, _⟩ := mayB_F hm
    rcases kNeeds_cases h0 h1 with h | h | h | h | h | h
    · exact Put_0 F O K A B w hE (by omega) (by omega) hO hK hm h
    · exact Put_1 F O K A B w hE (by omega) (by omega) hO hK hm h
    · exact Put_2 F O K A B w hE (by omega) (by omega) hO hK hm h
    · exact Put_3 F O K A B w hE (by omega) (by omega) hO hK hm h
    · exact Put_6 F O K A B w hE (by omega) (by omega) hO hK hm h
    · exact Put_7 F O K A B w hE (by omega) (by omega) hO hK hm h
end Go.Proofs.YtfklgaeejmeipaaGreatDoor

/- The walks of umpireref04: Of, May, Check: as op's own (mayB, checkN). No condition but the numbers' bounds. -/
namespace Go.Proofs.YtfklgaeejmeipaaGreatDoor
open Go.RowKit

theorem eleven {f : Int} (h0 : 1 ≤ f) (h1 : f ≤ 11) : f = 1 ∨ f = 2 ∨ f = 3 ∨ f = 4 ∨ f = 5 ∨ f = 6 ∨ f = 7 ∨ f = 8 ∨ f = 9 ∨ f = 10 ∨ f = 11 := by omega

theorem rOf_1 (w : World) :
    Calls Tryz.prog 72 #[.int .u8 1] w fun e w' => e = .returned (.tuple #[.agg #[.int .i64 0, .string ⟨#[114, 101, 97, 100]⟩, .bool false, .bool false, .bool false], .bool true]) ∧ Fr w w' := by
  go_enter Tryz.func72, Tryz.ntmps72
  go_wp2
  exact bodyPost_ret (v := .tuple #[.agg #[.int .i64 0, .string ⟨#[114, 101, 97, 100]⟩, .bool false, .bool false, .bool false], .bool true]) (by simp [results, Tryz.results72, go_sem]) rfl ⟨rfl, (Fr.refl _).alloc _⟩
theorem rOf_2 (w : World) :
    Calls Tryz.prog 72 #[.int .u8 2] w fun e w' => e = .returned (.tuple #[.agg #[.int .i64 0, .string ⟨#[119, 114, 105, 116, 101]⟩, .bool false, .bool true, .bool false], .bool true]) ∧ Fr w w' := by
  go_enter Tryz.func72, Tryz.ntmps72
  go_wp2
  exact bodyPost_ret (v := .tuple #[.agg #[.int .i64 0, .string ⟨#[119, 114, 105, 116, 101]⟩, .bool false, .bool true, .bool false], .bool true]) (by simp [results, Tryz.results72, go_sem]) rfl ⟨rfl, (Fr.refl _).alloc _⟩
theorem rOf_3 (w : World) :
    Calls Tryz.prog 72 #[.int .u8 3] w fun e w' => e = .returned (.tuple #[.agg #[.int .i64 0, .string ⟨#[99, 97, 115]⟩, .bool false, .bool true, .bool true], .bool true]) ∧ Fr w w' := by
  go_enter Tryz.func72, Tryz.ntmps72
  go_wp2
  exact bodyPost_ret (v := .tuple #[.agg #[.int .i64 0, .string ⟨#[99, 97, 115]⟩, .bool false, .bool true, .bool true], .bool true]) (by simp [results, Tryz.results72, go_sem]) rfl ⟨rfl, (Fr.refl _).alloc _⟩
theorem rOf_4 (w : World) :
    Calls Tryz.prog 72 #[.int .u8 4] w fun e w' => e = .returned (.tuple #[.agg #[.int .i64 1, .string ⟨#[101, 110, 113]⟩, .bool false, .bool true, .bool false], .bool true]) ∧ Fr w w' := by
  go_enter Tryz.func72, Tryz.ntmps72
  go_wp2
  exact bodyPost_ret (v := .tuple #[.agg #[.int .i64 1, .string ⟨#[101, 110, 113]⟩, .bool false, .bool true, .bool false], .bool true]) (by simp [results, Tryz.results72, go_sem]) rfl ⟨rfl, (Fr.refl _).alloc _⟩
theorem rOf_5 (w : World) :
    Calls Tryz.prog 72 #[.int .u8 5] w fun e w' => e = .returned (.tuple #[.agg #[.int .i64 1, .string ⟨#[100, 101, 113]⟩, .bool false, .bool false, .bool false], .bool true]) ∧ Fr w w' := by
  go_enter Tryz.func72, Tryz.ntmps72
  go_wp2
  exact bodyPost_ret (v := .tuple #[.agg #[.int .i64 1, .string ⟨#[100, 101, 113]⟩, .bool false, .bool false, .bool false], .bool true]) (by simp [results, Tryz.results72, go_sem]) rfl ⟨rfl, (Fr.refl _).alloc _⟩
theorem rOf_6 (w : World) :
    Calls Tryz.prog 72 #[.int .u8 6] w fun e w' => e = .returned (.tuple #[.agg #[.int .i64 2, .string ⟨#[103, 101, 116]⟩, .bool true, .bool false, .bool false], .bool true]) ∧ Fr w w' := by
  go_enter Tryz.func72, Tryz.ntmps72
  go_wp2
  exact bodyPost_ret (v := .tuple #[.agg #[.int .i64 2, .string ⟨#[103, 101, 116]⟩, .bool true, .bool false, .bool false], .bool true]) (by simp [results, Tryz.results72, go_sem]) rfl ⟨rfl, (Fr.refl _).alloc _⟩
theorem rOf_7 (w : World) :
    Calls Tryz.prog 72 #[.int .u8 7] w fun e w' => e = .returned (.tuple #[.agg #[.int .i64 2, .string ⟨#[112, 117, 116]⟩, .bool true, .bool true, .bool false], .bool true]) ∧ Fr w w' := by
  go_enter Tryz.func72, Tryz.ntmps72
  go_wp2
  exact bodyPost_ret (v := .tuple #[.agg #[.int .i64 2, .string ⟨#[112, 117, 116]⟩, .bool true, .bool true, .bool false], .bool true]) (by simp [results, Tryz.results72, go_sem]) rfl ⟨rfl, (Fr.refl _).alloc _⟩
theorem rOf_8 (w : World) :
    Calls Tryz.prog 72 #[.int .u8 8] w fun e w' => e = .returned (.tuple #[.agg #[.int .i64 2, .string ⟨#[100, 101, 108]⟩, .bool true, .bool false, .bool false], .bool true]) ∧ Fr w w' := by
  go_enter Tryz.func72, Tryz.ntmps72
  go_wp2
  exact bodyPost_ret (v := .tuple #[.agg #[.int .i64 2, .string ⟨#[100, 101, 108]⟩, .bool true, .bool false, .bool false], .bool true]) (by simp [results, Tryz.results72, go_sem]) rfl ⟨rfl, (Fr.refl _).alloc _⟩
theorem rOf_9 (w : World) :
    Calls Tryz.prog 72 #[.int .u8 9] w fun e w' => e = .returned (.tuple #[.agg #[.int .i64 2, .string ⟨#[115, 119, 97, 112]⟩, .bool true, .bool true, .bool true], .bool true]) ∧ Fr w w' := by
  go_enter Tryz.func72, Tryz.ntmps72
  go_wp2
  exact bodyPost_ret (v := .tuple #[.agg #[.int .i64 2, .string ⟨#[115, 119, 97, 112]⟩, .bool true, .bool true, .bool true], .bool true]) (by simp [results, Tryz.results72, go_sem]) rfl ⟨rfl, (Fr.refl _).alloc _⟩
theorem rOf_10 (w : World) :
    Calls Tryz.prog 72 #[.int .u8 10] w fun e w' => e = .returned (.tuple #[.agg #[.int .i64 3, .string ⟨#[97, 99, 113, 117, 105, 114, 101]⟩, .bool false, .bool false, .bool false], .bool true]) ∧ Fr w w' := by
  go_enter Tryz.func72, Tryz.ntmps72
  go_wp2
  exact bodyPost_ret (v := .tuple #[.agg #[.int .i64 3, .string ⟨#[97, 99, 113, 117, 105, 114, 101]⟩, .bool false, .bool false, .bool false], .bool true]) (by simp [results, Tryz.results72, go_sem]) rfl ⟨rfl, (Fr.refl _).alloc _⟩
theorem rOf_11 (w : World) :
    Calls Tryz.prog 72 #[.int .u8 11] w fun e w' => e = .returned (.tuple #[.agg #[.int .i64 3, .string ⟨#[114, 101, 108, 101, 97, 115, 101]⟩, .bool false, .bool false, .bool false], .bool true]) ∧ Fr w w' := by
  go_enter Tryz.func72, Tryz.ntmps72
  go_wp2
  exact bodyPost_ret (v := .tuple #[.agg #[.int .i64 3, .string ⟨#[114, 101, 108, 101, 97, 115, 101]⟩, .bool false, .bool false, .bool false], .bool true]) (by simp [results, Tryz.results72, go_sem]) rfl ⟨rfl, (Fr.refl _).alloc _⟩
theorem rOf_yes (f : Int) (w : World) (h0 : 1 ≤ f) (h1 : f ≤ 11) :
    Calls Tryz.prog 72 #[.int .u8 f] w fun e w' => e = .returned (.tuple #[.agg #[.int .i64 (kModel f), .string ⟨(kName f).toArray⟩, .bool (hasK f), .bool (hasA f), .bool (hasB f)], .bool true]) ∧ Fr w w' := by
  rcases eleven h0 h1 with h | h | h | h | h | h | h | h | h | h | h
  · subst h; exact rOf_1 w
  · subst h; exact rOf_2 w
  · subst h; exact rOf_3 w
  · subst h; exact rOf_4 w
  · subst h; exact rOf_5 w
  · subst h; exact rOf_6 w
  · subst h; exact rOf_7 w
  · subst h; exact rOf_8 w
  · subst h; exact rOf_9 w
  · subst h; exact rOf_10 w
  · subst h; exact rOf_11 w
theorem rOf_no (f : Int) (w : World) (h0 : 0 ≤ f) (h1 : f ≤ 255) (h : f = 0 ∨ 12 ≤ f) :
    Calls Tryz.prog 72 #[.int .u8 f] w fun e w' => e = .returned (.tuple #[.agg #[.int .i64 0, .string ⟨#[]⟩, .bool false, .bool false, .bool false], .bool false]) ∧ Fr w w' := by
  go_enter Tryz.func72, Tryz.ntmps72
  go_wp2
  exact bodyPost_ret (v := .tuple #[.agg #[.int .i64 0, .string ⟨#[]⟩, .bool false, .bool false, .bool false], .bool false]) (by simp [results, Tryz.results72, go_sem]) rfl ⟨rfl, (Fr.refl _).alloc _⟩

theorem rMay_c (F : Nat) (O K A B : Int) (w : World) (hF : F ≤ 255) :
    Calls Tryz.prog 70 #[.agg #[.int .u8 F, .int .u8 O, .int .u8 K, .int .u16 A, .int .u16 B]] w fun e w' => e = .returned (.bool (mayB F O K A B)) ∧ Fr w w' := by
  by_cases hf : 1 ≤ F ∧ F ≤ 11
  · obtain ⟨h1, h2⟩ := hf
    have HM : Hid (mayB F O K A B = (decide (O < 8) && decide (K < 8) && (hasK F || K == 0) && (hasA F || A == 0) && (hasB F || B == 0))) := by
      unfold Hid mayB; rw [show decide (1 ≤ (F : Int)) = true by simp; omega, show decide ((F : Int) ≤ 11) = true by simp; omega]; simp
    go_enter Tryz.func70, Tryz.ntmps70
    go_wp2_with (go_at_call 72; refine (rOf_yes F _ (by omega) (by omega)).mono ?_; rintro e w1 ⟨rfl, hb⟩; have hc := hb.cell; have hz := hb.size1)
    all_goals
      go_ret
      refine ⟨?_, ?_⟩
      · rw [HM.out]; first | (simp_all; done) | (simp_all; intros; omega)
      · repeat (first | exact Fr.refl _ | assumption | apply Fr.alloc | refine Fr.trans ?_ (by assumption))
  · have HM : Hid (mayB F O K A B = false) := by
      unfold Hid mayB
      rcases Nat.lt_or_ge F 1 with h | h
      · rw [show decide (1 ≤ (F : Int)) = false by simp; omega]; simp
      · rw [show decide ((F : Int) ≤ 11) = false by simp; omega]; simp
    go_enter Tryz.func70, Tryz.ntmps70
    go_wp2_with (go_at_call 72; refine (rOf_no F _ (by omega) (by omega) (by omega)).mono ?_; rintro e w1 ⟨rfl, hb⟩; have hc := hb.cell; have hz := hb.size1)
    all_goals
      go_ret
      refine ⟨?_, ?_⟩
      · rw [HM.out]; rfl
      · repeat (first | exact Fr.refl _ | assumption | apply Fr.alloc | refine Fr.trans ?_ (by assumption))

end Go.Proofs.YtfklgaeejmeipaaGreatDoor
