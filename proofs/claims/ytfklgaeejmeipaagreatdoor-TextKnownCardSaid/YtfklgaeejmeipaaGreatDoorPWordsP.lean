/- op.Words: an operation's words. No condition but the tables' content and the numbers' bounds. -/
import Derived.Test.YtfklgaeejmeipaaGreatDoorPArg
import Derived.Test.YtfklgaeejmeipaaGreatDoorPItoa
import Derived.Test.YtfklgaeejmeipaaGreatDoorPOpWords
import Derived.Test.YtfklgaeejmeipaaGreatDoorPArms
import Derived.Test.YtfklgaeejmeipaaGreatDoorPOp
import Derived.Deep.RegionHeld
set_option linter.all false
set_option linter.unusedVariables false
set_option linter.unusedSimpArgs false
set_option linter.unnecessarySimpa false
/- op.Words: an operation's words. No condition but the tables' content and the numbers' bounds. -/
namespace Go.Proofs.YtfklgaeejmeipaaGreatDoor
open Go.RowKit

/-- It returns these strings; what stood stands. -/
def RetS (w : World) (ls : List (List UInt8)) (e : Ending) (w' : World) : Prop := ∃ v, e = .returned v ∧ RdS w' v ls ∧ Fr w w'
theorem Tryz.infoStr : (Tryz.prog.info? 9).map (fun i => (i.zero, i.size, i.bytes)) = some (some (.string ByteArray.empty), 1, 16) := by kernel_rfl
theorem keepB {w1 wi : World} {X : Obj} {p : Addr} {v : Value} (h : Below (w1.heap.size + 1) (w1.alloc X) wi) (hc : (w1.alloc X).cell? p = some v) : wi.cell? p = some v :=
  (Below.cell h (by have := lt_of_cell hc; simpa using this)).trans hc
theorem belowB {w1 w2 : World} {X : Obj} (h : Fr (w1.alloc X).drew w2) : Below (w1.heap.size + 1) (w1.alloc X) w2 := by
  have := Below.trans (((Fr.refl (w1.alloc X)).drew)) (Below.mono h (by simp))
  unfold Fr at this
  simpa using this
theorem frB {w w1 w2 : World} {X : Obj} (hf : Fr w w1) (h : Below (w1.heap.size + 1) (w1.alloc X) w2) : Fr w w2 := hf.trans (Below.fr1 h)
theorem Below.frTo {B : Nat} {a b c : World} (h : Below B a b) (hB : B ≤ b.heap.size) (k : Fr b c) : Below B a c := Below.trans h (Below.mono k hB)
theorem ownsRow_str1 {w : World} {base : Nat} {l : List (List UInt8)} {s : List UInt8} {v : Value} (h : w.ownsRow base 9 1 v (l.length + 1) (strCells l ++ [.string ⟨s.toArray⟩])) : w.ownsRow base 9 1 v (l ++ [s]).length (strCells (l ++ [s])) := by
  rw [show strCells (l ++ [s]) = strCells l ++ [.string ⟨s.toArray⟩] by simp [strCells], List.length_append]; exact h
theorem RdS.own {w : World} {base : Nat} {l : List (List UInt8)} {v : Value} (h : w.ownsRow base 9 1 v l.length (strCells l)) : RdS w v l := (SlAt.own h).mono fun _ _ => trivial
theorem ownsRow_fr {w w' : World} {base : Nat} {e : TypeId} {sz : Nat} {v : Value} {n : Nat} {xs : List Value} (h : w.ownsRow base e sz v n xs) (f : Fr w w') : w'.ownsRow base e sz v n xs := by
  obtain ⟨h1, h2⟩ := h
  refine ⟨h1, ?_⟩
  rcases h2 with h2 | ⟨g, cap, cur, hv, hg, hh, h3⟩
  · exact .inl h2
  · refine .inr ⟨g, cap, cur, hv, hg, ?_, h3⟩
    rw [f.block (by rcases Nat.lt_or_ge g w.heap.size with k | k; exact k; rw [Array.getElem?_eq_none k] at hh; cases hh)]
    exact hh
theorem wrapO (O : Nat) (h : O < 65536) : IntKind.i64.wrap (O : Int) = O := by simp [IntKind.wrap, IntKind.bits, IntKind.signed]; omega
theorem wrapO16 (O : Nat) (h : O < 65536) : IntKind.u16.wrap (O : Int) = O := by simp [IntKind.wrap, IntKind.bits, IntKind.signed]; omega

set_option maxRecDepth 100000 in
set_option maxHeartbeats 1000000 in
theorem words_c0 (x : OpD) (w : World) (hE : Env w) (hm : x.may = true) (ok : x.Ok) (hN : kNeeds x.F = 0) :
    Calls Tryz.prog 31 #[x.val] w (RetS w (wordsOf x)) := by
  obtain ⟨h1, h2, h3, h4, h5, h6, h7⟩ := may_facts hm
  obtain ⟨i0, hi, hz0, hz1, hz2⟩ := info_parts Tryz.infoStr
  have e1 : hasK x.F = false := by unfold hasK; rw [hN]; decide
  have e2 : hasA x.F = false := by unfold hasA; rw [hN]; decide
  have e3 : hasB x.F = false := by unfold hasB; rw [hN]; decide
  have g0 := hE.kinds.model x.F h1 h2
  have g1 := hE.kinds.name x.F h1 h2
  have g2 := hE.kinds.needs x.F h1 h2
  have hgz : 2 < w.heap.size := lt_of_cell g0
  have hmc := fun W (f : Fr w W) => may_c x.F x.O x.K x.A x.B W (hE.keep f) (by omega)
  have hit := fun (n : Nat) (hn : n < 65536) W (f : Fr w W) => Itoa_c n W (hE.keep f) (by omega)
  rw [hN] at g2
  have HE := Lib.hid hE
  unfold OpD.may at hm
  rw [hm] at hmc
  have HM := Lib.hid hmc
  have HT := Lib.hid hit
  have hws : wordsOf x = [Lib.decDigits x.O, kName x.F] := by simp [wordsOf, e1, e2, e3]
  have HW := Lib.hid hws
  have hK := ok.K
  have hA := ok.A
  have hB := ok.B
  clear hmc hm hN h5 h6 h7 hit hws e1 e2 e3 ok hE
  obtain ⟨F, O, K, A, B⟩ := x
  unfold OpD.val
  simp only at *
  generalize kModel F = md at g0
  have hnm : ∃ nm, nm = kName F := ⟨_, rfl⟩
  obtain ⟨nm, hnm⟩ := hnm
  rw [← hnm] at g1
  have HN := Lib.hid hnm
  have HI := Lib.hid hi
  have HZ0 := Lib.hid hz0
  have HZ1 := Lib.hid hz1
  have HZ2 := Lib.hid hz2
  have KO := Lib.hid (wrapO O (by omega))
  clear hnm hi hz0 hz1 hz2
  go_enter Tryz.func31, Tryz.ntmps31
  go_wp2_with fail
  refine (HM.out _ ((Fr.refl w).alloc _)).mono ?_
  rintro e w1 ⟨rfl, hb⟩
  have hf1 := ((Fr.refl w).alloc _).trans hb
  have hBx := BoxAt.of_fr hb
  have c0 := hBx.at 0 rfl
  have c1 := hBx.at 1 rfl
  have c2 := hBx.at 2 rfl
  have c3 := hBx.at 3 rfl
  have c4 := hBx.at 4 rfl
  have g0' := hf1.keep g0
  have g1' := hf1.keep g1
  have g2' := hf1.keep g2
  have hz := hBx.lt
  have hz2 := hf1.size
  clear hBx hb g0 g1 g2
  go_wp2_with fail
  have hfA := hf1.alloc (.cells #[.int .u8 md, .string ⟨nm.toArray⟩, .int .u8 0] 120)
  have a1 : (w1.alloc (.cells #[.int .u8 md, .string ⟨nm.toArray⟩, .int .u8 0] 120)).cell? ⟨w.heap.size, 1, none⟩ = some (.int .u8 O) := ((Fr.refl w1).alloc _).keep c1
  have a2 : (w1.alloc (.cells #[.int .u8 md, .string ⟨nm.toArray⟩, .int .u8 0] 120)).cell? ⟨w.heap.size, 2, none⟩ = some (.int .u8 K) := ((Fr.refl w1).alloc _).keep c2
  have a3 : (w1.alloc (.cells #[.int .u8 md, .string ⟨nm.toArray⟩, .int .u8 0] 120)).cell? ⟨w.heap.size, 3, none⟩ = some (.int .u16 A) := ((Fr.refl w1).alloc _).keep c3
  have a4 : (w1.alloc (.cells #[.int .u8 md, .string ⟨nm.toArray⟩, .int .u8 0] 120)).cell? ⟨w.heap.size, 4, none⟩ = some (.int .u16 B) := ((Fr.refl w1).alloc _).keep c4
  have k1 : (w1.alloc (.cells #[.int .u8 md, .string ⟨nm.toArray⟩, .int .u8 0] 120)).cell? ⟨w1.heap.size, 1, none⟩ = some (.string ⟨nm.toArray⟩) := by simp
  have k2 : (w1.alloc (.cells #[.int .u8 md, .string ⟨nm.toArray⟩, .int .u8 0] 120)).cell? ⟨w1.heap.size, 2, none⟩ = some (.int .u8 0) := by simp
  go_region_held (fun W' => W'.cell? ⟨w.heap.size, 1, none⟩ = some (.int .u8 O) ∧ W'.cell? ⟨w1.heap.size, 1, none⟩ = some (.string ⟨nm.toArray⟩)) (first | assumption | exact ⟨a1, k1⟩ | go_keep) ((go_at_call 67; rw [KO.out]; refine (HT.out O (by omega) _ (hfA.drew)).mono ?_; rintro e w2 ⟨rfl, hb2⟩; have q1 := hb2.keep a1; have q2 := hb2.keep k1))
  rename_i hHeld
  clear hHeld q1 q2
  have HB2 := belowB hb2
  have hs2 := HB2.size
  simp at hs2
  have hown := ownsRow_lit (base := w1.heap.size + 1) (e := 9) w2 [.string ⟨(Lib.decDigits O).toArray⟩, .string ⟨nm.toArray⟩] (by omega) (by simp [maxLen])
  have hown2 : (w2.alloc (.cells #[.string ⟨(Lib.decDigits O).toArray⟩, .string ⟨nm.toArray⟩] 9)).ownsRow (w1.heap.size + 1) 9 1 (.slice (some ⟨w2.heap.size, 0, none⟩) 2 2) [Lib.decDigits O, nm].length (strCells [Lib.decDigits O, nm]) := hown
  have HB3 := HB2.alloc (by omega) (.cells #[.string ⟨(Lib.decDigits O).toArray⟩, .string ⟨nm.toArray⟩] 9)
  have b2 := keepB HB3 a2
  have b3 := keepB HB3 a3
  have b4 := keepB HB3 a4
  have j2 := keepB HB3 k2
  have hs3 := HB3.size
  simp at hs3
  clear hown hb2 HB2
  have hfin := frB hf1 HB3
  have hrd := RdS.own hown2
  have hslf := hrd.form
  have HFI := Lib.hid hfin
  have HRD := Lib.hid hrd
  clear hfin hrd hown2
  go_wp2_with fail
  go_ret
  exact ⟨_, rfl, by rw [HW.out, ← HN.out]; exact HRD.out, HFI.out⟩

set_option maxRecDepth 100000 in
set_option maxHeartbeats 1000000 in
theorem words_c1 (x : OpD) (w : World) (hE : Env w) (hm : x.may = true) (ok : x.Ok) (hN : kNeeds x.F = 1) :
    Calls Tryz.prog 31 #[x.val] w (RetS w (wordsOf x)) := by
  obtain ⟨h1, h2, h3, h4, h5, h6, h7⟩ := may_facts hm
  obtain ⟨i0, hi, hz0, hz1, hz2⟩ := info_parts Tryz.infoStr
  have e1 : hasK x.F = true := by unfold hasK; rw [hN]; decide
  have e2 : hasA x.F = false := by unfold hasA; rw [hN]; decide
  have e3 : hasB x.F = false := by unfold hasB; rw [hN]; decide
  have g0 := hE.kinds.model x.F h1 h2
  have g1 := hE.kinds.name x.F h1 h2
  have g2 := hE.kinds.needs x.F h1 h2
  have hgz : 2 < w.heap.size := lt_of_cell g0
  have hmc := fun W (f : Fr w W) => may_c x.F x.O x.K x.A x.B W (hE.keep f) (by omega)
  have hit := fun (n : Nat) (hn : n < 65536) W (f : Fr w W) => Itoa_c n W (hE.keep f) (by omega)
  rw [hN] at g2
  have HE := Lib.hid hE
  unfold OpD.may at hm
  rw [hm] at hmc
  have HM := Lib.hid hmc
  have HT := Lib.hid hit
  have hws : wordsOf x = [Lib.decDigits x.O, kName x.F] ++ [Lib.decDigits x.K] := by simp [wordsOf, e1, e2, e3]
  have HW := Lib.hid hws
  have hK := ok.K
  have hA := ok.A
  have hB := ok.B
  clear hmc hm hN h5 h6 h7 hit hws e1 e2 e3 ok hE
  obtain ⟨F, O, K, A, B⟩ := x
  unfold OpD.val
  simp only at *
  generalize kModel F = md at g0
  have hnm : ∃ nm, nm = kName F := ⟨_, rfl⟩
  obtain ⟨nm, hnm⟩ := hnm
  rw [← hnm] at g1
  have HN := Lib.hid hnm
  have HI := Lib.hid hi
  have HZ0 := Lib.hid hz0
  have HZ1 := Lib.hid hz1
  have HZ2 := Lib.hid hz2
  have KO := Lib.hid (wrapO O (by omega))
  clear hnm hi hz0 hz1 hz2
  go_enter Tryz.func31, Tryz.ntmps31
  go_wp2_with fail
  refine (HM.out _ ((Fr.refl w).alloc _)).mono ?_
  rintro e w1 ⟨rfl, hb⟩
  have hf1 := ((Fr.refl w).alloc _).trans hb
  have hBx := BoxAt.of_fr hb
  have c0 := hBx.at 0 rfl
  have c1 := hBx.at 1 rfl
  have c2 := hBx.at 2 rfl
  have c3 := hBx.at 3 rfl
  have c4 := hBx.at 4 rfl
  have g0' := hf1.keep g0
  have g1' := hf1.keep g1
  have g2' := hf1.keep g2
  have hz := hBx.lt
  have hz2 := hf1.size
  clear hBx hb g0 g1 g2
  go_wp2_with fail
  have hfA := hf1.alloc (.cells #[.int .u8 md, .string ⟨nm.toArray⟩, .int .u8 1] 120)
  have a1 : (w1.alloc (.cells #[.int .u8 md, .string ⟨nm.toArray⟩, .int .u8 1] 120)).cell? ⟨w.heap.size, 1, none⟩ = some (.int .u8 O) := ((Fr.refl w1).alloc _).keep c1
  have a2 : (w1.alloc (.cells #[.int .u8 md, .string ⟨nm.toArray⟩, .int .u8 1] 120)).cell? ⟨w.heap.size, 2, none⟩ = some (.int .u8 K) := ((Fr.refl w1).alloc _).keep c2
  have a3 : (w1.alloc (.cells #[.int .u8 md, .string ⟨nm.toArray⟩, .int .u8 1] 120)).cell? ⟨w.heap.size, 3, none⟩ = some (.int .u16 A) := ((Fr.refl w1).alloc _).keep c3
  have a4 : (w1.alloc (.cells #[.int .u8 md, .string ⟨nm.toArray⟩, .int .u8 1] 120)).cell? ⟨w.heap.size, 4, none⟩ = some (.int .u16 B) := ((Fr.refl w1).alloc _).keep c4
  have k1 : (w1.alloc (.cells #[.int .u8 md, .string ⟨nm.toArray⟩, .int .u8 1] 120)).cell? ⟨w1.heap.size, 1, none⟩ = some (.string ⟨nm.toArray⟩) := by simp
  have k2 : (w1.alloc (.cells #[.int .u8 md, .string ⟨nm.toArray⟩, .int .u8 1] 120)).cell? ⟨w1.heap.size, 2, none⟩ = some (.int .u8 1) := by simp
  go_region_held (fun W' => W'.cell? ⟨w.heap.size, 1, none⟩ = some (.int .u8 O) ∧ W'.cell? ⟨w1.heap.size, 1, none⟩ = some (.string ⟨nm.toArray⟩)) (first | assumption | exact ⟨a1, k1⟩ | go_keep) ((go_at_call 67; rw [KO.out]; refine (HT.out O (by omega) _ (hfA.drew)).mono ?_; rintro e w2 ⟨rfl, hb2⟩; have q1 := hb2.keep a1; have q2 := hb2.keep k1))
  rename_i hHeld
  clear hHeld q1 q2
  have HB2 := belowB hb2
  have hs2 := HB2.size
  simp at hs2
  have hown := ownsRow_lit (base := w1.heap.size + 1) (e := 9) w2 [.string ⟨(Lib.decDigits O).toArray⟩, .string ⟨nm.toArray⟩] (by omega) (by simp [maxLen])
  have hown2 : (w2.alloc (.cells #[.string ⟨(Lib.decDigits O).toArray⟩, .string ⟨nm.toArray⟩] 9)).ownsRow (w1.heap.size + 1) 9 1 (.slice (some ⟨w2.heap.size, 0, none⟩) 2 2) [Lib.decDigits O, nm].length (strCells [Lib.decDigits O, nm]) := hown
  have HB3 := HB2.alloc (by omega) (.cells #[.string ⟨(Lib.decDigits O).toArray⟩, .string ⟨nm.toArray⟩] 9)
  have b2 := keepB HB3 a2
  have b3 := keepB HB3 a3
  have b4 := keepB HB3 a4
  have j2 := keepB HB3 k2
  have hs3 := HB3.size
  simp at hs3
  clear hown hb2 HB2
  have KQ3 := Lib.hid (wrapO K (by omega))
  have hfr3 := frB hf1 HB3
  have HT3 := Lib.hid (HT.out K (by omega) _ hfr3)
  go_wp2_with fail
  (try rw [KQ3.out])
  refine HT3.out.mono ?_
  rintro e w3a ⟨rfl, hb3a⟩
  have HBa3 := Below.frTo HB3 (by first | omega | (simp; omega)) hb3a
  have hs3a := HBa3.size
  (try simp at hs3a)
  have hownA3 := ownsRow_fr hown2  hb3a
  have a3b2 := keepB HBa3 a2
  have a3b3 := keepB HBa3 a3
  have a3b4 := keepB HBa3 a4
  clear b2 b3 b4 j2 hb3a
  go_wp2_with (at_builtin; refine wpList_append_own _ rfl (.tmp 23) (.tmp 28) 59 rfl (w1.heap.size + 1) 9 i0 (.string ByteArray.empty) 1 16 Tryz.underlying59 HI.out HZ0.out HZ1.out HZ2.out rfl (by decide) _ _ _ rfl (hownA3.alloc _) ⟨w3a.heap.size, 0, none⟩ 1 1 [.string ⟨(Lib.decDigits K).toArray⟩] rfl rfl ?c1 ?c2 ?c3 ?c4 ?c5 ?_)
  case c1 => intro j u hj; match j, hj with | 0, hj => simp at hj; subst hj; simp [Addr.add]
  case c2 => intro u hu; simp at hu; subst hu; rfl
  case c3 => simp [maxLen]
  case c4 => simp
  case c5 => simp; omega
  intro v4 w4 hn hgrow _
  have HB4 := (HBa3.alloc (by omega) (.cells #[.string ⟨(Lib.decDigits K).toArray⟩] 9)).grown hgrow (by simp; omega) (fun k hk => (hownA3.lt k hk).1)
  have hown4 := ownsRow_str1 hn
  have b2 := keepB HB4 a2
  have b3 := keepB HB4 a3
  have b4 := keepB HB4 a4
  have j2 := keepB HB4 k2
  have hs4 := HB4.size
  (try simp at hs4)
  clear hgrow hn hownA3 a3b2 a3b3 a3b4
  have hfin := frB hf1 HB4
  have hrd := RdS.own hown4
  have hslf := hrd.form
  have HFI := Lib.hid hfin
  have HRD := Lib.hid hrd
  clear hfin hrd hown4
  obtain ⟨ea, ec, rfl, _, _⟩ := hslf
  go_wp2_with fail
  go_ret
  exact ⟨_, rfl, by rw [HW.out, ← HN.out]; exact HRD.out, HFI.out⟩

set_option maxRecDepth 100000 in
set_option maxHeartbeats 1000000 in
theorem words_c2 (x : OpD) (w : World) (hE : Env w) (hm : x.may = true) (ok : x.Ok) (hN : kNeeds x.F = 2) :
    Calls Tryz.prog 31 #[x.val] w (RetS w (wordsOf x)) := by
  obtain ⟨h1, h2, h3, h4, h5, h6, h7⟩ := may_facts hm
  obtain ⟨i0, hi, hz0, hz1, hz2⟩ := info_parts Tryz.infoStr
  have e1 : hasK x.F = false := by unfold hasK; rw [hN]; decide
  have e2 : hasA x.F = true := by unfold hasA; rw [hN]; decide
  have e3 : hasB x.F = false := by unfold hasB; rw [hN]; decide
  have g0 := hE.kinds.model x.F h1 h2
  have g1 := hE.kinds.name x.F h1 h2
  have g2 := hE.kinds.needs x.F h1 h2
  have hgz : 2 < w.heap.size := lt_of_cell g0
  have hmc := fun W (f : Fr w W) => may_c x.F x.O x.K x.A x.B W (hE.keep f) (by omega)
  have hit := fun (n : Nat) (hn : n < 65536) W (f : Fr w W) => Itoa_c n W (hE.keep f) (by omega)
  rw [hN] at g2
  have HE := Lib.hid hE
  unfold OpD.may at hm
  rw [hm] at hmc
  have HM := Lib.hid hmc
  have HT := Lib.hid hit
  have hws : wordsOf x = [Lib.decDigits x.O, kName x.F] ++ [Lib.decDigits x.A] := by simp [wordsOf, e1, e2, e3]
  have HW := Lib.hid hws
  have hK := ok.K
  have hA := ok.A
  have hB := ok.B
  clear hmc hm hN h5 h6 h7 hit hws e1 e2 e3 ok hE
  obtain ⟨F, O, K, A, B⟩ := x
  unfold OpD.val
  simp only at *
  generalize kModel F = md at g0
  have hnm : ∃ nm, nm = kName F := ⟨_, rfl⟩
  obtain ⟨nm, hnm⟩ := hnm
  rw [← hnm] at g1
  have HN := Lib.hid hnm
  have HI := Lib.hid hi
  have HZ0 := Lib.hid hz0
  have HZ1 := Lib.hid hz1
  have HZ2 := Lib.hid hz2
  have KO := Lib.hid (wrapO O (by omega))
  clear hnm hi hz0 hz1 hz2
  go_enter Tryz.func31, Tryz.ntmps31
  go_wp2_with fail
  refine (HM.out _ ((Fr.refl w).alloc _)).mono ?_
  rintro e w1 ⟨rfl, hb⟩
  have hf1 := ((Fr.refl w).alloc _).trans hb
  have hBx := BoxAt.of_fr hb
  have c0 := hBx.at 0 rfl
  have c1 := hBx.at 1 rfl
  have c2 := hBx.at 2 rfl
  have c3 := hBx.at 3 rfl
  have c4 := hBx.at 4 rfl
  have g0' := hf1.keep g0
  have g1' := hf1.keep g1
  have g2' := hf1.keep g2
  have hz := hBx.lt
  have hz2 := hf1.size
  clear hBx hb g0 g1 g2
  go_wp2_with fail
  have hfA := hf1.alloc (.cells #[.int .u8 md, .string ⟨nm.toArray⟩, .int .u8 2] 120)
  have a1 : (w1.alloc (.cells #[.int .u8 md, .string ⟨nm.toArray⟩, .int .u8 2] 120)).cell? ⟨w.heap.size, 1, none⟩ = some (.int .u8 O) := ((Fr.refl w1).alloc _).keep c1
  have a2 : (w1.alloc (.cells #[.int .u8 md, .string ⟨nm.toArray⟩, .int .u8 2] 120)).cell? ⟨w.heap.size, 2, none⟩ = some (.int .u8 K) := ((Fr.refl w1).alloc _).keep c2
  have a3 : (w1.alloc (.cells #[.int .u8 md, .string ⟨nm.toArray⟩, .int .u8 2] 120)).cell? ⟨w.heap.size, 3, none⟩ = some (.int .u16 A) := ((Fr.refl w1).alloc _).keep c3
  have a4 : (w1.alloc (.cells #[.int .u8 md, .string ⟨nm.toArray⟩, .int .u8 2] 120)).cell? ⟨w.heap.size, 4, none⟩ = some (.int .u16 B) := ((Fr.refl w1).alloc _).keep c4
  have k1 : (w1.alloc (.cells #[.int .u8 md, .string ⟨nm.toArray⟩, .int .u8 2] 120)).cell? ⟨w1.heap.size, 1, none⟩ = some (.string ⟨nm.toArray⟩) := by simp
  have k2 : (w1.alloc (.cells #[.int .u8 md, .string ⟨nm.toArray⟩, .int .u8 2] 120)).cell? ⟨w1.heap.size, 2, none⟩ = some (.int .u8 2) := by simp
  go_region_held (fun W' => W'.cell? ⟨w.heap.size, 1, none⟩ = some (.int .u8 O) ∧ W'.cell? ⟨w1.heap.size, 1, none⟩ = some (.string ⟨nm.toArray⟩)) (first | assumption | exact ⟨a1, k1⟩ | go_keep) ((go_at_call 67; rw [KO.out]; refine (HT.out O (by omega) _ (hfA.drew)).mono ?_; rintro e w2 ⟨rfl, hb2⟩; have q1 := hb2.keep a1; have q2 := hb2.keep k1))
  rename_i hHeld
  clear hHeld q1 q2
  have HB2 := belowB hb2
  have hs2 := HB2.size
  simp at hs2
  have hown := ownsRow_lit (base := w1.heap.size + 1) (e := 9) w2 [.string ⟨(Lib.decDigits O).toArray⟩, .string ⟨nm.toArray⟩] (by omega) (by simp [maxLen])
  have hown2 : (w2.alloc (.cells #[.string ⟨(Lib.decDigits O).toArray⟩, .string ⟨nm.toArray⟩] 9)).ownsRow (w1.heap.size + 1) 9 1 (.slice (some ⟨w2.heap.size, 0, none⟩) 2 2) [Lib.decDigits O, nm].length (strCells [Lib.decDigits O, nm]) := hown
  have HB3 := HB2.alloc (by omega) (.cells #[.string ⟨(Lib.decDigits O).toArray⟩, .string ⟨nm.toArray⟩] 9)
  have b2 := keepB HB3 a2
  have b3 := keepB HB3 a3
  have b4 := keepB HB3 a4
  have j2 := keepB HB3 k2
  have hs3 := HB3.size
  simp at hs3
  clear hown hb2 HB2
  have KQ3 := Lib.hid (wrapO A (by omega))
  have hfr3 := frB hf1 HB3
  have HT3 := Lib.hid (HT.out A (by omega) _ hfr3)
  go_wp2_with fail
  (try rw [KQ3.out])
  refine HT3.out.mono ?_
  rintro e w3a ⟨rfl, hb3a⟩
  have HBa3 := Below.frTo HB3 (by first | omega | (simp; omega)) hb3a
  have hs3a := HBa3.size
  (try simp at hs3a)
  have hownA3 := ownsRow_fr hown2  hb3a
  have a3b2 := keepB HBa3 a2
  have a3b3 := keepB HBa3 a3
  have a3b4 := keepB HBa3 a4
  clear b2 b3 b4 j2 hb3a
  go_wp2_with (at_builtin; refine wpList_append_own _ rfl (.tmp 34) (.tmp 39) 59 rfl (w1.heap.size + 1) 9 i0 (.string ByteArray.empty) 1 16 Tryz.underlying59 HI.out HZ0.out HZ1.out HZ2.out rfl (by decide) _ _ _ rfl (hownA3.alloc _) ⟨w3a.heap.size, 0, none⟩ 1 1 [.string ⟨(Lib.decDigits A).toArray⟩] rfl rfl ?c1 ?c2 ?c3 ?c4 ?c5 ?_)
  case c1 => intro j u hj; match j, hj with | 0, hj => simp at hj; subst hj; simp [Addr.add]
  case c2 => intro u hu; simp at hu; subst hu; rfl
  case c3 => simp [maxLen]
  case c4 => simp
  case c5 => simp; omega
  intro v4 w4 hn hgrow _
  have HB4 := (HBa3.alloc (by omega) (.cells #[.string ⟨(Lib.decDigits A).toArray⟩] 9)).grown hgrow (by simp; omega) (fun k hk => (hownA3.lt k hk).1)
  have hown4 := ownsRow_str1 hn
  have b2 := keepB HB4 a2
  have b3 := keepB HB4 a3
  have b4 := keepB HB4 a4
  have j2 := keepB HB4 k2
  have hs4 := HB4.size
  (try simp at hs4)
  clear hgrow hn hownA3 a3b2 a3b3 a3b4
  have hfin := frB hf1 HB4
  have hrd := RdS.own hown4
  have hslf := hrd.form
  have HFI := Lib.hid hfin
  have HRD := Lib.hid hrd
  clear hfin hrd hown4
  obtain ⟨ea, ec, rfl, _, _⟩ := hslf
  go_wp2_with fail
  go_ret
  exact ⟨_, rfl, by rw [HW.out, ← HN.out]; exact HRD.out, HFI.out⟩

set_option maxRecDepth 100000 in
set_option maxHeartbeats 1000000 in
theorem words_c3 (x : OpD) (w : World) (hE : Env w) (hm : x.may = true) (ok : x.Ok) (hN : kNeeds x.F = 3) :
    Calls Tryz.prog 31 #[x.val] w (RetS w (wordsOf x)) := by
  obtain ⟨h1, h2, h3, h4, h5, h6, h7⟩ := may_facts hm
  obtain ⟨i0, hi, hz0, hz1, hz2⟩ := info_parts Tryz.infoStr
  have e1 : hasK x.F = true := by unfold hasK; rw [hN]; decide
  have e2 : hasA x.F = true := by unfold hasA; rw [hN]; decide
  have e3 : hasB x.F = false := by unfold hasB; rw [hN]; decide
  have g0 := hE.kinds.model x.F h1 h2
  have g1 := hE.kinds.name x.F h1 h2
  have g2 := hE.kinds.needs x.F h1 h2
  have hgz : 2 < w.heap.size := lt_of_cell g0
  have hmc := fun W (f : Fr w W) => may_c x.F x.O x.K x.A x.B W (hE.keep f) (by omega)
  have hit := fun (n : Nat) (hn : n < 65536) W (f : Fr w W) => Itoa_c n W (hE.keep f) (by omega)
  rw [hN] at g2
  have HE := Lib.hid hE
  unfold OpD.may at hm
  rw [hm] at hmc
  have HM := Lib.hid hmc
  have HT := Lib.hid hit
  have hws : wordsOf x = [Lib.decDigits x.O, kName x.F] ++ [Lib.decDigits x.K] ++ [Lib.decDigits x.A] := by simp [wordsOf, e1, e2, e3]
  have HW := Lib.hid hws
  have hK := ok.K
  have hA := ok.A
  have hB := ok.B
  clear hmc hm hN h5 h6 h7 hit hws e1 e2 e3 ok hE
  obtain ⟨F, O, K, A, B⟩ := x
  unfold OpD.val
  simp only at *
  generalize kModel F = md at g0
  have hnm : ∃ nm, nm = kName F := ⟨_, rfl⟩
  obtain ⟨nm, hnm⟩ := hnm
  rw [← hnm] at g1
  have HN := Lib.hid hnm
  have HI := Lib.hid hi
  have HZ0 := Lib.hid hz0
  have HZ1 := Lib.hid hz1
  have HZ2 := Lib.hid hz2
  have KO := Lib.hid (wrapO O (by omega))
  clear hnm hi hz0 hz1 hz2
  go_enter Tryz.func31, Tryz.ntmps31
  go_wp2_with fail
  refine (HM.out _ ((Fr.refl w).alloc _)).mono ?_
  rintro e w1 ⟨rfl, hb⟩
  have hf1 := ((Fr.refl w).alloc _).trans hb
  have hBx := BoxAt.of_fr hb
  have c0 := hBx.at 0 rfl
  have c1 := hBx.at 1 rfl
  have c2 := hBx.at 2 rfl
  have c3 := hBx.at 3 rfl
  have c4 := hBx.at 4 rfl
  have g0' := hf1.keep g0
  have g1' := hf1.keep g1
  have g2' := hf1.keep g2
  have hz := hBx.lt
  have hz2 := hf1.size
  clear hBx hb g0 g1 g2
  go_wp2_with fail
  have hfA := hf1.alloc (.cells #[.int .u8 md, .string ⟨nm.toArray⟩, .int .u8 3] 120)
  have a1 : (w1.alloc (.cells #[.int .u8 md, .string ⟨nm.toArray⟩, .int .u8 3] 120)).cell? ⟨w.heap.size, 1, none⟩ = some (.int .u8 O) := ((Fr.refl w1).alloc _).keep c1
  have a2 : (w1.alloc (.cells #[.int .u8 md, .string ⟨nm.toArray⟩, .int .u8 3] 120)).cell? ⟨w.heap.size, 2, none⟩ = some (.int .u8 K) := ((Fr.refl w1).alloc _).keep c2
  have a3 : (w1.alloc (.cells #[.int .u8 md, .string ⟨nm.toArray⟩, .int .u8 3] 120)).cell? ⟨w.heap.size, 3, none⟩ = some (.int .u16 A) := ((Fr.refl w1).alloc _).keep c3
  have a4 : (w1.alloc (.cells #[.int .u8 md, .string ⟨nm.toArray⟩, .int .u8 3] 120)).cell? ⟨w.heap.size, 4, none⟩ = some (.int .u16 B) := ((Fr.refl w1).alloc _).keep c4
  have k1 : (w1.alloc (.cells #[.int .u8 md, .string ⟨nm.toArray⟩, .int .u8 3] 120)).cell? ⟨w1.heap.size, 1, none⟩ = some (.string ⟨nm.toArray⟩) := by simp
  have k2 : (w1.alloc (.cells #[.int .u8 md, .string ⟨nm.toArray⟩, .int .u8 3] 120)).cell? ⟨w1.heap.size, 2, none⟩ = some (.int .u8 3) := by simp
  go_region_held (fun W' => W'.cell? ⟨w.heap.size, 1, none⟩ = some (.int .u8 O) ∧ W'.cell? ⟨w1.heap.size, 1, none⟩ = some (.string ⟨nm.toArray⟩)) (first | assumption | exact ⟨a1, k1⟩ | go_keep) ((go_at_call 67; rw [KO.out]; refine (HT.out O (by omega) _ (hfA.drew)).mono ?_; rintro e w2 ⟨rfl, hb2⟩; have q1 := hb2.keep a1; have q2 := hb2.keep k1))
  rename_i hHeld
  clear hHeld q1 q2
  have HB2 := belowB hb2
  have hs2 := HB2.size
  simp at hs2
  have hown := ownsRow_lit (base := w1.heap.size + 1) (e := 9) w2 [.string ⟨(Lib.decDigits O).toArray⟩, .string ⟨nm.toArray⟩] (by omega) (by simp [maxLen])
  have hown2 : (w2.alloc (.cells #[.string ⟨(Lib.decDigits O).toArray⟩, .string ⟨nm.toArray⟩] 9)).ownsRow (w1.heap.size + 1) 9 1 (.slice (some ⟨w2.heap.size, 0, none⟩) 2 2) [Lib.decDigits O, nm].length (strCells [Lib.decDigits O, nm]) := hown
  have HB3 := HB2.alloc (by omega) (.cells #[.string ⟨(Lib.decDigits O).toArray⟩, .string ⟨nm.toArray⟩] 9)
  have b2 := keepB HB3 a2
  have b3 := keepB HB3 a3
  have b4 := keepB HB3 a4
  have j2 := keepB HB3 k2
  have hs3 := HB3.size
  simp at hs3
  clear hown hb2 HB2
  have KQ3 := Lib.hid (wrapO K (by omega))
  have hfr3 := frB hf1 HB3
  have HT3 := Lib.hid (HT.out K (by omega) _ hfr3)
  go_wp2_with fail
  (try rw [KQ3.out])
  refine HT3.out.mono ?_
  rintro e w3a ⟨rfl, hb3a⟩
  have HBa3 := Below.frTo HB3 (by first | omega | (simp; omega)) hb3a
  have hs3a := HBa3.size
  (try simp at hs3a)
  have hownA3 := ownsRow_fr hown2  hb3a
  have a3b2 := keepB HBa3 a2
  have a3b3 := keepB HBa3 a3
  have a3b4 := keepB HBa3 a4
  clear b2 b3 b4 j2 hb3a
  go_wp2_with (at_builtin; refine wpList_append_own _ rfl (.tmp 23) (.tmp 28) 59 rfl (w1.heap.size + 1) 9 i0 (.string ByteArray.empty) 1 16 Tryz.underlying59 HI.out HZ0.out HZ1.out HZ2.out rfl (by decide) _ _ _ rfl (hownA3.alloc _) ⟨w3a.heap.size, 0, none⟩ 1 1 [.string ⟨(Lib.decDigits K).toArray⟩] rfl rfl ?c1 ?c2 ?c3 ?c4 ?c5 ?_)
  case c1 => intro j u hj; match j, hj with | 0, hj => simp at hj; subst hj; simp [Addr.add]
  case c2 => intro u hu; simp at hu; subst hu; rfl
  case c3 => simp [maxLen]
  case c4 => simp
  case c5 => simp; omega
  intro v4 w4 hn hgrow _
  have HB4 := (HBa3.alloc (by omega) (.cells #[.string ⟨(Lib.decDigits K).toArray⟩] 9)).grown hgrow (by simp; omega) (fun k hk => (hownA3.lt k hk).1)
  have hown4 := ownsRow_str1 hn
  have b2 := keepB HB4 a2
  have b3 := keepB HB4 a3
  have b4 := keepB HB4 a4
  have j2 := keepB HB4 k2
  have hs4 := HB4.size
  (try simp at hs4)
  clear hgrow hn hownA3 a3b2 a3b3 a3b4
  have KQ4 := Lib.hid (wrapO A (by omega))
  have hfr4 := frB hf1 HB4
  have HT4 := Lib.hid (HT.out A (by omega) _ hfr4)
  go_wp2_with fail
  (try rw [KQ4.out])
  refine HT4.out.mono ?_
  rintro e w4a ⟨rfl, hb4a⟩
  have HBa4 := Below.frTo HB4 (by first | omega | (simp; omega)) hb4a
  have hs4a := HBa4.size
  (try simp at hs4a)
  have hownA4 := ownsRow_fr hown4  hb4a
  have a4b2 := keepB HBa4 a2
  have a4b3 := keepB HBa4 a3
  have a4b4 := keepB HBa4 a4
  clear b2 b3 b4 j2 hb4a
  go_wp2_with (at_builtin; refine wpList_append_own _ rfl (.tmp 34) (.tmp 39) 59 rfl (w1.heap.size + 1) 9 i0 (.string ByteArray.empty) 1 16 Tryz.underlying59 HI.out HZ0.out HZ1.out HZ2.out rfl (by decide) _ _ _ rfl (hownA4.alloc _) ⟨w4a.heap.size, 0, none⟩ 1 1 [.string ⟨(Lib.decDigits A).toArray⟩] rfl rfl ?c1 ?c2 ?c3 ?c4 ?c5 ?_)
  case c1 => intro j u hj; match j, hj with | 0, hj => simp at hj; subst hj; simp [Addr.add]
  case c2 => intro u hu; simp at hu; subst hu; rfl
  case c3 => simp [maxLen]
  case c4 => simp
  case c5 => simp; omega
  intro v5 w5 hn hgrow _
  have HB5 := (HBa4.alloc (by omega) (.cells #[.string ⟨(Lib.decDigits A).toArray⟩] 9)).grown hgrow (by simp; omega) (fun k hk => (hownA4.lt k hk).1)
  have hown5 := ownsRow_str1 hn
  have b2 := keepB HB5 a2
  have b3 := keepB HB5 a3
  have b4 := keepB HB5 a4
  have j2 := keepB HB5 k2
  have hs5 := HB5.size
  (try simp at hs5)
  clear hgrow hn hownA4 a4b2 a4b3 a4b4
  have hfin := frB hf1 HB5
  have hrd := RdS.own hown5
  have hslf := hrd.form
  have HFI := Lib.hid hfin
  have HRD := Lib.hid hrd
  clear hfin hrd hown5
  obtain ⟨ea, ec, rfl, _, _⟩ := hslf
  go_wp2_with fail
  go_ret
  exact ⟨_, rfl, by rw [HW.out, ← HN.out]; exact HRD.out, HFI.out⟩

set_option maxRecDepth 100000 in
set_option maxHeartbeats 1000000 in
theorem words_c6 (x : OpD) (w : World) (hE : Env w) (hm : x.may = true) (ok : x.Ok) (hN : kNeeds x.F = 6) :
    Calls Tryz.prog 31 #[x.val] w (RetS w (wordsOf x)) := by
  obtain ⟨h1, h2, h3, h4, h5, h6, h7⟩ := may_facts hm
  obtain ⟨i0, hi, hz0, hz1, hz2⟩ := info_parts Tryz.infoStr
  have e1 : hasK x.F = false := by unfold hasK; rw [hN]; decide
  have e2 : hasA x.F = true := by unfold hasA; rw [hN]; decide
  have e3 : hasB x.F = true := by unfold hasB; rw [hN]; decide
  have g0 := hE.kinds.model x.F h1 h2
  have g1 := hE.kinds.name x.F h1 h2
  have g2 := hE.kinds.needs x.F h1 h2
  have hgz : 2 < w.heap.size := lt_of_cell g0
  have hmc := fun W (f : Fr w W) => may_c x.F x.O x.K x.A x.B W (hE.keep f) (by omega)
  have hit := fun (n : Nat) (hn : n < 65536) W (f : Fr w W) => Itoa_c n W (hE.keep f) (by omega)
  rw [hN] at g2
  have HE := Lib.hid hE
  unfold OpD.may at hm
  rw [hm] at hmc
  have HM := Lib.hid hmc
  have HT := Lib.hid hit
  have hws : wordsOf x = [Lib.decDigits x.O, kName x.F] ++ [Lib.decDigits x.A] ++ [Lib.decDigits x.B] := by simp [wordsOf, e1, e2, e3]
  have HW := Lib.hid hws
  have hK := ok.K
  have hA := ok.A
  have hB := ok.B
  clear hmc hm hN h5 h6 h7 hit hws e1 e2 e3 ok hE
  obtain ⟨F, O, K, A, B⟩ := x
  unfold OpD.val
  simp only at *
  generalize kModel F = md at g0
  have hnm : ∃ nm, nm = kName F := ⟨_, rfl⟩
  obtain ⟨nm, hnm⟩ := hnm
  rw [← hnm] at g1
  have HN := Lib.hid hnm
  have HI := Lib.hid hi
  have HZ0 := Lib.hid hz0
  have HZ1 := Lib.hid hz1
  have HZ2 := Lib.hid hz2
  have KO := Lib.hid (wrapO O (by omega))
  clear hnm hi hz0 hz1 hz2
  go_enter Tryz.func31, Tryz.ntmps31
  go_wp2_with fail
  refine (HM.out _ ((Fr.refl w).alloc _)).mono ?_
  rintro e w1 ⟨rfl, hb⟩
  have hf1 := ((Fr.refl w).alloc _).trans hb
  have hBx := BoxAt.of_fr hb
  have c0 := hBx.at 0 rfl
  have c1 := hBx.at 1 rfl
  have c2 := hBx.at 2 rfl
  have c3 := hBx.at 3 rfl
  have c4 := hBx.at 4 rfl
  have g0' := hf1.keep g0
  have g1' := hf1.keep g1
  have g2' := hf1.keep g2
  have hz := hBx.lt
  have hz2 := hf1.size
  clear hBx hb g0 g1 g2
  go_wp2_with fail
  have hfA := hf1.alloc (.cells #[.int .u8 md, .string ⟨nm.toArray⟩, .int .u8 6] 120)
  have a1 : (w1.alloc (.cells #[.int .u8 md, .string ⟨nm.toArray⟩, .int .u8 6] 120)).cell? ⟨w.heap.size, 1, none⟩ = some (.int .u8 O) := ((Fr.refl w1).alloc _).keep c1
  have a2 : (w1.alloc (.cells #[.int .u8 md, .string ⟨nm.toArray⟩, .int .u8 6] 120)).cell? ⟨w.heap.size, 2, none⟩ = some (.int .u8 K) := ((Fr.refl w1).alloc _).keep c2
  have a3 : (w1.alloc (.cells #[.int .u8 md, .string ⟨nm.toArray⟩, .int .u8 6] 120)).cell? ⟨w.heap.size, 3, none⟩ = some (.int .u16 A) := ((Fr.refl w1).alloc _).keep c3
  have a4 : (w1.alloc (.cells #[.int .u8 md, .string ⟨nm.toArray⟩, .int .u8 6] 120)).cell? ⟨w.heap.size, 4, none⟩ = some (.int .u16 B) := ((Fr.refl w1).alloc _).keep c4
  have k1 : (w1.alloc (.cells #[.int .u8 md, .string ⟨nm.toArray⟩, .int .u8 6] 120)).cell? ⟨w1.heap.size, 1, none⟩ = some (.string ⟨nm.toArray⟩) := by simp
  have k2 : (w1.alloc (.cells #[.int .u8 md, .string ⟨nm.toArray⟩, .int .u8 6] 120)).cell? ⟨w1.heap.size, 2, none⟩ = some (.int .u8 6) := by simp
  go_region_held (fun W' => W'.cell? ⟨w.heap.size, 1, none⟩ = some (.int .u8 O) ∧ W'.cell? ⟨w1.heap.size, 1, none⟩ = some (.string ⟨nm.toArray⟩)) (first | assumption | exact ⟨a1, k1⟩ | go_keep) ((go_at_call 67; rw [KO.out]; refine (HT.out O (by omega) _ (hfA.drew)).mono ?_; rintro e w2 ⟨rfl, hb2⟩; have q1 := hb2.keep a1; have q2 := hb2.keep k1))
  rename_i hHeld
  clear hHeld q1 q2
  have HB2 := belowB hb2
  have hs2 := HB2.size
  simp at hs2
  have hown := ownsRow_lit (base := w1.heap.size + 1) (e := 9) w2 [.string ⟨(Lib.decDigits O).toArray⟩, .string ⟨nm.toArray⟩] (by omega) (by simp [maxLen])
  have hown2 : (w2.alloc (.cells #[.string ⟨(Lib.decDigits O).toArray⟩, .string ⟨nm.toArray⟩] 9)).ownsRow (w1.heap.size + 1) 9 1 (.slice (some ⟨w2.heap.size, 0, none⟩) 2 2) [Lib.decDigits O, nm].length (strCells [Lib.decDigits O, nm]) := hown
  have HB3 := HB2.alloc (by omega) (.cells #[.string ⟨(Lib.decDigits O).toArray⟩, .string ⟨nm.toArray⟩] 9)
  have b2 := keepB HB3 a2
  have b3 := keepB HB3 a3
  have b4 := keepB HB3 a4
  have j2 := keepB HB3 k2
  have hs3 := HB3.size
  simp at hs3
  clear hown hb2 HB2
  have KQ3 := Lib.hid (wrapO A (by omega))
  have hfr3 := frB hf1 HB3
  have HT3 := Lib.hid (HT.out A (by omega) _ hfr3)
  go_wp2_with fail
  (try rw [KQ3.out])
  refine HT3.out.mono ?_
  rintro e w3a ⟨rfl, hb3a⟩
  have HBa3 := Below.frTo HB3 (by first | omega | (simp; omega)) hb3a
  have hs3a := HBa3.size
  (try simp at hs3a)
  have hownA3 := ownsRow_fr hown2  hb3a
  have a3b2 := keepB HBa3 a2
  have a3b3 := keepB HBa3 a3
  have a3b4 := keepB HBa3 a4
  clear b2 b3 b4 j2 hb3a
  go_wp2_with (at_builtin; refine wpList_append_own _ rfl (.tmp 34) (.tmp 39) 59 rfl (w1.heap.size + 1) 9 i0 (.string ByteArray.empty) 1 16 Tryz.underlying59 HI.out HZ0.out HZ1.out HZ2.out rfl (by decide) _ _ _ rfl (hownA3.alloc _) ⟨w3a.heap.size, 0, none⟩ 1 1 [.string ⟨(Lib.decDigits A).toArray⟩] rfl rfl ?c1 ?c2 ?c3 ?c4 ?c5 ?_)
  case c1 => intro j u hj; match j, hj with | 0, hj => simp at hj; subst hj; simp [Addr.add]
  case c2 => intro u hu; simp at hu; subst hu; rfl
  case c3 => simp [maxLen]
  case c4 => simp
  case c5 => simp; omega
  intro v4 w4 hn hgrow _
  have HB4 := (HBa3.alloc (by omega) (.cells #[.string ⟨(Lib.decDigits A).toArray⟩] 9)).grown hgrow (by simp; omega) (fun k hk => (hownA3.lt k hk).1)
  have hown4 := ownsRow_str1 hn
  have b2 := keepB HB4 a2
  have b3 := keepB HB4 a3
  have b4 := keepB HB4 a4
  have j2 := keepB HB4 k2
  have hs4 := HB4.size
  (try simp at hs4)
  clear hgrow hn hownA3 a3b2 a3b3 a3b4
  have KQ4 := Lib.hid (wrapO B (by omega))
  have hfr4 := frB hf1 HB4
  have HT4 := Lib.hid (HT.out B (by omega) _ hfr4)
  go_wp2_with fail
  (try rw [KQ4.out])
  refine HT4.out.mono ?_
  rintro e w4a ⟨rfl, hb4a⟩
  have HBa4 := Below.frTo HB4 (by first | omega | (simp; omega)) hb4a
  have hs4a := HBa4.size
  (try simp at hs4a)
  have hownA4 := ownsRow_fr hown4  hb4a
  have a4b2 := keepB HBa4 a2
  have a4b3 := keepB HBa4 a3
  have a4b4 := keepB HBa4 a4
  clear b2 b3 b4 j2 hb4a
  go_wp2_with (at_builtin; refine wpList_append_own _ rfl (.tmp 45) (.tmp 50) 59 rfl (w1.heap.size + 1) 9 i0 (.string ByteArray.empty) 1 16 Tryz.underlying59 HI.out HZ0.out HZ1.out HZ2.out rfl (by decide) _ _ _ rfl (hownA4.alloc _) ⟨w4a.heap.size, 0, none⟩ 1 1 [.string ⟨(Lib.decDigits B).toArray⟩] rfl rfl ?c1 ?c2 ?c3 ?c4 ?c5 ?_)
  case c1 => intro j u hj; match j, hj with | 0, hj => simp at hj; subst hj; simp [Addr.add]
  case c2 => intro u hu; simp at hu; subst hu; rfl
  case c3 => simp [maxLen]
  case c4 => simp
  case c5 => simp; omega
  intro v5 w5 hn hgrow _
  have HB5 := (HBa4.alloc (by omega) (.cells #[.string ⟨(Lib.decDigits B).toArray⟩] 9)).grown hgrow (by simp; omega) (fun k hk => (hownA4.lt k hk).1)
  have hown5 := ownsRow_str1 hn
  have b2 := keepB HB5 a2
  have b3 := keepB HB5 a3
  have b4 := keepB HB5 a4
  have j2 := keepB HB5 k2
  have hs5 := HB5.size
  (try simp at hs5)
  clear hgrow hn hownA4 a4b2 a4b3 a4b4
  have hfin := frB hf1 HB5
  have hrd := RdS.own hown5
  have hslf := hrd.form
  have HFI := Lib.hid hfin
  have HRD := Lib.hid hrd
  clear hfin hrd hown5
  obtain ⟨ea, ec, rfl, _, _⟩ := hslf
  go_wp2_with fail
  go_ret
  exact ⟨_, rfl, by rw [HW.out, ← HN.out]; exact HRD.out, HFI.out⟩

set_option maxRecDepth 100000 in
set_option maxHeartbeats 1000000 in
theorem words_c7 (x : OpD) (w : World) (hE : Env w) (hm : x.may = true) (ok : x.Ok) (hN : kNeeds x.F = 7) :
    Calls Tryz.prog 31 #[x.val] w (RetS w (wordsOf x)) := by
  obtain ⟨h1, h2, h3, h4, h5, h6, h7⟩ := may_facts hm
  obtain ⟨i0, hi, hz0, hz1, hz2⟩ := info_parts Tryz.infoStr
  have e1 : hasK x.F = true := by unfold hasK; rw [hN]; decide
  have e2 : hasA x.F = true := by unfold hasA; rw [hN]; decide
  have e3 : hasB x.F = true := by unfold hasB; rw [hN]; decide
  have g0 := hE.kinds.model x.F h1 h2
  have g1 := hE.kinds.name x.F h1 h2
  have g2 := hE.kinds.needs x.F h1 h2
  have hgz : 2 < w.heap.size := lt_of_cell g0
  have hmc := fun W (f : Fr w W) => may_c x.F x.O x.K x.A x.B W (hE.keep f) (by omega)
  have hit := fun (n : Nat) (hn : n < 65536) W (f : Fr w W) => Itoa_c n W (hE.keep f) (by omega)
  rw [hN] at g2
  have HE := Lib.hid hE
  unfold OpD.may at hm
  rw [hm] at hmc
  have HM := Lib.hid hmc
  have HT := Lib.hid hit
  have hws : wordsOf x = [Lib.decDigits x.O, kName x.F] ++ [Lib.decDigits x.K] ++ [Lib.decDigits x.A] ++ [Lib.decDigits x.B] := by simp [wordsOf, e1, e2, e3]
  have HW := Lib.hid hws
  have hK := ok.K
  have hA := ok.A
  have hB := ok.B
  clear hmc hm hN h5 h6 h7 hit hws e1 e2 e3 ok hE
  obtain ⟨F, O, K, A, B⟩ := x
  unfold OpD.val
  simp only at *
  generalize kModel F = md at g0
  have hnm : ∃ nm, nm = kName F := ⟨_, rfl⟩
  obtain ⟨nm, hnm⟩ := hnm
  rw [← hnm] at g1
  have HN := Lib.hid hnm
  have HI := Lib.hid hi
  have HZ0 := Lib.hid hz0
  have HZ1 := Lib.hid hz1
  have HZ2 := Lib.hid hz2
  have KO := Lib.hid (wrapO O (by omega))
  clear hnm hi hz0 hz1 hz2
  go_enter Tryz.func31, Tryz.ntmps31
  go_wp2_with fail
  refine (HM.out _ ((Fr.refl w).alloc _)).mono ?_
  rintro e w1 ⟨rfl, hb⟩
  have hf1 := ((Fr.refl w).alloc _).trans hb
  have hBx := BoxAt.of_fr hb
  have c0 := hBx.at 0 rfl
  have c1 := hBx.at 1 rfl
  have c2 := hBx.at 2 rfl
  have c3 := hBx.at 3 rfl
  have c4 := hBx.at 4 rfl
  have g0' := hf1.keep g0
  have g1' := hf1.keep g1
  have g2' := hf1.keep g2
  have hz := hBx.lt
  have hz2 := hf1.size
  clear hBx hb g0 g1 g2
  go_wp2_with fail
  have hfA := hf1.alloc (.cells #[.int .u8 md, .string ⟨nm.toArray⟩, .int .u8 7] 120)
  have a1 : (w1.alloc (.cells #[.int .u8 md, .string ⟨nm.toArray⟩, .int .u8 7] 120)).cell? ⟨w.heap.size, 1, none⟩ = some (.int .u8 O) := ((Fr.refl w1).alloc _).keep c1
  have a2 : (w1.alloc (.cells #[.int .u8 md, .string ⟨nm.toArray⟩, .int .u8 7] 120)).cell? ⟨w.heap.size, 2, none⟩ = some (.int .u8 K) := ((Fr.refl w1).alloc _).keep c2
  have a3 : (w1.alloc (.cells #[.int .u8 md, .string ⟨nm.toArray⟩, .int .u8 7] 120)).cell? ⟨w.heap.size, 3, none⟩ = some (.int .u16 A) := ((Fr.refl w1).alloc _).keep c3
  have a4 : (w1.alloc (.cells #[.int .u8 md, .string ⟨nm.toArray⟩, .int .u8 7] 120)).cell? ⟨w.heap.size, 4, none⟩ = some (.int .u16 B) := ((Fr.refl w1).alloc _).keep c4
  have k1 : (w1.alloc (.cells #[.int .u8 md, .string ⟨nm.toArray⟩, .int .u8 7] 120)).cell? ⟨w1.heap.size, 1, none⟩ = some (.string ⟨nm.toArray⟩) := by simp
  have k2 : (w1.alloc (.cells #[.int .u8 md, .string ⟨nm.toArray⟩, .int .u8 7] 120)).cell? ⟨w1.heap.size, 2, none⟩ = some (.int .u8 7) := by simp
  go_region_held (fun W' => W'.cell? ⟨w.heap.size, 1, none⟩ = some (.int .u8 O) ∧ W'.cell? ⟨w1.heap.size, 1, none⟩ = some (.string ⟨nm.toArray⟩)) (first | assumption | exact ⟨a1, k1⟩ | go_keep) ((go_at_call 67; rw [KO.out]; refine (HT.out O (by omega) _ (hfA.drew)).mono ?_; rintro e w2 ⟨rfl, hb2⟩; have q1 := hb2.keep a1; have q2 := hb2.keep k1))
  rename_i hHeld
  clear hHeld q1 q2
  have HB2 := belowB hb2
  have hs2 := HB2.size
  simp at hs2
  have hown := ownsRow_lit (base := w1.heap.size + 1) (e := 9) w2 [.string ⟨(Lib.decDigits O).toArray⟩, .string ⟨nm.toArray⟩] (by omega) (by simp [maxLen])
  have hown2 : (w2.alloc (.cells #[.string ⟨(Lib.decDigits O).toArray⟩, .string ⟨nm.toArray⟩] 9)).ownsRow (w1.heap.size + 1) 9 1 (.slice (some ⟨w2.heap.size, 0, none⟩) 2 2) [Lib.decDigits O, nm].length (strCells [Lib.decDigits O, nm]) := hown
  have HB3 := HB2.alloc (by omega) (.cells #[.string ⟨(Lib.decDigits O).toArray⟩, .string ⟨nm.toArray⟩] 9)
  have b2 := keepB HB3 a2
  have b3 := keepB HB3 a3
  have b4 := keepB HB3 a4
  have j2 := keepB HB3 k2
  have hs3 := HB3.size
  simp at hs3
  clear hown hb2 HB2
  have KQ3 := Lib.hid (wrapO K (by omega))
  have hfr3 := frB hf1 HB3
  have HT3 := Lib.hid (HT.out K (by omega) _ hfr3)
  go_wp2_with fail
  (try rw [KQ3.out])
  refine HT3.out.mono ?_
  rintro e w3a ⟨rfl, hb3a⟩
  have HBa3 := Below.frTo HB3 (by first | omega | (simp; omega)) hb3a
  have hs3a := HBa3.size
  (try simp at hs3a)
  have hownA3 := ownsRow_fr hown2  hb3a
  have a3b2 := keepB HBa3 a2
  have a3b3 := keepB HBa3 a3
  have a3b4 := keepB HBa3 a4
  clear b2 b3 b4 j2 hb3a
  go_wp2_with (at_builtin; refine wpList_append_own _ rfl (.tmp 23) (.tmp 28) 59 rfl (w1.heap.size + 1) 9 i0 (.string ByteArray.empty) 1 16 Tryz.underlying59 HI.out HZ0.out HZ1.out HZ2.out rfl (by decide) _ _ _ rfl (hownA3.alloc _) ⟨w3a.heap.size, 0, none⟩ 1 1 [.string ⟨(Lib.decDigits K).toArray⟩] rfl rfl ?c1 ?c2 ?c3 ?c4 ?c5 ?_)
  case c1 => intro j u hj; match j, hj with | 0, hj => simp at hj; subst hj; simp [Addr.add]
  case c2 => intro u hu; simp at hu; subst hu; rfl
  case c3 => simp [maxLen]
  case c4 => simp
  case c5 => simp; omega
  intro v4 w4 hn hgrow _
  have HB4 := (HBa3.alloc (by omega) (.cells #[.string ⟨(Lib.decDigits K).toArray⟩] 9)).grown hgrow (by simp; omega) (fun k hk => (hownA3.lt k hk).1)
  have hown4 := ownsRow_str1 hn
  have b2 := keepB HB4 a2
  have b3 := keepB HB4 a3
  have b4 := keepB HB4 a4
  have j2 := keepB HB4 k2
  have hs4 := HB4.size
  (try simp at hs4)
  clear hgrow hn hownA3 a3b2 a3b3 a3b4
  have KQ4 := Lib.hid (wrapO A (by omega))
  have hfr4 := frB hf1 HB4
  have HT4 := Lib.hid (HT.out A (by omega) _ hfr4)
  go_wp2_with fail
  (try rw [KQ4.out])
  refine HT4.out.mono ?_
  rintro e w4a ⟨rfl, hb4a⟩
  have HBa4 := Below.frTo HB4 (by first | omega | (simp; omega)) hb4a
  have hs4a := HBa4.size
  (try simp at hs4a)
  have hownA4 := ownsRow_fr hown4  hb4a
  have a4b2 := keepB HBa4 a2
  have a4b3 := keepB HBa4 a3
  have a4b4 := keepB HBa4 a4
  clear b2 b3 b4 j2 hb4a
  go_wp2_with (at_builtin; refine wpList_append_own _ rfl (.tmp 34) (.tmp 39) 59 rfl (w1.heap.size + 1) 9 i0 (.string ByteArray.empty) 1 16 Tryz.underlying59 HI.out HZ0.out HZ1.out HZ2.out rfl (by decide) _ _ _ rfl (hownA4.alloc _) ⟨w4a.heap.size, 0, none⟩ 1 1 [.string ⟨(Lib.decDigits A).toArray⟩] rfl rfl ?c1 ?c2 ?c3 ?c4 ?c5 ?_)
  case c1 => intro j u hj; match j, hj with | 0, hj => simp at hj; subst hj; simp [Addr.add]
  case c2 => intro u hu; simp at hu; subst hu; rfl
  case c3 => simp [maxLen]
  case c4 => simp
  case c5 => simp; omega
  intro v5 w5 hn hgrow _
  have HB5 := (HBa4.alloc (by omega) (.cells #[.string ⟨(Lib.decDigits A).toArray⟩] 9)).grown hgrow (by simp; omega) (fun k hk => (hownA4.lt k hk).1)
  have hown5 := ownsRow_str1 hn
  have b2 := keepB HB5 a2
  have b3 := keepB HB5 a3
  have b4 := keepB HB5 a4
  have j2 := keepB HB5 k2
  have hs5 := HB5.size
  (try simp at hs5)
  clear hgrow hn hownA4 a4b2 a4b3 a4b4
  have KQ5 := Lib.hid (wrapO B (by omega))
  have hfr5 := frB hf1 HB5
  have HT5 := Lib.hid (HT.out B (by omega) _ hfr5)
  go_wp2_with fail
  (try rw [KQ5.out])
  refine HT5.out.mono ?_
  rintro e w5a ⟨rfl, hb5a⟩
  have HBa5 := Below.frTo HB5 (by first | omega | (simp; omega)) hb5a
  have hs5a := HBa5.size
  (try simp at hs5a)
  have hownA5 := ownsRow_fr hown5  hb5a
  have a5b2 := keepB HBa5 a2
  have a5b3 := keepB HBa5 a3
  have a5b4 := keepB HBa5 a4
  clear b2 b3 b4 j2 hb5a
  go_wp2_with (at_builtin; refine wpList_append_own _ rfl (.tmp 45) (.tmp 50) 59 rfl (w1.heap.size + 1) 9 i0 (.string ByteArray.empty) 1 16 Tryz.underlying59 HI.out HZ0.out HZ1.out HZ2.out rfl (by decide) _ _ _ rfl (hownA5.alloc _) ⟨w5a.heap.size, 0, none⟩ 1 1 [.string ⟨(Lib.decDigits B).toArray⟩] rfl rfl ?c1 ?c2 ?c3 ?c4 ?c5 ?_)
  case c1 => intro j u hj; match j, hj with | 0, hj => simp at hj; subst hj; simp [Addr.add]
  case c2 => intro u hu; simp at hu; subst hu; rfl
  case c3 => simp [maxLen]
  case c4 => simp
  case c5 => simp; omega
  intro v6 w6 hn hgrow _
  have HB6 := (HBa5.alloc (by omega) (.cells #[.string ⟨(Lib.decDigits B).toArray⟩] 9)).grown hgrow (by simp; omega) (fun k hk => (hownA5.lt k hk).1)
  have hown6 := ownsRow_str1 hn
  have b2 := keepB HB6 a2
  have b3 := keepB HB6 a3
  have b4 := keepB HB6 a4
  have j2 := keepB HB6 k2
  have hs6 := HB6.size
  (try simp at hs6)
  clear hgrow hn hownA5 a5b2 a5b3 a5b4
  have hfin := frB hf1 HB6
  have hrd := RdS.own hown6
  have hslf := hrd.form
  have HFI := Lib.hid hfin
  have HRD := Lib.hid hrd
  clear hfin hrd hown6
  obtain ⟨ea, ec, rfl, _, _⟩ := hslf
  go_wp2_with fail
  go_ret
  exact ⟨_, rfl, by rw [HW.out, ← HN.out]; exact HRD.out, HFI.out⟩

theorem Words_c (x : OpD) (w : World) (hE : Env w) (ok : x.Ok) : Calls Tryz.prog 31 #[x.val] w (RetS w x.words) := by
  unfold OpD.words
  by_cases hm : x.may = true
  · rw [if_pos hm]
    obtain ⟨h1, h2, _⟩ := may_facts hm
    rcases kNeeds_cases (show (1 : Int) ≤ x.F by omega) (by omega) with h | h | h | h | h | h
    · exact words_c0 x w hE hm ok h
    · exact words_c1 x w hE hm ok h
    · exact words_c2 x w hE hm ok h
    · exact words_c3 x w hE hm ok h
    · exact words_c6 x w hE hm ok h
    · exact words_c7 x w hE hm ok h
  · rw [if_neg hm]
    rw [Bool.not_eq_true] at hm
    have hmc := fun W (f : Fr w W) => may_c x.F x.O x.K x.A x.B W (hE.keep f) (by have := ok.F; omega)
    unfold OpD.may at hm
    rw [hm] at hmc
    have HM := Lib.hid hmc
    clear hmc hm hE ok
    unfold OpD.val
    go_enter Tryz.func31, Tryz.ntmps31
    go_wp2_with fail
    refine (HM.out _ ((Fr.refl w).alloc _)).mono ?_
    rintro e w1 ⟨rfl, hb⟩
    go_wp2_with fail
    go_ret
    exact ⟨_, rfl, RdS.nil _, ((Fr.refl w).alloc _).trans hb⟩
end Go.Proofs.YtfklgaeejmeipaaGreatDoor
