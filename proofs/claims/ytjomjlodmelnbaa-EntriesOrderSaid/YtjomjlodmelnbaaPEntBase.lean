/- Layer 16: words on worlds; the comparing of entries. No condition but what each says. -/
import Derived.Test.YtjomjlodmelnbaaPBase
import Derived.Test.YtjomjlodmelnbaaPStab
import Derived.Sort.WalkA
set_option linter.all false
set_option linter.unusedVariables false
set_option linter.unusedSimpArgs false
set_option linter.unnecessarySimpa false
/- Layer 16: words on worlds; the comparing of entries. No condition but what each says. -/
namespace Go.Proofs.Ytjomjlodmelnbaa
open Go.RowKit
attribute [local go_sem] Oper.semAt_some

/-- The world of a goal becomes a letter. -/
theorem gen_w {R : Act → World → Prop} {a : Act} {w : World} (h : ∀ W, W = w → R a W) : R a w := h w rfl
/-- Blocks of S, and new ones, apart, all stands. -/
structure Chg (S : Nat → Prop) (w w' : World) : Prop where
  os : w'.os = w.os
  tape : w'.tape = w.tape
  output : w'.output = w.output
  size : w.heap.size ≤ w'.heap.size
  block : ∀ k, k < w.heap.size → ¬ S k → w'.heap[k]? = w.heap[k]?
theorem Chg.refl (S : Nat → Prop) (w : World) : Chg S w w := ⟨rfl, rfl, rfl, Nat.le_refl _, fun _ _ _ => rfl⟩
theorem Chg.trans {S : Nat → Prop} {a b c : World} (h : Chg S a b) (k : Chg S b c) : Chg S a c :=
  ⟨k.os.trans h.os, k.tape.trans h.tape, k.output.trans h.output, Nat.le_trans h.size k.size, fun i hi hs => (k.block i (Nat.lt_of_lt_of_le hi h.size) hs).trans (h.block i hi hs)⟩
theorem Chg.mono {S T : Nat → Prop} {a b : World} (h : Chg S a b) (hst : ∀ k, k < a.heap.size → S k → T k) : Chg T a b := ⟨h.os, h.tape, h.output, h.size, fun i hi ht => h.block i hi fun hs => ht (hst i hi hs)⟩
theorem Fr.chg {S : Nat → Prop} {a b : World} (h : Fr a b) : Chg S a b := ⟨h.os, h.tape, h.output, h.size, fun i hi _ => h.block hi⟩
/-- A change to blocks that are newer than a world leaves that world. -/
theorem Chg.fr {S : Nat → Prop} {a w w' : World} (h : Chg S w w') (f : Fr a w) (hs : ∀ k, S k → a.heap.size ≤ k) : Fr a w' :=
  ⟨h.os.trans f.os, h.tape.trans f.tape, h.output.trans f.output, Nat.le_trans f.size h.size, fun k hk => (h.block k (Nat.lt_of_lt_of_le hk f.size) fun e => by have := hs k e; omega).trans (f.block hk)⟩
theorem BoxAt.chg {S : Nat → Prop} {w w' : World} {b : Nat} {c : Array Value} {t : TypeId} (h : BoxAt w b c t) (k : Chg S w w') (hb : ¬ S b) : BoxAt w' b c t := (k.block b h.lt hb).trans h
theorem Chg.keep {S : Nat → Prop} {w w' : World} (h : Chg S w w') {b o : Nat} {v : Value} (hc : w.cell? ⟨b, o, none⟩ = some v) (hb : ¬ S b) : w'.cell? ⟨b, o, none⟩ = some v :=
  (World.cell?_of_block (a := ⟨b, o, none⟩) (h.block b (lt_of_cell hc) hb)).trans hc

/-- An entry, as a value. -/
def Ent.cells (e : Ent) : List Value := [.int .i64 e.row, .int .i64 e.at_, .bool e.call]
def Ent.val (e : Ent) : Value := .agg #[.int .i64 e.row, .int .i64 e.at_, .bool e.call]
theorem cmpCompare_c (a b : Int) (w : World) : Calls Try.prog 47 #[.int .i64 a, .int .i64 b] w fun e w' => e = .returned (.int .i64 (cmpI a b)) ∧ Fr w w' := by
  by_cases h1 : a < b
  · have HC : Hid (cmpI a b = -1) := if_pos h1
    go_enter Try.func47, Try.ntmps47
    go_wp2
    go_ret
    exact ⟨by rw [HC.out]; rfl, Fr.refl _⟩
  · by_cases h2 : b < a
    · have HC : Hid (cmpI a b = 1) := (if_neg h1).trans (if_pos h2)
      go_enter Try.func47, Try.ntmps47
      go_wp2
      go_ret
      exact ⟨by rw [HC.out]; rfl, Fr.refl _⟩
    · have HC : Hid (cmpI a b = 0) := (if_neg h1).trans (if_neg h2)
      go_enter Try.func47, Try.ntmps47
      go_wp2
      go_ret
      exact ⟨by rw [HC.out]; rfl, Fr.refl _⟩
theorem kind_c (e : Ent) (w : World) : Calls Try.prog 43 #[e.val] w fun r w' => r = .returned (.int .i64 e.kind) ∧ Fr w w' := by
  obtain ⟨r, t, c⟩ := e
  cases c
  · have HK : Hid ((⟨r, t, false⟩ : Ent).kind = 1) := rfl
    unfold Ent.val
    go_enter Try.func43, Try.ntmps43
    go_wp2
    go_ret
    exact ⟨by rw [HK.out]; rfl, (Fr.refl _).alloc _⟩
  · have HK : Hid ((⟨r, t, true⟩ : Ent).kind = 0) := rfl
    unfold Ent.val
    go_enter Try.func43, Try.ntmps43
    go_wp2
    go_ret
    exact ⟨by rw [HK.out]; rfl, (Fr.refl _).alloc _⟩
theorem cmpOr_c (a b c : Int) (blk : Nat) (w : World) (h0 : w.cell? ⟨blk, 0, none⟩ = some (.int .i64 a)) (h1 : w.cell? ⟨blk, 1, none⟩ = some (.int .i64 b)) (h2 : w.cell? ⟨blk, 2, none⟩ = some (.int .i64 c)) :
    Calls Try.prog 46 #[.slice (some ⟨blk, 0, none⟩) 3 3] w fun e w' => e = .returned (.int .i64 (orI a b c)) ∧ Fr w w' := by
  have hl := lt_of_cell h0
  simp only at hl
  by_cases ha : a = 0
  · subst ha
    have ea : ((0 : Int) != 0) = false := rfl
    by_cases hb : b = 0
    · subst hb
      have HC : Hid (orI 0 0 c = c) := rfl
      by_cases hc : c = 0
      · subst hc
        go_enter Try.func46, Try.ntmps46
        go_wp2
        go_loopw [8] (fun i wr => ∃ k : Nat, k ≤ 3 ∧ i = .int .i64 k ∧ Fr w wr) (fun i _ => 3 - (intOf i).toNat)
        case atStart => exact ⟨0, by omega, rfl, Fr.refl _⟩
        case round =>
          obtain ⟨k, hk, rfl, hf⟩ := hrel
          have k0 := hf.keep h0
          have k1 := hf.keep h1
          have k2 := hf.keep h2
          have hl2 := Nat.lt_of_lt_of_le hl hf.size
          rcases (show k = 0 ∨ k = 1 ∨ k = 2 ∨ k = 3 by omega) with rfl | rfl | rfl | rfl
          · go_wp2
            go_roundw
            case rel => exact ⟨1, by omega, rfl, hf⟩
            case measure => simp [intOf]
          · go_wp2
            go_roundw
            case rel => exact ⟨2, by omega, rfl, hf⟩
            case measure => simp [intOf]
          · go_wp2
            go_roundw
            case rel => exact ⟨3, by omega, rfl, hf⟩
            case measure => simp [intOf]
          · go_wp2
            go_ret
            exact ⟨rfl, hf⟩
      · have ec : (c != 0) = true := by simp [hc]
        clear hc
        go_enter Try.func46, Try.ntmps46
        go_wp2
        go_loopw [8] (fun i wr => ∃ k : Nat, k ≤ 2 ∧ i = .int .i64 k ∧ Fr w wr) (fun i _ => 3 - (intOf i).toNat)
        case atStart => exact ⟨0, by omega, rfl, Fr.refl _⟩
        case round =>
          obtain ⟨k, hk, rfl, hf⟩ := hrel
          have k0 := hf.keep h0
          have k1 := hf.keep h1
          have k2 := hf.keep h2
          have hl2 := Nat.lt_of_lt_of_le hl hf.size
          rcases (show k = 0 ∨ k = 1 ∨ k = 2 by omega) with rfl | rfl | rfl
          · go_wp2
            go_roundw
            case rel => exact ⟨1, by omega, rfl, hf⟩
            case measure => simp [intOf]
          · go_wp2
            go_roundw
            case rel => exact ⟨2, by omega, rfl, hf⟩
            case measure => simp [intOf]
          · go_wp2
            go_ret
            exact ⟨by rw [HC.out]; rfl, hf⟩
    · have eb : (b != 0) = true := by simp [hb]
      have HC : Hid (orI 0 b c = b) := if_pos hb
      clear hb
      go_enter Try.func46, Try.ntmps46
      go_wp2
      go_loopw [8] (fun i wr => ∃ k : Nat, k ≤ 1 ∧ i = .int .i64 k ∧ Fr w wr) (fun i _ => 3 - (intOf i).toNat)
      case atStart => exact ⟨0, by omega, rfl, Fr.refl _⟩
      case round =>
        obtain ⟨k, hk, rfl, hf⟩ := hrel
        have k0 := hf.keep h0
        have k1 := hf.keep h1
        have hl2 := Nat.lt_of_lt_of_le hl hf.size
        rcases (show k = 0 ∨ k = 1 by omega) with rfl | rfl
        · go_wp2
          go_roundw
          case rel => exact ⟨1, by omega, rfl, hf⟩
          case measure => simp [intOf]
        · go_wp2
          go_ret
          exact ⟨by rw [HC.out]; rfl, hf⟩
  · have ea : (a != 0) = true := by simp [ha]
    have HC : Hid (orI a b c = a) := if_pos ha
    clear ha
    go_enter Try.func46, Try.ntmps46
    go_wp2
    go_loopw [8] (fun i wr => i = .int .i64 0 ∧ Fr w wr) (fun i _ => 3 - (intOf i).toNat)
    case atStart => exact ⟨rfl, Fr.refl _⟩
    case round =>
      obtain ⟨rfl, hf⟩ := hrel
      have k0 := hf.keep h0
      have hl2 := Nat.lt_of_lt_of_le hl hf.size
      go_wp2
      go_ret
      exact ⟨by rw [HC.out]; rfl, hf⟩
set_option maxRecDepth 100000 in
/-- The comparing of two entries. -/
theorem entCmp_c (x y : Ent) (kb : Nat) (w : World) (hk : w.cell? ⟨kb, 0, none⟩ = some (.func (.func 43) #[] #[])) :
    Calls Try.prog 45 #[x.val, y.val, .pointer (some ⟨kb, 0, none⟩)] w fun e w' => e = .returned (.int .i64 (entCmp x y)) ∧ Fr w w' := by
  have HK := Lib.hid (fun W => kind_c x W)
  have HK2 := Lib.hid (fun W => kind_c y W)
  have HC := Lib.hid (fun a b W => cmpCompare_c a b W)
  unfold Ent.val at HK HK2 ⊢
  have HV : Hid (entCmp x y = orI (cmpI x.at_ y.at_) (cmpI x.kind y.kind) (cmpI x.row y.row)) := rfl
  generalize x.kind = kx at HK HV
  generalize y.kind = ky at HK2 HV
  go_enter Try.func45, Try.ntmps45
  go_wp2_with fail
  refine gen_w fun W hW => ?_
  have hX : BoxAt W w.heap.size #[.int .i64 x.row, .int .i64 x.at_, .bool x.call] 73 := by rw [hW]; exact (BoxAt.new w _ _).alloc _
  have hY : BoxAt W (w.heap.size + 1) #[.int .i64 y.row, .int .i64 y.at_, .bool y.call] 73 := by rw [hW]; exact BoxAt.new' _ _ _ _ (by simp)
  have hF : Fr w W := by rw [hW]; exact ((Fr.refl _).alloc _).alloc _
  have hkb := lt_of_cell hk
  simp only at hkb
  have k0 := FrW.cell (hF.keep hk)
  have x0 := FrW.cell (hX.at 0 rfl)
  have x1 := FrW.cell (hX.at 1 rfl)
  have x2 := FrW.cell (hX.at 2 rfl)
  have y0 := FrW.cell (hY.at 0 rfl)
  have y1 := FrW.cell (hY.at 1 rfl)
  have y2 := FrW.cell (hY.at 2 rfl)
  have hlk : ∀ z : FrW W, kb < z.val.heap.size := fun z => Nat.lt_of_lt_of_le hkb (hF.trans z.fr).size
  have hlx : ∀ z : FrW W, w.heap.size < z.val.heap.size := fun z => Nat.lt_of_lt_of_le hX.lt z.fr.size
  have hly : ∀ z : FrW W, w.heap.size + 1 < z.val.heap.size := fun z => Nat.lt_of_lt_of_le hY.lt z.fr.size
  have HF := Lib.hid hF
  clear hW hX hY hF hk hkb
  generalize w.heap.size = bx at *
  refine wp_region_frt 17 (by kernel_rfl) (by kernel_rfl) ?_
  simp only [List.take_succ_cons, List.take_zero]
  repeat (go_big_quiet_step ((first | (go_at_call 47; exact frq (HC.out _ _ _)) | (go_at_call 43; first | exact frq (HK.out _) | exact frq (HK2.out _)))))
  refine wpQuiet_nil ?_
  rintro w5 ⟨⟨_, hf5⟩, rfl⟩
  simp only [List.drop_succ_cons, List.drop_zero]
  have hF5 := HF.out.trans hf5
  clear k0 x0 x1 x2 y0 y1 y2 hlk hlx hly hf5
  have hB := BoxAt.new w5 #[.int .i64 (cmpI x.at_ y.at_), .int .i64 (cmpI kx ky), .int .i64 (cmpI x.row y.row)] 3
  have HO := Lib.hid (cmpOr_c _ _ _ _ _ (hB.at 0 rfl) (hB.at 1 rfl) (hB.at 2 rfl))
  clear hB
  go_wp2_with fail
  refine HO.out.mono ?_
  rintro e w6 ⟨rfl, hf6⟩
  go_wp2_with fail
  go_ret
  exact ⟨by rw [HV.out]; rfl, (hF5.alloc _).trans hf6⟩
end Go.Proofs.Ytjomjlodmelnbaa

/- A row of entries in memory; the exchange of two ranges; the rotation. No condition but the indices' bounds. -/
namespace Go.Proofs.Ytjomjlodmelnbaa
open Go.RowKit Go.Sort
attribute [local go_sem] Oper.semAt_some

/-- A row of entries. -/
def DataAt (w : World) (blk : Nat) (d : Array Ent) : Prop := ∃ c : Array Value, BoxAt w blk c 73 ∧ d.size * 3 ≤ c.size ∧ ∀ i, i < d.size → c[i * 3]? = some (.int .i64 d[i]!.row) ∧ c[i * 3 + 1]? = some (.int .i64 d[i]!.at_) ∧ c[i * 3 + 2]? = some (.bool d[i]!.call)
theorem DataAt.fr {a w : World} {blk : Nat} {d : Array Ent} (h : DataAt a blk d) (f : Fr a w) : DataAt w blk d := by
  obtain ⟨c, h1, h2⟩ := h
  exact ⟨c, h1.fr f, h2⟩
theorem DataAt.drew {w : World} {blk : Nat} {d : Array Ent} (h : DataAt w blk d) : DataAt w.drew blk d := by
  obtain ⟨c, h1, h2⟩ := h
  exact ⟨c, h1.drew, h2⟩
theorem DataAt.lt {w : World} {blk : Nat} {d : Array Ent} (h : DataAt w blk d) : blk < w.heap.size := by obtain ⟨c, h1, _⟩ := h; exact h1.lt
theorem DataAt.cells {w : World} {blk : Nat} {d : Array Ent} (h : DataAt w blk d) {i : Nat} (hi : i < d.size) :
    w.cell? ⟨blk, i * 3, none⟩ = some (.int .i64 d[i]!.row) ∧ w.cell? ⟨blk, i * 3 + 1, none⟩ = some (.int .i64 d[i]!.at_) ∧ w.cell? ⟨blk, i * 3 + 2, none⟩ = some (.bool d[i]!.call) := by
  obtain ⟨c, h1, _, h3⟩ := h
  obtain ⟨g1, g2, g3⟩ := h3 i hi
  exact ⟨h1.at _ g1, h1.at _ g2, h1.at _ g3⟩
theorem DataAt.free {w : World} {blk : Nat} {d : Array Ent} (h : DataAt w blk d) (j : Nat) : w.frozen? ⟨blk, j, none⟩ = false := by
  obtain ⟨c, h1, _⟩ := h
  exact h1.free j
theorem BoxAt.put {w : World} {b : Nat} {c : Array Value} {t : TypeId} (h : BoxAt w b c t) (j : Nat) (v : Value) : BoxAt (w.setCell ⟨b, j, none⟩ v) b (c.setIfInBounds j v) t := by
  unfold BoxAt at h ⊢
  rw [setCell_eq_setRow w b j c t (0, 0) v h]
  exact setRow_heap w b c _ t (0, 0) h
/-- An entry is laid into a place. -/
def put3 (w : World) (blk i : Nat) (x : Ent) : World := ((w.setCell ⟨blk, i * 3, none⟩ (.int .i64 x.row)).setCell ⟨blk, i * 3 + 1, none⟩ (.int .i64 x.at_)).setCell ⟨blk, i * 3 + 2, none⟩ (.bool x.call)
theorem DataAt.put3 {w : World} {blk : Nat} {d : Array Ent} (h : DataAt w blk d) {i : Nat} (hi : i < d.size) (x : Ent) : DataAt (put3 w blk i x) blk (d.setIfInBounds i x) := by
  obtain ⟨c, h1, h2, h3⟩ := h
  refine ⟨_, ((h1.put _ _).put _ _).put _ _, by simpa using h2, fun k hk => ?_⟩
  have hk : k < d.size := by simpa using hk
  obtain ⟨g1, g2, g3⟩ := h3 k hk
  simp only [Array.getElem?_setIfInBounds, getElem!_def, Array.size_setIfInBounds] at g1 g2 g3 ⊢
  by_cases he : i = k
  · subst he
    have e1 : i * 3 < c.size := by omega
    have e2 : i * 3 + 1 < c.size := by omega
    have e3 : i * 3 + 2 < c.size := by omega
    simp [hi, e1, e2, e3]
  · have n1 : ¬ i * 3 = k * 3 := by omega
    have n2 : ¬ i * 3 + 1 = k * 3 := by omega
    have n3 : ¬ i * 3 + 2 = k * 3 := by omega
    have n4 : ¬ i * 3 = k * 3 + 1 := by omega
    have n5 : ¬ i * 3 + 1 = k * 3 + 1 := by omega
    have n6 : ¬ i * 3 + 2 = k * 3 + 1 := by omega
    have n7 : ¬ i * 3 = k * 3 + 2 := by omega
    have n8 : ¬ i * 3 + 1 = k * 3 + 2 := by omega
    have n9 : ¬ i * 3 + 2 = k * 3 + 2 := by omega
    simp only [he, n1, n2, n3, n4, n5, n6, n7, n8, n9, if_false]
    exact ⟨g1, g2, g3⟩
theorem Chg.set {S : Nat → Prop} {a w : World} (h : Chg S a w) {p : Addr} (hp : a.heap.size ≤ p.block ∨ S p.block) (u : Value) : Chg S a (w.setCell p u) :=
  ⟨h.os, h.tape, h.output, by simpa using h.size, fun k hk hs => (Below.heap_setCell w p u k (fun e => by rcases hp with hp | hp; omega; exact hs (e ▸ hp))).trans (h.block k hk hs)⟩
theorem Chg.setB {blk : Nat} {a w : World} (h : Chg (· = blk) a w) (o : Nat) (u : Value) : Chg (· = blk) a (w.setCell ⟨blk, o, none⟩ u) := h.set (p := ⟨blk, o, none⟩) (.inr rfl) u
theorem Chg.put3 {S : Nat → Prop} {a w : World} (h : Chg S a w) {blk : Nat} (hp : S blk) (i : Nat) (x : Ent) : Chg S a (put3 w blk i x) :=
  ((h.set (p := ⟨blk, _, none⟩) (.inr hp) _).set (p := ⟨blk, _, none⟩) (.inr hp) _).set (p := ⟨blk, _, none⟩) (.inr hp) _
theorem Chg.drew {S : Nat → Prop} {a w : World} (h : Chg S a w) : Chg S a w.drew := ⟨h.os, h.tape, h.output, h.size, h.block⟩
/-- An exchange of two entries. -/
theorem DataAt.swp {w : World} {blk : Nat} {d : Array Ent} (h : DataAt w blk d) {i j : Nat} (hi : i < d.size) (hj : j < d.size) : DataAt (Go.Proofs.Ytjomjlodmelnbaa.put3 (Go.Proofs.Ytjomjlodmelnbaa.put3 w blk i d[j]!) blk j d[i]!) blk (swp d i j) :=
  DataAt.put3 (d := d.setIfInBounds i d[j]!) (DataAt.put3 h hi _) (by simpa using hj) _
def EP (S : Nat → Prop) (w0 : World) (blk : Nat) (R : Array Ent → Prop) (e : Ending) (w' : World) : Prop := e = .returned (.tuple #[]) ∧ ∃ d', R d' ∧ DataAt w' blk d' ∧ Chg S w0 w'
set_option maxRecDepth 100000 in
set_option maxHeartbeats 2000000 in
theorem swapRange_c (blk cap : Nat) (d : Array Ent) (w : World) (hD : DataAt w blk d) (a b n lo hi : Nat) (cf : Value) (hab : a + n ≤ b) (hb : b + n ≤ hi) (hlo : lo ≤ a) (hhi : hi ≤ d.size) (hsz : d.size ≤ 1152921504606846976) :
    Calls Try.prog 55 #[.slice (some ⟨blk, 0, none⟩) d.size cap, .int .i64 a, .int .i64 b, .int .i64 n, cf] w (EP (· = blk) w blk fun d' => Exch d a b n d' ∧ PermIn lo hi d d') := by
  have HD := Lib.hid hD
  clear hD
  go_enter Try.func55, Try.ntmps55
  go_wp2
  go_loopw [10] (fun i wr => ∃ (k : Nat) (dk : Array Ent), k ≤ n ∧ i = .int .i64 k ∧ Hid (Exch d a b k dk ∧ PermIn lo hi d dk) ∧ Hid (DataAt wr blk dk) ∧ Chg (· = blk) w wr) (fun i _ => n - (intOf i).toNat)
  case atStart => exact ⟨0, d, Nat.zero_le _, rfl, ⟨Exch.zero d a b, permIn_refl _ _ _⟩, HD.out, Chg.refl _ _⟩
  case round =>
    obtain ⟨k, dk, hk, rfl, HX, HDk, hch⟩ := hrel
    by_cases hlt : k < n
    · have hs : dk.size = d.size := HX.out.1.1
      obtain ⟨x0, x1, x2⟩ := HDk.out.cells (i := a + k) (by omega)
      obtain ⟨y0, y1, y2⟩ := HDk.out.cells (i := b + k) (by omega)
      have hz := HDk.out.lt
      have hfz := HDk.out.free
      have ha : ((a : Int) + (k : Int)).toNat = a + k := by omega
      have hb' : ((b : Int) + (k : Int)).toNat = b + k := by omega
      have hne : ¬ a + k = b + k := by omega
      have hS := HDk.out.swp (i := a + k) (j := b + k) (by omega) (by omega)
      unfold Go.Proofs.Ytjomjlodmelnbaa.put3 at hS
      have HS := Lib.hid hS
      have hp1 : (a : Int) + (k : Int) < d.size := by omega
      have hp2 : (b : Int) + (k : Int) < d.size := by omega
      clear hS hs
      generalize dk[a + k]! = x at x0 x1 x2 HS
      generalize dk[b + k]! = y at y0 y1 y2 HS
      go_wp2
      go_region
      have hP : PermIn lo hi d (swp dk (a + k) (b + k)) := permIn_trans _ _ _ _ _ HX.out.2 (swp_permIn dk lo hi (a + k) (b + k) (by omega) (by omega) (by omega) (by omega) (by rw [HX.out.1.1]; exact hhi))
      have hE : Exch d a b (k + 1) (swp dk (a + k) (b + k)) := HX.out.1.step (by omega) (by omega)
      refine gen_w fun W hW => ?_
      have hDW : Hid (DataAt W blk (swp dk (a + k) (b + k))) := by rw [hW]; exact HS.out.drew
      have hCW : Chg (· = blk) w W := by
        rw [hW]
        repeat (with_reducible first | exact hch | apply Chg.drew | apply Chg.setB)
      clear x0 x1 x2 y0 y1 y2 ha hb' hW HS
      go_wp2
      go_roundw
      case rel => exact ⟨k + 1, swp dk (a + k) (b + k), by omega, by go_num, ⟨hE, hP⟩, hDW, hCW⟩
      case measure => simp [intOf]; omega
    · obtain rfl : k = n := by omega
      go_wp2
      exact bodyPost_ret (results_none rfl _ _ _) rfl ⟨rfl, dk, HX.out, HDk.out, hch⟩
theorem calls_args {P : Program} {f : FuncId} {xs ys : Array Value} {w : World} {R : Ending → World → Prop} (h : xs = ys) (hc : Calls P f ys w R) : Calls P f xs w R := h ▸ hc
set_option maxRecDepth 100000 in
set_option maxHeartbeats 2000000 in
theorem rotate_c (blk cap : Nat) (d : Array Ent) (w : World) (hD : DataAt w blk d) (a m b : Nat) (cf : Value) (ham : a < m) (hmb : m < b) (hb : b ≤ d.size) (hsz : d.size ≤ 1152921504606846976) :
    Calls Try.prog 54 #[.slice (some ⟨blk, 0, none⟩) d.size cap, .int .i64 a, .int .i64 m, .int .i64 b, cf] w (EP (· = blk) w blk fun d' => Rot d a m b d' ∧ PermIn a b d d') := by
  have HD := Lib.hid hD
  clear hD
  go_enter Try.func54, Try.ntmps54
  go_wp2_with fail
  go_loopw [10, 11] (fun vi vj wr => ∃ (i j : Nat) (dk : Array Ent), 0 < i ∧ 0 < j ∧ a + i ≤ m ∧ m + j ≤ b ∧ vi = .int .i64 i ∧ vj = .int .i64 j ∧ Hid (dk.size = d.size ∧ PermIn a b d dk ∧ ∀ d', Rot dk (m - i) m (m + j) d' → Rot d a m b d') ∧ Hid (DataAt wr blk dk) ∧ Chg (· = blk) w wr) (fun vi vj _ => (intOf vi).toNat + (intOf vj).toNat)
  case atStart => exact ⟨m - a, b - m, d, by omega, by omega, by omega, by omega, by go_num, by go_num, ⟨rfl, permIn_refl _ _ _, fun d' h => by rw [show m - (m - a) = a by omega, show m + (b - m) = b by omega] at h; exact h⟩, HD.out, Chg.refl _ _⟩
  case round =>
    obtain ⟨i, j, dk, hi, hj, hai, hjb, rfl, rfl, HX, HDk, hch⟩ := hrel
    have e27 : (m : Int) - (i : Int) = ((m - i : Nat) : Int) := by omega
    have e43 : (m : Int) + (j : Int) - (i : Int) = ((m + j - i : Nat) : Int) := by omega
    have E27 := Lib.hid e27
    have E43 := Lib.hid e43
    clear e27 e43
    by_cases hgt : j < i
    · have hn : ((i : Int) != (j : Int)) = true := by simp; omega
      have hc := swapRange_c blk cap dk wr HDk.out (m - i) m j a b cf (by omega) hjb (by omega) (by rw [HX.out.1]; exact hb) (by rw [HX.out.1]; exact hsz)
      rw [HX.out.1] at hc
      have HC := Lib.hid hc
      clear hc
      go_wp2_with fail
      refine calls_args (by rw [E27.out]) (HC.out.mono ?_)
      rintro e w1 ⟨rfl, d2, ⟨hE, hP⟩, hD2, hch2⟩
      have HX2 : Hid (d2.size = d.size ∧ PermIn a b d d2 ∧ ∀ d', Rot d2 (m - (i - j)) m (m + j) d' → Rot d a m b d') := ⟨hE.1.trans HX.out.1, permIn_trans _ _ _ _ _ HX.out.2.1 hP, fun d' h => HX.out.2.2 d' (Rot.gt hE (by omega) hgt h)⟩
      have HD2 := Lib.hid hD2
      have hch3 := hch.trans hch2
      clear hE hP hD2 hch2
      go_wp2_with fail
      go_roundw
      case rel => exact ⟨i - j, j, d2, by omega, hj, by omega, hjb, by go_num, rfl, HX2, HD2, hch3⟩
      case measure => simp [intOf]; omega
    · by_cases hlt : i < j
      · have hn : ((i : Int) != (j : Int)) = true := by simp; omega
        have hc := swapRange_c blk cap dk wr HDk.out (m - i) (m + j - i) i a b cf (by omega) (by omega) (by omega) (by rw [HX.out.1]; exact hb) (by rw [HX.out.1]; exact hsz)
        rw [HX.out.1] at hc
        have HC := Lib.hid hc
        clear hc
        go_wp2_with fail
        refine calls_args (by rw [E27.out, E43.out]) (HC.out.mono ?_)
        rintro e w1 ⟨rfl, d2, ⟨hE, hP⟩, hD2, hch2⟩
        have HX2 : Hid (d2.size = d.size ∧ PermIn a b d d2 ∧ ∀ d', Rot d2 (m - i) m (m + (j - i)) d' → Rot d a m b d') := ⟨hE.1.trans HX.out.1, permIn_trans _ _ _ _ _ HX.out.2.1 hP, fun d' h => HX.out.2.2 d' (Rot.lt hE (by omega) hlt h)⟩
        have HD2 := Lib.hid hD2
        have hch3 := hch.trans hch2
        clear hE hP hD2 hch2
        go_wp2_with fail
        go_roundw
        case rel => exact ⟨i, j - i, d2, hi, by omega, hai, by omega, rfl, by go_num, HX2, HD2, hch3⟩
        case measure => simp [intOf]; omega
      · obtain rfl : i = j := by omega
        have hc := swapRange_c blk cap dk wr HDk.out (m - i) m i a b cf (by omega) hjb (by omega) (by rw [HX.out.1]; exact hb) (by rw [HX.out.1]; exact hsz)
        rw [HX.out.1] at hc
        have HC := Lib.hid hc
        clear hc
        go_wp2_with fail
        refine calls_args (by rw [E27.out]) (HC.out.mono ?_)
        rintro e w1 ⟨rfl, d2, ⟨hE, hP⟩, hD2, hch2⟩
        have hR := HX.out.2.2 d2 (Rot.eq hE (by omega))
        have hPP := permIn_trans _ _ _ _ _ HX.out.2.1 hP
        have hch3 := hch.trans hch2
        clear hE hP hch2
        go_wp2_with fail
        exact bodyPost_ret (results_none rfl _ _ _) rfl ⟨rfl, d2, ⟨hR, hPP⟩, hD2, hch3⟩
end Go.Proofs.Ytjomjlodmelnbaa

/- The library's insertion sort, merge in place and stable sort, of entries. No condition but the indices' bounds. -/
namespace Go.Proofs.Ytjomjlodmelnbaa
open Go.RowKit Go.Sort
attribute [local go_sem] Oper.semAt_some

/-- The function by which kinds are compared, in its box. -/
def CmpAt (w : World) (kb : Nat) : Prop := w.cell? ⟨kb, 0, none⟩ = some (.func (.func 43) #[] #[])
theorem CmpAt.fr {a w : World} {kb : Nat} (h : CmpAt a kb) (f : Fr a w) : CmpAt w kb := f.keep h
theorem CmpAt.chg {w w' : World} {kb blk : Nat} (h : CmpAt w kb) (k : Chg (· = blk) w w') (hne : kb ≠ blk) : CmpAt w' kb := k.keep h hne
theorem entLt_dec {x y : Ent} {b : Bool} (h : entLt x y = b) : decide (entCmp x y < 0) = b := h
set_option maxRecDepth 100000 in
set_option maxHeartbeats 4000000 in
theorem insertion_c (blk cap kb : Nat) (d : Array Ent) (w : World) (hD : DataAt w blk d) (hK : CmpAt w kb) (hne : kb ≠ blk) (a b : Nat) (hab : a ≤ b) (hb : b ≤ d.size) (hsz : d.size ≤ 1152921504606846976) :
    Calls Try.prog 52 #[.slice (some ⟨blk, 0, none⟩) d.size cap, .int .i64 a, .int .i64 b, .func (.func 45) #[] #[.pointer (some ⟨kb, 0, none⟩)]] w (EP (· = blk) w blk fun d' => PermIn a b d d' ∧ SortedIn entLt a b d') := by
  have hI := insertionSort_holds swo_ent d a b hab hb
  have HI := Lib.hid hI
  have HD := Lib.hid hD
  have HK := Lib.hid hK
  have HN := Lib.hid hne
  clear hD hK hne hI
  go_enter Try.func52, Try.ntmps52
  go_wp2_with fail
  go_loopw [8] (fun vi wr => ∃ (i : Nat) (dk : Array Ent), vi = .int .i64 i ∧ a < i ∧ i ≤ b + 1 ∧ Hid (dk.size = d.size ∧ insOuter entLt a b i dk = insOuter entLt a b (a + 1) d) ∧ Hid (DataAt wr blk dk) ∧ Chg (· = blk) w wr) (fun vi _ => b + 1 - (intOf vi).toNat)
  case atStart => exact ⟨a + 1, d, by go_num, by omega, by omega, ⟨rfl, rfl⟩, HD.out, Chg.refl _ _⟩
  case round =>
    obtain ⟨i, dk, rfl, hai, hib, HO, HDk, hch⟩ := hrel
    by_cases hlt : i < b
    · have hltz : (i : Int) < (b : Int) := by omega
      go_wp2_with fail
      go_loopw [9] (fun vj w2 => ∃ (j : Nat) (dj : Array Ent), vj = .int .i64 j ∧ a ≤ j ∧ j ≤ i ∧ Hid (dj.size = d.size ∧ insInner entLt a j dj = insInner entLt a i dk) ∧ Hid (DataAt w2 blk dj) ∧ Chg (· = blk) w w2) (fun vj _ => (intOf vj).toNat)
      case atStart => exact ⟨i, dk, rfl, by omega, Nat.le_refl _, ⟨HO.out.1, rfl⟩, HDk.out, hch⟩
      case round =>
        clear hch
        obtain ⟨j, dj, rfl, haj, hji, HJ, HDj, hch⟩ := hrel
        have hkr := HK.out.chg hch HN.out
        have hjs : dj.size = d.size := HJ.out.1
        have HJS := Lib.hid hjs
        have out : (j ≤ a ∨ entLt dj[j]! dj[j - 1]! = false) → Hid (dj.size = d.size ∧ insOuter entLt a b (i + 1) dj = insOuter entLt a b (a + 1) d) := fun hs => by
          refine ⟨HJS.out, ?_⟩
          rw [← HO.out.2, insOuter_go _ _ _ _ _ hlt, ← HJ.out.2, insInner_stop _ _ _ _ hs]
        have OUT := Lib.hid out
        clear out
        by_cases hja : a < j
        · obtain ⟨jp, rfl⟩ : ∃ jp, j = jp + 1 := ⟨j - 1, by omega⟩
          have hi1 : jp + 1 < dj.size := by omega
          have hi2 : jp < dj.size := by omega
          clear hjs
          have hjaz : (a : Int) < (jp : Int) + 1 := by omega
          have b1 : (jp : Int) + 1 < (d.size : Int) := by omega
          have b2 : (jp : Int) < (d.size : Int) := by omega
          have p0 : (0 : Int) ≤ (jp : Int) + 1 := by omega
          have e0 : ((jp : Int) + 1).toNat = jp + 1 := by omega
          have hwp : IntKind.i64.wrap (jp : Int) = (jp : Int) := by rw [IntKind.wrap_i64]; omega
          cases hlv : entLt dj[jp + 1]! dj[jp]! with
          | true =>
            obtain ⟨x0, x1, x2⟩ := HDj.out.cells (i := jp + 1) (by omega)
            obtain ⟨y0, y1, y2⟩ := HDj.out.cells (i := jp) (by omega)
            have hcm := fun (z : FrW wr) => entCmp_c dj[jp + 1]! dj[jp]! kb z.val (z.fr.keep (hkr))
            unfold Ent.val at hcm
            have hdc := entLt_dec (hlv)
            obtain ⟨x, hx⟩ : ∃ x, x = dj[jp + 1]! := ⟨_, rfl⟩
            obtain ⟨y, hy⟩ : ∃ y, y = dj[jp]! := ⟨_, rfl⟩
            rw [← hx] at x0 x1 x2 hcm hdc
            rw [← hy] at y0 y1 y2 hcm hdc
            obtain ⟨cxy, hc⟩ : ∃ c, c = entCmp x y := ⟨_, rfl⟩
            rw [← hc] at hcm hdc
            clear hx hy hc
            have X0 := FrW.cell x0
            have X1 := FrW.cell x1
            have X2 := FrW.cell x2
            have Y0 := FrW.cell y0
            have Y1 := FrW.cell y1
            have Y2 := FrW.cell y2
            have hlz : ∀ z : FrW wr, blk < z.val.heap.size := fun z => Nat.lt_of_lt_of_le HDj.out.lt z.fr.size
            have HCM := Lib.hid hcm
            have HDC := Lib.hid hdc
            clear x0 x1 x2 y0 y1 y2 hcm hdc
            go_wp2_with fail
            refine wp_region_fr (by kernel_rfl) (by kernel_rfl) ?_
            repeat (go_big_quiet_step ((go_at_call 45; exact frq (HCM.out _))))
            refine wpQuiet_nil ?_
            rintro w5 ⟨⟨_, hf5⟩, rfl⟩
            have hdc := HDC.out
            have hlp := of_decide_eq_true hdc
            (try rw [hdc])
            (try rw [Bool.not_true])
            clear X0 X1 X2 Y0 Y1 Y2 hlz HCM HDC
            have HD5 : Hid (DataAt w5 blk dj) := HDj.out.fr hf5
            have hch5 := hch.trans hf5.chg
            clear hkr hch hf5
            go_wp2_with fail
            obtain ⟨x0, x1, x2⟩ := HD5.out.cells (i := jp + 1) (by omega)
            obtain ⟨y0, y1, y2⟩ := HD5.out.cells (i := jp) (by omega)
            have hz := HD5.out.lt
            have hfz := HD5.out.free
            have hne : ¬ jp + 1 = jp := by omega
            have hS := HD5.out.swp (i := jp + 1) (j := jp) (by omega) (by omega)
            unfold Go.Proofs.Ytjomjlodmelnbaa.put3 at hS
            have HS := Lib.hid hS
            clear hS
            generalize dj[jp + 1]! = x at x0 x1 x2 HS
            generalize dj[jp]! = y at y0 y1 y2 HS
            go_wp2
            go_region
            refine gen_w fun W hW => ?_
            have hDW : Hid (DataAt W blk (swp dj (jp + 1) (jp))) := by rw [hW]; exact HS.out.drew
            have hCW : Chg (· = blk) w W := by
              rw [hW]
              repeat (with_reducible first | exact hch5 | apply Chg.drew | apply Chg.setB)
            clear x0 x1 x2 y0 y1 y2 hW HS hz hfz hne
            go_wp2
            have HX : Hid ((swp dj (jp + 1) jp).size = d.size ∧ insInner entLt a jp (swp dj (jp + 1) jp) = insInner entLt a i dk) := ⟨by rw [swp_size]; exact HJS.out, by
              have := insInner_go entLt a (jp + 1) dj hja (by simp only [Nat.add_sub_cancel]; exact hlv)
              simp only [Nat.add_sub_cancel] at this
              rw [← this]; exact HJ.out.2⟩
            go_roundw
            case rel => exact ⟨jp, swp dj (jp + 1) jp, by first | rfl | go_num, by omega, by omega, HX, hDW, hCW⟩
            case measure => first | (simp [intOf]; done) | (simp [intOf]; omega)
          | false =>
            obtain ⟨x0, x1, x2⟩ := HDj.out.cells (i := jp + 1) (by omega)
            obtain ⟨y0, y1, y2⟩ := HDj.out.cells (i := jp) (by omega)
            have hcm := fun (z : FrW wr) => entCmp_c dj[jp + 1]! dj[jp]! kb z.val (z.fr.keep (hkr))
            unfold Ent.val at hcm
            have hdc := entLt_dec (hlv)
            obtain ⟨x, hx⟩ : ∃ x, x = dj[jp + 1]! := ⟨_, rfl⟩
            obtain ⟨y, hy⟩ : ∃ y, y = dj[jp]! := ⟨_, rfl⟩
            rw [← hx] at x0 x1 x2 hcm hdc
            rw [← hy] at y0 y1 y2 hcm hdc
            obtain ⟨cxy, hc⟩ : ∃ c, c = entCmp x y := ⟨_, rfl⟩
            rw [← hc] at hcm hdc
            clear hx hy hc
            have X0 := FrW.cell x0
            have X1 := FrW.cell x1
            have X2 := FrW.cell x2
            have Y0 := FrW.cell y0
            have Y1 := FrW.cell y1
            have Y2 := FrW.cell y2
            have hlz : ∀ z : FrW wr, blk < z.val.heap.size := fun z => Nat.lt_of_lt_of_le HDj.out.lt z.fr.size
            have HCM := Lib.hid hcm
            have HDC := Lib.hid hdc
            clear x0 x1 x2 y0 y1 y2 hcm hdc
            go_wp2_with fail
            refine wp_region_fr (by kernel_rfl) (by kernel_rfl) ?_
            repeat (go_big_quiet_step ((go_at_call 45; exact frq (HCM.out _))))
            refine wpQuiet_nil ?_
            rintro w5 ⟨⟨_, hf5⟩, rfl⟩
            have hdc := HDC.out
            have hlp := of_decide_eq_false hdc
            (try rw [hdc])
            (try rw [Bool.not_false])
            clear X0 X1 X2 Y0 Y1 Y2 hlz HCM HDC
            have HD5 : Hid (DataAt w5 blk dj) := HDj.out.fr hf5
            have hch5 := hch.trans hf5.chg
            have HX := OUT.out (.inr (by simpa using hlv))
            clear hkr hch hf5
            go_wp2_with fail
            go_roundw
            case rel => exact ⟨i + 1, dj, by go_num, by omega, by omega, HX, HD5, hch5⟩
            case measure => first | (simp [intOf]; done) | (simp [intOf]; omega)
        · have HX := OUT.out (.inl (by omega))
          clear hjs
          have hjaz : ¬ (a : Int) < (j : Int) := by omega
          have hjd : decide ((a : Int) < (j : Int)) = false := decide_eq_false hjaz
          go_wp2_with fail
          go_quiet (fail)
          go_wp2_with fail
          go_roundw
          case rel => exact ⟨i + 1, dj, by go_num, by omega, by omega, HX, HDj.out, hch.trans (Fr.chg ((Fr.refl _).drewN _))⟩
          case measure => first | (simp [intOf]; done) | (simp [intOf]; omega)
    · have hltz : ¬ (i : Int) < (b : Int) := by omega
      have hfin : insertionSort entLt d a b = dk := by
        have := HO.out.2
        rw [insOuter_stop _ _ _ _ _ (by omega)] at this
        exact this.symm
      rw [hfin] at HI
      clear hfin
      go_wp2_with fail
      exact bodyPost_ret (results_none rfl _ _ _) rfl ⟨rfl, dk, HI.out, HDk.out, hch⟩
/-- What the merge in place is asked, and what it does. -/
def SymAt (blk cap kb : Nat) (d : Array Ent) (w : World) (a m b : Nat) : Prop := Calls Try.prog 53 #[.slice (some ⟨blk, 0, none⟩) d.size cap, .int .i64 a, .int .i64 m, .int .i64 b, .func (.func 45) #[] #[.pointer (some ⟨kb, 0, none⟩)]] w (EP (· = blk) w blk fun d' => MergeOk entLt a m b d d')
set_option maxRecDepth 100000 in
set_option maxHeartbeats 4000000 in
theorem symUp_c (blk cap kb : Nat) (d : Array Ent) (w : World) (hD : DataAt w blk d) (hK : CmpAt w kb) (hne : kb ≠ blk) (a b : Nat) (hmb : a + 1 < b) (hb : b ≤ d.size) (hsz : d.size ≤ 1152921504606846976) : SymAt blk cap kb d w a (a + 1) b := by
  unfold SymAt
  have HD := Lib.hid hD
  have HK := Lib.hid hK
  have HN := Lib.hid hne
  clear hD hK hne
  go_enter Try.func53, Try.ntmps53
  go_wp2_with fail
  go_loopw [10, 11] (fun vi vj wr => ∃ (i j : Nat), vi = .int .i64 i ∧ vj = .int .i64 j ∧ a + 1 ≤ i ∧ i ≤ j ∧ j ≤ b ∧ Hid ((i = a + 1 ∨ entLt d[i - 1]! d[a]! = true) ∧ (j = b ∨ entLt d[j]! d[a]! = false)) ∧ Fr w wr) (fun vi vj _ => (intOf vj).toNat - (intOf vi).toNat)
  case atStart => exact ⟨a + 1, b, by go_num, rfl, Nat.le_refl _, by omega, Nat.le_refl _, ⟨.inl rfl, .inl rfl⟩, Fr.refl _⟩
  case round =>
    obtain ⟨i, j, rfl, rfl, hi, hij, hj, HS, hfr⟩ := hrel
    have HDr : Hid (DataAt wr blk d) := HD.out.fr hfr
    have hkr := HK.out.fr hfr
    by_cases hlt : i < j
    · have hltz : (i : Int) < (j : Int) := by omega
      obtain ⟨h, hh⟩ : ∃ h, h = (i + j) / 2 := ⟨_, rfl⟩
      have eh : ((i : Int) + (j : Int)) / 2 = (h : Int) := by omega
      have hh1 : i ≤ h := by omega
      have hh2 : h < j := by omega
      clear hh
      have b1 : (h : Int) < (d.size : Int) := by omega
      have b2 : (a : Int) < (d.size : Int) := by omega
      cases hlv : entLt d[h]! d[a]! with
      | true =>
        obtain ⟨x0, x1, x2⟩ := HDr.out.cells (i := h) (by omega)
        obtain ⟨y0, y1, y2⟩ := HDr.out.cells (i := a) (by omega)
        have hcm := fun (z : FrW wr) => entCmp_c d[h]! d[a]! kb z.val (z.fr.keep (hkr))
        unfold Ent.val at hcm
        have hdc := entLt_dec (hlv)
        obtain ⟨x, hx⟩ : ∃ x, x = d[h]! := ⟨_, rfl⟩
        obtain ⟨y, hy⟩ : ∃ y, y = d[a]! := ⟨_, rfl⟩
        rw [← hx] at x0 x1 x2 hcm hdc
        rw [← hy] at y0 y1 y2 hcm hdc
        obtain ⟨cxy, hc⟩ : ∃ c, c = entCmp x y := ⟨_, rfl⟩
        rw [← hc] at hcm hdc
        clear hx hy hc
        have X0 := FrW.cell x0
        have X1 := FrW.cell x1
        have X2 := FrW.cell x2
        have Y0 := FrW.cell y0
        have Y1 := FrW.cell y1
        have Y2 := FrW.cell y2
        have hlz : ∀ z : FrW wr, blk < z.val.heap.size := fun z => Nat.lt_of_lt_of_le HDr.out.lt z.fr.size
        have HCM := Lib.hid hcm
        have HDC := Lib.hid hdc
        clear x0 x1 x2 y0 y1 y2 hcm hdc
        go_wp2_with fail
        refine wp_region_fr (by kernel_rfl) (by kernel_rfl) ?_
        repeat (go_big_quiet_step ((go_at_call 45; exact frq (HCM.out _))))
        refine wpQuiet_nil ?_
        rintro w5 ⟨⟨_, hf5⟩, rfl⟩
        have hdc := HDC.out
        have hlp := of_decide_eq_true hdc
        (try rw [hdc])
        (try rw [Bool.not_true])
        clear X0 X1 X2 Y0 Y1 Y2 hlz HCM HDC
        have HX : Hid ((h + 1 = a + 1 ∨ entLt d[h + 1 - 1]! d[a]! = true) ∧ (j = b ∨ entLt d[j]! d[a]! = false)) := ⟨.inr hlv, HS.out.2⟩
        have hf6 := hfr.trans hf5
        clear hkr hfr hf5 hlv HS HDr
        go_wp2_with fail
        go_roundw
        case rel => exact ⟨h + 1, j, by go_num, rfl, by omega, by omega, hj, HX, hf6⟩
        case measure => first | (simp [intOf]; done) | (simp [intOf]; omega)
      | false =>
        obtain ⟨x0, x1, x2⟩ := HDr.out.cells (i := h) (by omega)
        obtain ⟨y0, y1, y2⟩ := HDr.out.cells (i := a) (by omega)
        have hcm := fun (z : FrW wr) => entCmp_c d[h]! d[a]! kb z.val (z.fr.keep (hkr))
        unfold Ent.val at hcm
        have hdc := entLt_dec (hlv)
        obtain ⟨x, hx⟩ : ∃ x, x = d[h]! := ⟨_, rfl⟩
        obtain ⟨y, hy⟩ : ∃ y, y = d[a]! := ⟨_, rfl⟩
        rw [← hx] at x0 x1 x2 hcm hdc
        rw [← hy] at y0 y1 y2 hcm hdc
        obtain ⟨cxy, hc⟩ : ∃ c, c = entCmp x y := ⟨_, rfl⟩
        rw [← hc] at hcm hdc
        clear hx hy hc
        have X0 := FrW.cell x0
        have X1 := FrW.cell x1
        have X2 := FrW.cell x2
        have Y0 := FrW.cell y0
        have Y1 := FrW.cell y1
        have Y2 := FrW.cell y2
        have hlz : ∀ z : FrW wr, blk < z.val.heap.size := fun z => Nat.lt_of_lt_of_le HDr.out.lt z.fr.size
        have HCM := Lib.hid hcm
        have HDC := Lib.hid hdc
        clear x0 x1 x2 y0 y1 y2 hcm hdc
        go_wp2_with fail
        refine wp_region_fr (by kernel_rfl) (by kernel_rfl) ?_
        repeat (go_big_quiet_step ((go_at_call 45; exact frq (HCM.out _))))
        refine wpQuiet_nil ?_
        rintro w5 ⟨⟨_, hf5⟩, rfl⟩
        have hdc := HDC.out
        have hlp := of_decide_eq_false hdc
        (try rw [hdc])
        (try rw [Bool.not_false])
        clear X0 X1 X2 Y0 Y1 Y2 hlz HCM HDC
        have HX : Hid ((i = a + 1 ∨ entLt d[i - 1]! d[a]! = true) ∧ (h = b ∨ entLt d[h]! d[a]! = false)) := ⟨HS.out.1, .inr hlv⟩
        have hf6 := hfr.trans hf5
        clear hkr hfr hf5 hlv HS HDr
        go_wp2_with fail
        go_roundw
        case rel => exact ⟨i, h, rfl, rfl, hi, by omega, by omega, HX, hf6⟩
        case measure => first | (simp [intOf]; done) | (simp [intOf]; omega)
    · obtain rfl : i = j := by omega
      have hltz : ¬ (i : Int) < (i : Int) := by omega
      clear hkr
      go_wp2_with fail
      go_loopw [13] (fun vk w2 => ∃ (k : Nat) (dk : Array Ent), vk = .int .i64 k ∧ a ≤ k ∧ k + 1 ≤ i ∧ Hid (MvUp d a k dk ∧ PermIn a b d dk) ∧ Hid (DataAt w2 blk dk) ∧ Chg (· = blk) w w2) (fun vk _ => i - (intOf vk).toNat)
      case atStart => exact ⟨a, d, rfl, Nat.le_refl _, by omega, ⟨MvUp.zero d a, permIn_refl _ _ _⟩, HDr.out, hfr.chg⟩
      case round =>
        clear hfr HDr
        obtain ⟨k, dk, rfl, hk, hki, HX, HDk, hch⟩ := hrel
        by_cases hlt2 : k + 1 < i
        · have hkz : (k : Int) < (i : Int) - 1 := by omega
          have hs1 : k + 1 < dk.size := by rw [HX.out.1.1]; omega
          have hs2 : k < dk.size := by omega
          have b1 : (k : Int) + 1 < (d.size : Int) := by omega
          have b2 : (k : Int) < (d.size : Int) := by omega
          have p0 : (0 : Int) ≤ (k : Int) + 1 := by omega
          have e0 : ((k : Int) + 1).toNat = k + 1 := by omega
          obtain ⟨x0, x1, x2⟩ := HDk.out.cells (i := k) (by omega)
          obtain ⟨y0, y1, y2⟩ := HDk.out.cells (i := k + 1) (by omega)
          have hz := HDk.out.lt
          have hfz := HDk.out.free
          have hne : ¬ k = k + 1 := by omega
          have hS := HDk.out.swp (i := k) (j := k + 1) (by omega) (by omega)
          unfold Go.Proofs.Ytjomjlodmelnbaa.put3 at hS
          have HS := Lib.hid hS
          clear hS
          generalize dk[k]! = x at x0 x1 x2 HS
          generalize dk[k + 1]! = y at y0 y1 y2 HS
          go_wp2
          go_region
          refine gen_w fun W hW => ?_
          have hDW : Hid (DataAt W blk (swp dk (k) (k + 1))) := by rw [hW]; exact HS.out.drew
          have hCW : Chg (· = blk) w W := by
            rw [hW]
            repeat (with_reducible first | exact hch | apply Chg.drew | apply Chg.setB)
          clear x0 x1 x2 y0 y1 y2 hW HS hz hfz hne
          go_wp2
          have HX2 : Hid (MvUp d a (k + 1) (swp dk k (k + 1)) ∧ PermIn a b d (swp dk k (k + 1))) := ⟨HX.out.1.step hk (by omega), permIn_trans _ _ _ _ _ HX.out.2 (swp_permIn dk a b k (k + 1) hk (by omega) (by omega) (by omega) (by rw [HX.out.1.1]; exact hb))⟩
          go_roundw
          case rel => exact ⟨k + 1, swp dk k (k + 1), by go_num, by omega, by omega, HX2, hDW, hCW⟩
          case measure => first | (simp [intOf]; done) | (simp [intOf]; omega)
        · obtain rfl : i = k + 1 := by omega
          have hkz : ¬ (k : Int) < ((k + 1 : Nat) : Int) - 1 := by omega
          have hkz2 : ¬ (k : Int) < (k : Int) + 1 - 1 := by omega
          have hM := merge_up swo_ent (i := k + 1) hi hj HX.out.2 HX.out.1 HS.out.1 HS.out.2
          clear HS HX
          go_wp2_with fail
          exact bodyPost_ret (results_none rfl _ _ _) rfl ⟨rfl, dk, hM, HDk.out, hch⟩
set_option maxRecDepth 100000 in
set_option maxHeartbeats 4000000 in
theorem symDn_c (blk cap kb : Nat) (d : Array Ent) (w : World) (hD : DataAt w blk d) (hK : CmpAt w kb) (hne : kb ≠ blk) (a m : Nat) (ham : a + 1 < m) (hb : m + 1 ≤ d.size) (hsz : d.size ≤ 1152921504606846976) : SymAt blk cap kb d w a m (m + 1) := by
  unfold SymAt
  have HD := Lib.hid hD
  have HK := Lib.hid hK
  have HN := Lib.hid hne
  clear hD hK hne
  have hq1 : ((m : Int) - (a : Int) == 1) = false := by simp; omega
  go_enter Try.func53, Try.ntmps53
  go_wp2_with fail
  go_loopw [14, 15] (fun vi vj wr => ∃ (i j : Nat), vi = .int .i64 i ∧ vj = .int .i64 j ∧ a ≤ i ∧ i ≤ j ∧ j ≤ m ∧ Hid ((i = a ∨ entLt d[m]! d[i - 1]! = false) ∧ (j = m ∨ entLt d[m]! d[j]! = true)) ∧ Fr w wr) (fun vi vj _ => (intOf vj).toNat - (intOf vi).toNat)
  case atStart => exact ⟨a, m, rfl, rfl, Nat.le_refl _, by omega, Nat.le_refl _, ⟨.inl rfl, .inl rfl⟩, Fr.refl _⟩
  case round =>
    obtain ⟨i, j, rfl, rfl, hi, hij, hj, HS, hfr⟩ := hrel
    have HDr : Hid (DataAt wr blk d) := HD.out.fr hfr
    have hkr := HK.out.fr hfr
    by_cases hlt : i < j
    · have hltz : (i : Int) < (j : Int) := by omega
      obtain ⟨h, hh⟩ : ∃ h, h = (i + j) / 2 := ⟨_, rfl⟩
      have eh : ((i : Int) + (j : Int)) / 2 = (h : Int) := by omega
      have hh1 : i ≤ h := by omega
      have hh2 : h < j := by omega
      clear hh
      have b1 : (h : Int) < (d.size : Int) := by omega
      have b2 : (m : Int) < (d.size : Int) := by omega
      cases hlv : entLt d[m]! d[h]! with
      | true =>
        obtain ⟨x0, x1, x2⟩ := HDr.out.cells (i := m) (by omega)
        obtain ⟨y0, y1, y2⟩ := HDr.out.cells (i := h) (by omega)
        have hcm := fun (z : FrW wr) => entCmp_c d[m]! d[h]! kb z.val (z.fr.keep (hkr))
        unfold Ent.val at hcm
        have hdc := entLt_dec (hlv)
        obtain ⟨x, hx⟩ : ∃ x, x = d[m]! := ⟨_, rfl⟩
        obtain ⟨y, hy⟩ : ∃ y, y = d[h]! := ⟨_, rfl⟩
        rw [← hx] at x0 x1 x2 hcm hdc
        rw [← hy] at y0 y1 y2 hcm hdc
        obtain ⟨cxy, hc⟩ : ∃ c, c = entCmp x y := ⟨_, rfl⟩
        rw [← hc] at hcm hdc
        clear hx hy hc
        have X0 := FrW.cell x0
        have X1 := FrW.cell x1
        have X2 := FrW.cell x2
        have Y0 := FrW.cell y0
        have Y1 := FrW.cell y1
        have Y2 := FrW.cell y2
        have hlz : ∀ z : FrW wr, blk < z.val.heap.size := fun z => Nat.lt_of_lt_of_le HDr.out.lt z.fr.size
        have HCM := Lib.hid hcm
        have HDC := Lib.hid hdc
        clear x0 x1 x2 y0 y1 y2 hcm hdc
        go_wp2_with fail
        refine wp_region_fr (by kernel_rfl) (by kernel_rfl) ?_
        repeat (go_big_quiet_step ((go_at_call 45; exact frq (HCM.out _))))
        refine wpQuiet_nil ?_
        rintro w5 ⟨⟨_, hf5⟩, rfl⟩
        have hdc := HDC.out
        have hlp := of_decide_eq_true hdc
        (try rw [hdc])
        (try rw [Bool.not_true])
        clear X0 X1 X2 Y0 Y1 Y2 hlz HCM HDC
        have HX : Hid ((i = a ∨ entLt d[m]! d[i - 1]! = false) ∧ (h = m ∨ entLt d[m]! d[h]! = true)) := ⟨HS.out.1, .inr hlv⟩
        have hf6 := hfr.trans hf5
        clear hkr hfr hf5 hlv HS HDr
        go_wp2_with fail
        go_roundw
        case rel => exact ⟨i, h, rfl, rfl, hi, by omega, by omega, HX, hf6⟩
        case measure => first | (simp [intOf]; done) | (simp [intOf]; omega)
      | false =>
        obtain ⟨x0, x1, x2⟩ := HDr.out.cells (i := m) (by omega)
        obtain ⟨y0, y1, y2⟩ := HDr.out.cells (i := h) (by omega)
        have hcm := fun (z : FrW wr) => entCmp_c d[m]! d[h]! kb z.val (z.fr.keep (hkr))
        unfold Ent.val at hcm
        have hdc := entLt_dec (hlv)
        obtain ⟨x, hx⟩ : ∃ x, x = d[m]! := ⟨_, rfl⟩
        obtain ⟨y, hy⟩ : ∃ y, y = d[h]! := ⟨_, rfl⟩
        rw [← hx] at x0 x1 x2 hcm hdc
        rw [← hy] at y0 y1 y2 hcm hdc
        obtain ⟨cxy, hc⟩ : ∃ c, c = entCmp x y := ⟨_, rfl⟩
        rw [← hc] at hcm hdc
        clear hx hy hc
        have X0 := FrW.cell x0
        have X1 := FrW.cell x1
        have X2 := FrW.cell x2
        have Y0 := FrW.cell y0
        have Y1 := FrW.cell y1
        have Y2 := FrW.cell y2
        have hlz : ∀ z : FrW wr, blk < z.val.heap.size := fun z => Nat.lt_of_lt_of_le HDr.out.lt z.fr.size
        have HCM := Lib.hid hcm
        have HDC := Lib.hid hdc
        clear x0 x1 x2 y0 y1 y2 hcm hdc
        go_wp2_with fail
        refine wp_region_fr (by kernel_rfl) (by kernel_rfl) ?_
        repeat (go_big_quiet_step ((go_at_call 45; exact frq (HCM.out _))))
        refine wpQuiet_nil ?_
        rintro w5 ⟨⟨_, hf5⟩, rfl⟩
        have hdc := HDC.out
        have hlp := of_decide_eq_false hdc
        (try rw [hdc])
        (try rw [Bool.not_false])
        clear X0 X1 X2 Y0 Y1 Y2 hlz HCM HDC
        have HX : Hid ((h + 1 = a ∨ entLt d[m]! d[h + 1 - 1]! = false) ∧ (j = m ∨ entLt d[m]! d[j]! = true)) := ⟨.inr hlv, HS.out.2⟩
        have hf6 := hfr.trans hf5
        clear hkr hfr hf5 hlv HS HDr
        go_wp2_with fail
        go_roundw
        case rel => exact ⟨h + 1, j, by go_num, rfl, by omega, by omega, hj, HX, hf6⟩
        case measure => first | (simp [intOf]; done) | (simp [intOf]; omega)
    · obtain rfl : i = j := by omega
      have hltz : ¬ (i : Int) < (i : Int) := by omega
      clear hkr
      go_wp2_with fail
      go_loopw [17] (fun vk w2 => ∃ (k : Nat) (dk : Array Ent), vk = .int .i64 k ∧ i ≤ k ∧ k ≤ m ∧ Hid (MvDn d m k dk ∧ PermIn a (m + 1) d dk) ∧ Hid (DataAt w2 blk dk) ∧ Chg (· = blk) w w2) (fun vk _ => (intOf vk).toNat)
      case atStart => exact ⟨m, d, rfl, by omega, Nat.le_refl _, ⟨MvDn.zero d m, permIn_refl _ _ _⟩, HDr.out, hfr.chg⟩
      case round =>
        clear hfr HDr
        obtain ⟨k0, dk, rfl, hk, hki, HX, HDk, hch⟩ := hrel
        by_cases hlt2 : i < k0
        · obtain ⟨k, rfl⟩ : ∃ k, k0 = k + 1 := ⟨k0 - 1, by omega⟩
          have hkz : (i : Int) < (k : Int) + 1 := by omega
          have hs1 : k + 1 < dk.size := by rw [HX.out.1.1]; omega
          have hs2 : k < dk.size := by omega
          have b1 : (k : Int) + 1 < (d.size : Int) := by omega
          have b2 : (k : Int) < (d.size : Int) := by omega
          have p0 : (0 : Int) ≤ (k : Int) + 1 := by omega
          have e0 : ((k : Int) + 1).toNat = k + 1 := by omega
          obtain ⟨x0, x1, x2⟩ := HDk.out.cells (i := k + 1) (by omega)
          obtain ⟨y0, y1, y2⟩ := HDk.out.cells (i := k) (by omega)
          have hz := HDk.out.lt
          have hfz := HDk.out.free
          have hne : ¬ k + 1 = k := by omega
          have hS := HDk.out.swp (i := k + 1) (j := k) (by omega) (by omega)
          unfold Go.Proofs.Ytjomjlodmelnbaa.put3 at hS
          have HS := Lib.hid hS
          clear hS
          generalize dk[k + 1]! = x at x0 x1 x2 HS
          generalize dk[k]! = y at y0 y1 y2 HS
          go_wp2
          go_region
          refine gen_w fun W hW => ?_
          have hDW : Hid (DataAt W blk (swp dk (k + 1) (k))) := by rw [hW]; exact HS.out.drew
          have hCW : Chg (· = blk) w W := by
            rw [hW]
            repeat (with_reducible first | exact hch | apply Chg.drew | apply Chg.setB)
          clear x0 x1 x2 y0 y1 y2 hW HS hz hfz hne
          go_wp2
          have HX2 : Hid (MvDn d m k (swp dk (k + 1) k) ∧ PermIn a (m + 1) d (swp dk (k + 1) k)) := ⟨HX.out.1.step hki (by omega), permIn_trans _ _ _ _ _ HX.out.2 (swp_permIn dk a (m + 1) (k + 1) k (by omega) (by omega) (by omega) (by omega) (by rw [HX.out.1.1]; exact hb))⟩
          go_roundw
          case rel => exact ⟨k, swp dk (k + 1) k, by first | rfl | go_num, by omega, by omega, HX2, hDW, hCW⟩
          case measure => first | (simp [intOf]; done) | (simp [intOf]; omega)
        · obtain rfl : i = k0 := by omega
          have hM := merge_dn swo_ent hi hj HX.out.2 HX.out.1 HS.out.1 HS.out.2
          clear HS HX
          go_wp2_with fail
          exact bodyPost_ret (results_none rfl _ _ _) rfl ⟨rfl, dk, hM, HDk.out, hch⟩
end Go.Proofs.Ytjomjlodmelnbaa
