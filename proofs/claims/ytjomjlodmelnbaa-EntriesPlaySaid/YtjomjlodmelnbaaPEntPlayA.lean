/- umpirelaw16.one: a call of both lists. No condition but that both lie there. -/
import Derived.Test.YtjomjlodmelnbaaPEntRefC
set_option linter.all false
set_option linter.unusedVariables false
set_option linter.unusedSimpArgs false
set_option linter.unnecessarySimpa false
/- umpirelaw16.one: a call of both lists. No condition but that both lie there. -/
namespace Go.Proofs.Ytjomjlodmelnbaa
open Go.RowKit Go.Sort
attribute [local go_sem] Oper.semAt_some

/-- Both lists, apart from each other. -/
def ParZ (w0 w : World) (x y : Nat) (l : List TRow) (ux uy : List Nat) (Zx Zy : Nat → Prop) : Prop := Fr w0 w ∧ Lst w0.heap.size w x (eRows l) ux Zx ∧ RL w0.heap.size w y l uy Zy ∧ ∀ b, Zx b → ¬ Zy b
def Par (w0 w : World) (x y : Nat) (l : List TRow) (ux uy : List Nat) : Prop := ∃ Zx Zy, ParZ w0 w x y l ux uy Zx Zy
theorem ParZ.fr {w0 w w' : World} {x y : Nat} {l : List TRow} {ux uy : List Nat} {Zx Zy : Nat → Prop} (H : ParZ w0 w x y l ux uy Zx Zy) (f : Fr w w') : ParZ w0 w' x y l ux uy Zx Zy := by
  obtain ⟨h1, h2, h3, h4⟩ := H
  exact ⟨h1.trans f, h2.fr f, h3.fr f, h4⟩
theorem Par.fr {w0 w w' : World} {x y : Nat} {l : List TRow} {ux uy : List Nat} (H : Par w0 w x y l ux uy) (f : Fr w w') : Par w0 w' x y l ux uy := by
  obtain ⟨Zx, Zy, h1, h2, h3, h4⟩ := H
  exact ⟨Zx, Zy, h1.trans f, h2.fr f, h3.fr f, h4⟩
theorem ParZ.turnX {w0 w : World} {x y : Nat} {l : List TRow} {ux uy : List Nat} {f : FuncId} {args : Array Value} {R : Ending → Prop} {u' : List Nat} {Zx Zy : Nat → Prop} (H : ParZ w0 w x y l ux uy Zx Zy)
    (h : ∀ Z, Lst w0.heap.size w x (eRows l) ux Z → w0.heap.size ≤ w.heap.size → Calls Try.prog f args w fun e w' => R e ∧ Turned w0.heap.size w w' x (eRows l) u' Z) :
    Calls Try.prog f args w fun e w' => R e ∧ Par w0 w' x y l u' uy ∧ Chg Zx w w' := by
  obtain ⟨h1, h2, h3, h4⟩ := H
  have hlt := h3.choose_spec.choose_spec.lt
  refine (h Zx h2 h1.size).mono ?_
  rintro e w' ⟨hR, Z', g1, g2, g3⟩
  refine ⟨hR, ⟨Z', Zy, g3.fr h1 (fun b hb => h2.ge b hb), g1, h3.keep g3 (fun b hb hx => h4 b hx hb), fun b hb hy => ?_⟩, g3⟩
  rcases g2 b hb with h | h
  · exact h4 b h hy
  · have := hlt b hy; omega
theorem Par.turnY {w0 w : World} {x y : Nat} {l : List TRow} {ux uy : List Nat} {f : FuncId} {args : Array Value} {R : Ending → Prop} {u' : List Nat} (H : Par w0 w x y l ux uy)
    (h : ∀ Z, RL w0.heap.size w y l uy Z → w0.heap.size ≤ w.heap.size → Calls Try.prog f args w fun e w' => R e ∧ RTurned w0.heap.size w w' y l u' Z) :
    Calls Try.prog f args w fun e w' => R e ∧ Par w0 w' x y l ux u' := by
  obtain ⟨Zx, Zy, h1, h2, h3, h4⟩ := H
  have hge := h3.choose_spec.choose_spec.ge
  refine (h Zy h3 h1.size).mono ?_
  rintro e w' ⟨hR, Z', g1, g2, g3⟩
  refine ⟨hR, Zx, Z', g3.fr h1 (fun b hb => hge b hb), h2.keep g3 (fun b hb hx => h4 b hb hx), g1, fun b hb hy => ?_⟩
  rcases g2 b hy with h | h
  · exact h4 b hb h
  · have := h2.lt b hb; omega
theorem parLift_c {w0 w : World} {x y : Nat} {l : List TRow} {ux uy : List Nat} {Zx Zy : Nat → Prop} (H : ParZ w0 w x y l ux uy Zx Zy) (i : Int) :
    Calls Try.prog 12 #[Pt x, .int .i64 i] w fun e w' => e = .returned (.int .i64 ((liftOf (eRows l) ux i).1 : Nat)) ∧ Par w0 w' x y l (liftOf (eRows l) ux i).2 uy ∧ Chg Zx w w' :=
  ParZ.turnX H (R := fun e => e = .returned (.int .i64 ((liftOf (eRows l) ux i).1 : Nat))) fun _ hL hb => lift16_c hL hb i
theorem parRLift_c {w0 w : World} {x y : Nat} {l : List TRow} {ux uy : List Nat} (H : Par w0 w x y l ux uy) (i : Int) :
    Calls Try.prog 38 #[Pt y, .int .i64 i] w fun e w' => e = .returned (.int .i64 ((liftOf (eRows l) uy i).1 : Nat)) ∧ Par w0 w' x y l ux (liftOf (eRows l) uy i).2 :=
  H.turnY (R := fun e => e = .returned (.int .i64 ((liftOf (eRows l) uy i).1 : Nat))) fun _ hL hb => rLift_c hL hb i
def lastOf (up : List Nat) : Nat × Nat := match up.reverse with
  | [] => (0, 11)
  | i :: _ => (i, 0)
theorem parUnlift_c {w0 w : World} {x y : Nat} {l : List TRow} {ux uy : List Nat} {Zx Zy : Nat → Prop} (H : ParZ w0 w x y l ux uy Zx Zy) :
    Calls Try.prog 26 #[Pt x] w fun e w' => e = .returned (.tuple #[.int .i64 ((lastOf ux).1 : Nat), .int .i64 ((lastOf ux).2 : Nat)]) ∧ Par w0 w' x y l ux.dropLast uy ∧ Chg Zx w w' :=
  ParZ.turnX H (R := fun e => e = .returned (.tuple #[.int .i64 ((lastOf ux).1 : Nat), .int .i64 ((lastOf ux).2 : Nat)])) fun _ hL hb => (unlift16_c hL hb).mono fun e w' h => by
    rcases h with ⟨rfl, h1, h2⟩ | ⟨up0, j, rfl, h1, h2⟩
    · exact ⟨h1, h2⟩
    · rw [List.dropLast_concat]
      refine ⟨?_, h2⟩
      rw [h1]; unfold lastOf; simp
theorem parRUnlift_c {w0 w : World} {x y : Nat} {l : List TRow} {ux uy : List Nat} (H : Par w0 w x y l ux uy) :
    Calls Try.prog 37 #[Pt y] w fun e w' => e = .returned (.tuple #[.int .i64 ((lastOf uy).1 : Nat), .int .i64 ((lastOf uy).2 : Nat)]) ∧ Par w0 w' x y l ux uy.dropLast :=
  H.turnY (R := fun e => e = .returned (.tuple #[.int .i64 ((lastOf uy).1 : Nat), .int .i64 ((lastOf uy).2 : Nat)])) fun _ hL hb => (rUnlift_c hL hb).mono fun e w' h => by
    rcases h with ⟨rfl, h1, h2⟩ | ⟨up0, j, rfl, h1, h2⟩
    · exact ⟨h1, h2⟩
    · rw [List.dropLast_concat]
      refine ⟨?_, h2⟩
      rw [h1]; unfold lastOf; simp
theorem rem_round (I : Int) {n : Nat} (hn : 0 < n) : ∃ j : Nat, j < n ∧ Int.tmod (Int.tmod I n + n) n = (j : Int) := by
  have hp : (0 : Int) < (n : Int) := by omega
  have h1 := Int.lt_tmod_of_pos I hp
  have h2 := Int.tmod_lt_of_pos (Int.tmod I n + n) hp
  have h3 := Int.tmod_nonneg (b := (n : Int)) (a := Int.tmod I n + n) (by omega)
  exact ⟨(Int.tmod (Int.tmod I n + n) n).toNat, by omega, by omega⟩
def OneQ (w0 : World) (x y : Nat) (l : List TRow) (e : Ending) (w' : World) : Prop := e = .returned (.bool true) ∧ ∃ up, Par w0 w' x y l up up
set_option maxRecDepth 100000 in
set_option maxHeartbeats 8000000 in
theorem one_c {w0 w : World} {x y : Nat} {l : List TRow} {up : List Nat} (H : Par w0 w x y l up up) (what : Nat) (I : Int) (hw : what < 256) :
    Calls Try.prog 18 #[Pt x, Pt y, .agg #[.int .u8 what, .int .i64 I]] w (OneQ w0 x y l) := by
  obtain ⟨Zx, Zy, H⟩ := H
  have HH := Lib.hid H
  have hlt := H.2.1.lt
  have HN := Lib.hid (fun W (f : Fr w W) => rNext_c (H.2.2.1.fr f))
  have hL20 : (nexts (eRows l) up).length ≤ 20 := by
    have h1 := nexts_len (eRows l) up
    rw [eRows_len] at h1
    exact Nat.le_trans h1 H.2.2.1.choose_spec.choose_spec.few
  clear H
  generalize nexts (eRows l) up = L at HN hL20
  have h4 : what % 4 < 4 := Nat.mod_lt _ (by omega)
  by_cases h3 : what % 4 = 3
  · have hz3 : (((what : Int) % 4) == 3) = true := by rw [show (what : Int) % 4 = ((what % 4 : Nat) : Int) by simp, h3]; rfl
    clear h3 h4
    go_enter Try.func18, Try.ntmps18
    go_wp2_with fail
    refine (HN.out _ ((Fr.refl _).alloc _)).mono ?_
    rintro e w2 ⟨v, rfl, hO, hf⟩
    have HP := Lib.hid (HH.out.fr (((Fr.refl _).alloc _).trans hf))
    have hB := (BoxAt.new w #[.int .u8 what, .int .i64 I] 52).fr hf
    have k0 : w2.cell? ⟨w.heap.size, 0, none⟩ = some (.int .u8 what) := hB.at 0 rfl
    have k1 : w2.cell? ⟨w.heap.size, 1, none⟩ = some (.int .i64 I) := hB.at 1 rfl
    have lbx := hB.lt
    have HB := Lib.hid hB
    have hbx : ¬ Zx w.heap.size := fun h => by have := hlt _ h; omega
    clear hlt
    generalize w.heap.size = bx at HB k0 k1 lbx hbx ⊢
    clear hB hf
    obtain ⟨va, vc, rfl⟩ := ints_at hO
    clear hO
    go_wp2_with fail
    refine (parUnlift_c HP.out).mono ?_
    rintro e w3 ⟨rfl, hP3, hc3⟩
    have HP3 := Lib.hid hP3
    clear hP3 HP k0 k1 hc3
    go_wp2_with fail
    refine (parRUnlift_c HP3.out).mono ?_
    rintro e w4 ⟨rfl, hP4⟩
    have HP4 := Lib.hid hP4
    clear hP4 HP3
    go_wp2_with fail
    go_ret
    exact ⟨rfl, _, HP4.out⟩
  · have hz3 : (((what : Int) % 4) == 3) = false := by rw [show (what : Int) % 4 = ((what % 4 : Nat) : Int) by simp]; simp; omega
    by_cases h2 : what % 4 = 2
    · have hz2 : (((what : Int) % 4) == 2) = true := by rw [show (what : Int) % 4 = ((what % 4 : Nat) : Int) by simp, h2]; rfl
      clear h3 h4 h2
      by_cases h0 : 0 < L.length
      · have h0i : (0 : Int) < (L.length : Int) := by omega
        go_enter Try.func18, Try.ntmps18
        go_wp2_with fail
        refine (HN.out _ ((Fr.refl _).alloc _)).mono ?_
        rintro e w2 ⟨v, rfl, hO, hf⟩
        have HP := Lib.hid (HH.out.fr (((Fr.refl _).alloc _).trans hf))
        have hB := (BoxAt.new w #[.int .u8 what, .int .i64 I] 52).fr hf
        have k0 : w2.cell? ⟨w.heap.size, 0, none⟩ = some (.int .u8 what) := hB.at 0 rfl
        have k1 : w2.cell? ⟨w.heap.size, 1, none⟩ = some (.int .i64 I) := hB.at 1 rfl
        have lbx := hB.lt
        have HB := Lib.hid hB
        have hbx : ¬ Zx w.heap.size := fun h => by have := hlt _ h; omega
        clear hlt
        generalize w.heap.size = bx at HB k0 k1 lbx hbx ⊢
        clear hB hf
        obtain ⟨va, vc, rfl, hvc, hus⟩ := ints_form hO
        obtain ⟨j, hj, hji⟩ := rem_round I h0
        obtain ⟨g, rfl, hcj⟩ := hus j hj
        have lg := lt_of_cell hcj
        simp only at lg
        unfold intV at hcj
        generalize L[j] = p at hcj
        clear hO hus
        have hI1 : -(20 : Int) < Int.tmod I (L.length : Int) ∧ Int.tmod I (L.length : Int) < 20 := by
          have h1 := Int.tmod_lt_of_pos I h0i
          have h2 := Int.lt_tmod_of_pos I h0i
          omega
        go_wp2_with fail
        obtain ⟨lo, hlo⟩ : ∃ lo, lo = liftOf (eRows l) up (p : Int) := ⟨_, rfl⟩
        have hx := parLift_c HP.out (p : Int)
        rw [← hlo] at hx
        refine hx.mono ?_
        rintro e w3 ⟨rfl, hP3, hc3⟩
        have hy := parRLift_c hP3 (p : Int)
        rw [← hlo] at hy
        have HY := Lib.hid hy
        clear hP3 HP hc3 hx hy hlo
        go_wp2_with fail
        refine HY.out.mono ?_
        rintro e w4 ⟨rfl, hP4⟩
        have HP4 := Lib.hid hP4
        clear hP4 HY
        go_wp2_with fail
        go_ret
        exact ⟨rfl, _, HP4.out⟩
      · have h0i : ¬ (0 : Int) < (L.length : Int) := by omega
        go_enter Try.func18, Try.ntmps18
        go_wp2_with fail
        refine (HN.out _ ((Fr.refl _).alloc _)).mono ?_
        rintro e w2 ⟨v, rfl, hO, hf⟩
        have HP := Lib.hid (HH.out.fr (((Fr.refl _).alloc _).trans hf))
        have hB := (BoxAt.new w #[.int .u8 what, .int .i64 I] 52).fr hf
        have k0 : w2.cell? ⟨w.heap.size, 0, none⟩ = some (.int .u8 what) := hB.at 0 rfl
        have k1 : w2.cell? ⟨w.heap.size, 1, none⟩ = some (.int .i64 I) := hB.at 1 rfl
        have lbx := hB.lt
        have HB := Lib.hid hB
        have hbx : ¬ Zx w.heap.size := fun h => by have := hlt _ h; omega
        clear hlt
        generalize w.heap.size = bx at HB k0 k1 lbx hbx ⊢
        clear hB hf
        obtain ⟨va, vc, rfl⟩ := ints_at hO
        clear hO
        go_wp2_with fail
        obtain ⟨lo, hlo⟩ : ∃ lo, lo = liftOf (eRows l) up I := ⟨_, rfl⟩
        have hx := parLift_c HP.out I
        rw [← hlo] at hx
        refine hx.mono ?_
        rintro e w3 ⟨rfl, hP3, hc3⟩
        have hy := parRLift_c hP3 I
        rw [← hlo] at hy
        have HY := Lib.hid hy
        have k1 := hc3.keep k1 hbx
        have lbx := lt_of_cell k1
        simp only at lbx
        clear k0
        clear hP3 HP hc3 hx hy hlo
        go_wp2_with fail
        refine HY.out.mono ?_
        rintro e w4 ⟨rfl, hP4⟩
        have HP4 := Lib.hid hP4
        clear hP4 HY
        go_wp2_with fail
        go_ret
        exact ⟨rfl, _, HP4.out⟩
    · have hz2 : (((what : Int) % 4) == 2) = false := by rw [show (what : Int) % 4 = ((what % 4 : Nat) : Int) by simp]; simp; omega
      clear h3 h4 h2
      go_enter Try.func18, Try.ntmps18
      go_wp2_with fail
      refine (HN.out _ ((Fr.refl _).alloc _)).mono ?_
      rintro e w2 ⟨v, rfl, hO, hf⟩
      have HP := Lib.hid (HH.out.fr (((Fr.refl _).alloc _).trans hf))
      have hB := (BoxAt.new w #[.int .u8 what, .int .i64 I] 52).fr hf
      have k0 : w2.cell? ⟨w.heap.size, 0, none⟩ = some (.int .u8 what) := hB.at 0 rfl
      have k1 : w2.cell? ⟨w.heap.size, 1, none⟩ = some (.int .i64 I) := hB.at 1 rfl
      have lbx := hB.lt
      have HB := Lib.hid hB
      have hbx : ¬ Zx w.heap.size := fun h => by have := hlt _ h; omega
      clear hlt
      generalize w.heap.size = bx at HB k0 k1 lbx hbx ⊢
      clear hB hf
      obtain ⟨va, vc, rfl⟩ := ints_at hO
      clear hO
      go_wp2_with fail
      obtain ⟨lo, hlo⟩ : ∃ lo, lo = liftOf (eRows l) up I := ⟨_, rfl⟩
      have hx := parLift_c HP.out I
      rw [← hlo] at hx
      refine hx.mono ?_
      rintro e w3 ⟨rfl, hP3, hc3⟩
      have hy := parRLift_c hP3 I
      rw [← hlo] at hy
      have HY := Lib.hid hy
      have k1 := hc3.keep k1 hbx
      have lbx := lt_of_cell k1
      simp only at lbx
      clear k0
      clear hP3 HP hc3 hx hy hlo
      go_wp2_with fail
      refine HY.out.mono ?_
      rintro e w4 ⟨rfl, hP4⟩
      have HP4 := Lib.hid hP4
      clear hP4 HY
      go_wp2_with fail
      go_ret
      exact ⟨rfl, _, HP4.out⟩
end Go.Proofs.Ytjomjlodmelnbaa
