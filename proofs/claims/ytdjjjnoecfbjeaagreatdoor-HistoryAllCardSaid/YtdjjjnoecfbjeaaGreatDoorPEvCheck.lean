/- event.Check. No condition but that the event can be read, and its numbers' bounds. -/
import Derived.Test.YtdjjjnoecfbjeaaGreatDoorPEvKinds
import Derived.Test.YtdjjjnoecfbjeaaGreatDoorPEvSame
import Derived.Test.YtdjjjnoecfbjeaaGreatDoorPArms
import Derived.RegionTactic
import Derived.BigRegion
import Derived.Test.YtdjjjnoecfbjeaaGreatDoorPReader
import Derived.Test.YtdjjjnoecfbjeaaGreatDoorPOpTake
import Derived.Test.YtdjjjnoecfbjeaaGreatDoorPOp
set_option linter.all false
set_option linter.unusedVariables false
set_option linter.unusedSimpArgs false
set_option linter.unnecessarySimpa false
/- event.Check. No condition but that the event can be read, and its numbers' bounds. -/
namespace Go.Proofs.YtdjjjnoecfbjeaaGreatDoor
open Go.RowKit

/-- A function with a Go body is entered. -/
def IsFn (q : Nat) : Prop := ∀ (args : Array Value) (W : World), (callFunc q args).run Tryz.prog W = .ok (.enter q args) W
theorem isFn {f : FuncId} {fn : Func} {c : Code} (hf : Tryz.prog.funcs[f]? = some fn) (hname : (fn.name == "runtime.NumGoroutine") = false) (hb : fn.body = some c) : IsFn f := by
  intro args W
  have h1 : fn.name ≠ "runtime.NumGoroutine" := by simpa using hname
  simp [callFunc, hf, h1, hb]
theorem Tryz.info67 : (Tryz.prog.info? 80).map (·.size) = some 4 := by kernel_rfl
set_option maxRecDepth 100000 in
set_option maxHeartbeats 1000000 in
theorem check_no (k q0 q1 q2 q3 : Nat) (x : Ev) (t r : Value) (w : World) (h1 : 1 ≤ k) (h7 : k ≤ 7) (hk : x.kind = k) (hq : evKind k = #[.func (.func q0) #[] #[], .func (.func q1) #[] #[], .func (.func q2) #[] #[], .func (.func q3) #[] #[]])
    (hf : IsFn q1) (hmay : ∀ W, Fr w W → Calls Tryz.prog q1 #[x.val t r] W fun e w' => e = .returned (.bool false) ∧ Fr W w') :
    Calls Tryz.prog 32 #[x.val t r] w fun e w' => e = .returned (.int .i64 4) ∧ Fr w w' := by
  have hof := fun W => of_yes k W h1 h7
  rw [hq] at hof
  unfold IsFn at hf
  have hB0 := BoxAt.new w (x.cells t r) 39
  unfold Ev.cells at hB0
  unfold Ev.val at hmay ⊢
  rw [hk] at hmay hB0 ⊢
  have HO := Lib.hid hof
  have HM := Lib.hid hmay
  clear hof hmay hq hk
  go_enter Tryz.func32, Tryz.ntmps32
  go_wp2_with fail
  refine (HO.out _).mono ?_
  rintro e w1 ⟨rfl, hb⟩
  have hB1 := (hB0.fr hb).alloc (.cells #[.func (.func q0) #[] #[], .func (.func q1) #[] #[], .func (.func q2) #[] #[], .func (.func q3) #[] #[]] 80)
  have hfr : Fr w w1 := ((Fr.refl w).alloc _).trans hb
  clear hB0 hb
  go_wp2_with (first | ((with_reducible refine wpList_here (.store 80 (.tmp 3) (.tmp 10)) rfl ?_); refine wpList_store_new 80 (.tmp 3) (.tmp 10) rfl _ _ _ rfl rfl rfl Tryz.info67 rfl rfl rfl rfl ?_) | ((with_reducible refine wpList_here (.load 39 (.tmp 1)) rfl ?_); refine wpList_load_box 39 (.tmp 1) rfl _ rfl _ hB1 _ Tryz.underlying39 rfl Tryz.infoEv rfl ?_))
  refine (HM.out _ (hfr.alloc _)).mono ?_
  rintro e w2 ⟨rfl, hb2⟩
  go_wp2_with fail
  go_ret
  exact ⟨rfl, (hfr.alloc _).trans hb2⟩
set_option maxRecDepth 100000 in
set_option maxHeartbeats 1000000 in
theorem check_client (k q0 q1 q2 q3 : Nat) (x : Ev) (t r : Value) (w : World) (h1 : 1 ≤ k) (h7 : k ≤ 7) (hk : x.kind = k) (hq : evKind k = #[.func (.func q0) #[] #[], .func (.func q1) #[] #[], .func (.func q2) #[] #[], .func (.func q3) #[] #[]])
    (hf : IsFn q1) (hcl : ¬ x.client < 16) (hmay : ∀ W, Fr w W → Calls Tryz.prog q1 #[x.val t r] W fun e w' => e = .returned (.bool true) ∧ Fr W w') :
    Calls Tryz.prog 32 #[x.val t r] w fun e w' => e = .returned (.int .i64 4) ∧ Fr w w' := by
  have hof := fun W => of_yes k W h1 h7
  rw [hq] at hof
  unfold IsFn at hf
  have hB0 := BoxAt.new w (x.cells t r) 39
  unfold Ev.cells at hB0
  unfold Ev.val at hmay ⊢
  rw [hk] at hmay hB0 ⊢
  have HO := Lib.hid hof
  have HM := Lib.hid hmay
  have hcl2 : (16 : Int) ≤ x.client := by omega
  clear hof hmay hq hk hcl
  go_enter Tryz.func32, Tryz.ntmps32
  go_wp2_with fail
  refine (HO.out _).mono ?_
  rintro e w1 ⟨rfl, hb⟩
  have hB1 := (hB0.fr hb).alloc (.cells #[.func (.func q0) #[] #[], .func (.func q1) #[] #[], .func (.func q2) #[] #[], .func (.func q3) #[] #[]] 80)
  have hfr : Fr w w1 := ((Fr.refl w).alloc _).trans hb
  clear hB0 hb
  go_wp2_with (first | ((with_reducible refine wpList_here (.store 80 (.tmp 3) (.tmp 10)) rfl ?_); refine wpList_store_new 80 (.tmp 3) (.tmp 10) rfl _ _ _ rfl rfl rfl Tryz.info67 rfl rfl rfl rfl ?_) | ((with_reducible refine wpList_here (.load 39 (.tmp 1)) rfl ?_); refine wpList_load_box 39 (.tmp 1) rfl _ rfl _ hB1 _ Tryz.underlying39 rfl Tryz.infoEv rfl ?_))
  refine (HM.out _ (hfr.alloc _)).mono ?_
  rintro e w2 ⟨rfl, hb2⟩
  have hB2 := hB1.fr hb2
  have c1 := hB2.at 1 rfl
  have hz : w.heap.size < w2.heap.size := hB2.lt
  clear hB1
  go_wp2_with fail
  go_ret
  exact ⟨rfl, (hfr.alloc _).trans hb2⟩
set_option maxRecDepth 100000 in
set_option maxHeartbeats 4000000 in
theorem check_yes (k q0 q1 q2 q3 : Nat) (x o : Ev) (t r : Value) (ta ra : Option Addr) (tn tc rn rc : Nat) (w : World) (h1 : 1 ≤ k) (h7 : k ≤ 7) (hk : x.kind = k) (hq : evKind k = #[.func (.func q0) #[] #[], .func (.func q1) #[] #[], .func (.func q2) #[] #[], .func (.func q3) #[] #[]])
    (hf : IsFn q1) (hf0 : IsFn q0) (s : Bool) (hcl : x.client < 16) (hne : k ≠ 1) (hmay : ∀ W, Fr w W → Calls Tryz.prog q1 #[x.val t r] W fun e w' => e = .returned (.bool true) ∧ Fr W w')
    (hneeds : ∀ W, Calls Tryz.prog q0 #[x.val t r] W fun e w' => e = .returned (o.val (.slice ta tn tc) (.slice ra rn rc)) ∧ Fr W w')
    (hsame : ∀ W, Fr w W → Calls Tryz.prog 44 #[x.val t r, ({ o with kind := x.kind, client := x.client, id := x.id } : Ev).val (.slice ta tn tc) (.slice ra rn rc)] W fun e w' => e = .returned (.bool s) ∧ Fr W w') :
    Calls Tryz.prog 32 #[x.val t r] w fun e w' => e = .returned (.int .i64 (if s then 0 else 4)) ∧ Fr w w' := by
  have hof := fun W => of_yes k W h1 h7
  rw [hq] at hof
  unfold IsFn at hf hf0
  have hB0 := BoxAt.new w (x.cells t r) 39
  unfold Ev.cells at hB0
  unfold Ev.val at hmay hneeds hsame ⊢
  have hk1 : ((k : Int) != 1) = true := by simp; omega
  have hcl2 : ¬ (16 : Int) ≤ x.client := by omega
  rw [hk] at hmay hneeds hsame hB0 ⊢
  have HO := Lib.hid hof
  have HM := Lib.hid hmay
  have HN := Lib.hid hneeds
  have HS := Lib.hid hsame
  clear hof hmay hq hk hneeds hsame hne
  go_enter Tryz.func32, Tryz.ntmps32
  go_wp2_with fail
  refine (HO.out _).mono ?_
  rintro e w1 ⟨rfl, hb⟩
  have hB1 := (hB0.fr hb).alloc (.cells #[.func (.func q0) #[] #[], .func (.func q1) #[] #[], .func (.func q2) #[] #[], .func (.func q3) #[] #[]] 80)
  have hfr : Fr w w1 := ((Fr.refl w).alloc _).trans hb
  clear hB0 hb
  go_wp2_with (first | ((with_reducible refine wpList_here (.store 80 (.tmp 3) (.tmp 10)) rfl ?_); refine wpList_store_new 80 (.tmp 3) (.tmp 10) rfl _ _ _ rfl rfl rfl Tryz.info67 rfl rfl rfl rfl ?_) | ((with_reducible refine wpList_here (.load 39 (.tmp 1)) rfl ?_); refine wpList_load_box 39 (.tmp 1) rfl _ rfl _ hB1 _ Tryz.underlying39 rfl Tryz.infoEv rfl ?_))
  refine (HM.out _ (hfr.alloc _)).mono ?_
  rintro e w2 ⟨rfl, hb2⟩
  have hB2 := hB1.fr hb2
  have c1 := hB2.at 1 rfl
  have hz : w.heap.size < w2.heap.size := hB2.lt
  have hk2 : w2.cell? ⟨w1.heap.size, 0, none⟩ = some (.func (.func q0) #[] #[]) := (BoxAt.of_fr hb2).at 0 rfl
  have hz1 : w1.heap.size < w2.heap.size := (BoxAt.of_fr hb2).lt
  have hfr2 : Fr w w2 := (hfr.alloc _).trans hb2
  clear hB1
  go_wp2_with ((with_reducible refine wpList_here (.load 39 (.tmp 1)) rfl ?_); refine wpList_load_box 39 (.tmp 1) rfl _ rfl _ hB2 _ Tryz.underlying39 rfl Tryz.infoEv rfl ?_)
  refine (HN.out _).mono ?_
  rintro e w3 ⟨rfl, hb3⟩
  have hfr3 : Fr w w3 := hfr2.trans hb3
  have hB3 := hB2.fr hb3
  have d0 := hB3.at 0 rfl
  have d1 := hB3.at 1 rfl
  have d2 := hB3.at 2 rfl
  have hz3 : w.heap.size < w3.heap.size := hB3.lt
  clear hB2 c1 hk2 hz hz1 hb3
  go_wp2_with ((with_reducible refine wpList_here (.store 39 (.tmp 5) (.tmp 29)) rfl ?_); refine wpList_store_new 39 (.tmp 5) (.tmp 29) rfl _ _ _ rfl rfl rfl Tryz.infoEv rfl (Ev.oneCell o ta ra tn tc rn rc) rfl rfl ?_)
  go_region
  go_wp2_with (first | ((with_reducible refine wpList_here (.load 39 (.tmp 1)) rfl ?_); refine wpList_load_box 39 (.tmp 1) rfl w.heap.size rfl _ (((hB3.alloc _)).drew) _ Tryz.underlying39 rfl Tryz.infoEv rfl ?_) | ((with_reducible refine wpList_here (.load 39 (.tmp 5)) rfl ?_); refine wpList_load_box 39 (.tmp 5) rfl w3.heap.size rfl _ (BoxAt.new w3 _ _).drew _ Tryz.underlying39 rfl Tryz.infoEv rfl ?_))
  refine (HS.out _ ((hfr3.alloc _).drew)).mono ?_
  rintro e w4 ⟨rfl, hb4⟩
  have hfr4 : Fr w w4 := ((hfr3.alloc _).drew).trans hb4
  cases s
  · go_wp2_with fail
    go_ret
    exact ⟨rfl, hfr4⟩
  · go_wp2_with fail
    go_ret
    exact ⟨rfl, hfr4⟩
set_option maxRecDepth 100000 in
set_option maxHeartbeats 4000000 in
theorem check_cfg (k q0 q1 q2 q3 : Nat) (x o : Ev) (t r : Value) (ta ra : Option Addr) (tn tc rn rc : Nat) (w : World) (h1 : 1 ≤ k) (h7 : k ≤ 7) (hk : x.kind = k) (hq : evKind k = #[.func (.func q0) #[] #[], .func (.func q1) #[] #[], .func (.func q2) #[] #[], .func (.func q3) #[] #[]])
    (hf : IsFn q1) (hf0 : IsFn q0) (s : Bool) (hcl : x.client < 16) (hne : k = 1) (hmay : ∀ W, Fr w W → Calls Tryz.prog q1 #[x.val t r] W fun e w' => e = .returned (.bool true) ∧ Fr W w')
    (hneeds : ∀ W, Calls Tryz.prog q0 #[x.val t r] W fun e w' => e = .returned (o.val (.slice ta tn tc) (.slice ra rn rc)) ∧ Fr W w')
    (hsame : ∀ W, Fr w W → Calls Tryz.prog 44 #[x.val t r, ({ o with kind := x.kind } : Ev).val (.slice ta tn tc) (.slice ra rn rc)] W fun e w' => e = .returned (.bool s) ∧ Fr W w') :
    Calls Tryz.prog 32 #[x.val t r] w fun e w' => e = .returned (.int .i64 (if s then 0 else 4)) ∧ Fr w w' := by
  have hof := fun W => of_yes k W h1 h7
  rw [hq] at hof
  unfold IsFn at hf hf0
  have hB0 := BoxAt.new w (x.cells t r) 39
  unfold Ev.cells at hB0
  unfold Ev.val at hmay hneeds hsame ⊢
  have hk1 : ((k : Int) != 1) = false := by simp; omega
  have hcl2 : ¬ (16 : Int) ≤ x.client := by omega
  rw [hk] at hmay hneeds hsame hB0 ⊢
  have HO := Lib.hid hof
  have HM := Lib.hid hmay
  have HN := Lib.hid hneeds
  have HS := Lib.hid hsame
  clear hof hmay hq hk hneeds hsame hne
  go_enter Tryz.func32, Tryz.ntmps32
  go_wp2_with fail
  refine (HO.out _).mono ?_
  rintro e w1 ⟨rfl, hb⟩
  have hB1 := (hB0.fr hb).alloc (.cells #[.func (.func q0) #[] #[], .func (.func q1) #[] #[], .func (.func q2) #[] #[], .func (.func q3) #[] #[]] 80)
  have hfr : Fr w w1 := ((Fr.refl w).alloc _).trans hb
  clear hB0 hb
  go_wp2_with (first | ((with_reducible refine wpList_here (.store 80 (.tmp 3) (.tmp 10)) rfl ?_); refine wpList_store_new 80 (.tmp 3) (.tmp 10) rfl _ _ _ rfl rfl rfl Tryz.info67 rfl rfl rfl rfl ?_) | ((with_reducible refine wpList_here (.load 39 (.tmp 1)) rfl ?_); refine wpList_load_box 39 (.tmp 1) rfl _ rfl _ hB1 _ Tryz.underlying39 rfl Tryz.infoEv rfl ?_))
  refine (HM.out _ (hfr.alloc _)).mono ?_
  rintro e w2 ⟨rfl, hb2⟩
  have hB2 := hB1.fr hb2
  have c1 := hB2.at 1 rfl
  have hz : w.heap.size < w2.heap.size := hB2.lt
  have hk2 : w2.cell? ⟨w1.heap.size, 0, none⟩ = some (.func (.func q0) #[] #[]) := (BoxAt.of_fr hb2).at 0 rfl
  have hz1 : w1.heap.size < w2.heap.size := (BoxAt.of_fr hb2).lt
  have hfr2 : Fr w w2 := (hfr.alloc _).trans hb2
  clear hB1
  go_wp2_with ((with_reducible refine wpList_here (.load 39 (.tmp 1)) rfl ?_); refine wpList_load_box 39 (.tmp 1) rfl _ rfl _ hB2 _ Tryz.underlying39 rfl Tryz.infoEv rfl ?_)
  refine (HN.out _).mono ?_
  rintro e w3 ⟨rfl, hb3⟩
  have hfr3 : Fr w w3 := hfr2.trans hb3
  have hB3 := hB2.fr hb3
  have d0 := hB3.at 0 rfl
  have d1 := hB3.at 1 rfl
  have d2 := hB3.at 2 rfl
  have hz3 : w.heap.size < w3.heap.size := hB3.lt
  clear hB2 c1 hk2 hz hz1 hb3
  go_wp2_with (first | ((with_reducible refine wpList_here (.store 39 (.tmp 5) (.tmp 29)) rfl ?_); refine wpList_store_new 39 (.tmp 5) (.tmp 29) rfl _ _ _ rfl rfl rfl Tryz.infoEv rfl (Ev.oneCell o ta ra tn tc rn rc) rfl rfl ?_) | ((with_reducible refine wpList_here (.load 39 (.tmp 1)) rfl ?_); refine wpList_load_box 39 (.tmp 1) rfl w.heap.size rfl _ ((hB3.alloc _)) _ Tryz.underlying39 rfl Tryz.infoEv rfl ?_) | ((with_reducible refine wpList_here (.load 39 (.tmp 5)) rfl ?_); refine wpList_load_box 39 (.tmp 5) rfl w3.heap.size rfl _ (BoxAt.new w3 _ _) _ Tryz.underlying39 rfl Tryz.infoEv rfl ?_))
  refine (HS.out _ (hfr3.alloc _)).mono ?_
  rintro e w4 ⟨rfl, hb4⟩
  have hfr4 : Fr w w4 := (hfr3.alloc _).trans hb4
  cases s
  · go_wp2_with fail
    go_ret
    exact ⟨rfl, hfr4⟩
  · go_wp2_with fail
    go_ret
    exact ⟨rfl, hfr4⟩

theorem RdM.nil (w : World) : RdM w nil0 [] := ⟨none, 0, rfl, Nat.le_refl _, by decide, .inl rfl⟩
theorem RdR.nil (w : World) : RdR w nil0 [] := ⟨[], rfl, ⟨none, 0, rfl, Nat.le_refl _, by decide, .inl rfl⟩, fun i l u h => by simp at h⟩
theorem RdM.slice {w : World} {v : Value} {l : List Mic} (h : RdM w v l) : ∃ a n c, v = .slice a n c := by obtain ⟨a, c, h, _⟩ := h; exact ⟨a, _, c, h⟩
theorem RdR.slice {w : World} {v : Value} {l : List (List Nat)} (h : RdR w v l) : ∃ a n c, v = .slice a n c := by obtain ⟨_, _, ⟨a, c, h, _⟩, _⟩ := h; exact ⟨a, _, c, h⟩
theorem check_k (k q0 q1 q2 q3 : Nat) (x o y : Ev) (t r t' r' : Value) (w : World) (h1 : 1 ≤ k) (h7 : k ≤ 7) (hk : x.kind = k) (hq : evKind k = #[.func (.func q0) #[] #[], .func (.func q1) #[] #[], .func (.func q2) #[] #[], .func (.func q3) #[] #[]])
    (hf : IsFn q1) (hf0 : IsFn q0) (hx : EvAt w (x.val t r) x) (ht' : RdM w t' o.txn) (hr' : RdR w r' o.reads)
    (hmay : ∀ W, Fr w W → Calls Tryz.prog q1 #[x.val t r] W fun e w' => e = .returned (.bool x.kindMay) ∧ Fr W w')
    (hneeds : ∀ W, Calls Tryz.prog q0 #[x.val t r] W fun e w' => e = .returned (o.val t' r') ∧ Fr W w')
    (hy : y = if k = 1 then { o with kind := x.kind } else { o with kind := x.kind, client := x.client, id := x.id }) (hn : x.needed = y) :
    Calls Tryz.prog 32 #[x.val t r] w fun e w' => e = .returned (.int .i64 x.check) ∧ Fr w w' := by
  obtain ⟨ta, tn, tc, rfl⟩ := ht'.slice
  obtain ⟨ra, rn, rc, rfl⟩ := hr'.slice
  have hyt : y.txn = o.txn := by rw [hy]; split <;> rfl
  have hyr : y.reads = o.reads := by rw [hy]; split <;> rfl
  have hsame : ∀ W, Fr w W → Calls Tryz.prog 44 #[x.val t r, y.val (.slice ta tn tc) (.slice ra rn rc)] W fun e w' => e = .returned (.bool (decide (x = y))) ∧ Fr W w' := fun W hW =>
    same_c _ _ x y W (hx.keep hW) ⟨_, _, rfl, by rw [hyt]; exact ht'.keep hW, by rw [hyr]; exact hr'.keep hW⟩
  unfold Ev.check Ev.may
  rw [hn]
  cases hb : x.kindMay
  · rw [hb] at hmay
    exact check_no k q0 q1 q2 q3 x t r w h1 h7 hk hq hf hmay
  · rw [hb] at hmay
    by_cases hc : x.client < 16
    · rw [decide_eq_true hc]
      by_cases h : k = 1
      · rw [if_pos h] at hy
        rw [hy] at hsame
        refine (check_cfg k q0 q1 q2 q3 x o t r ta ra tn tc rn rc w h1 h7 hk hq hf hf0 _ hc h hmay hneeds hsame).mono fun e w' ⟨he, hw⟩ => ⟨?_, hw⟩
        rw [he, hy]
        cases decide (x = { o with kind := x.kind }) <;> rfl
      · rw [if_neg h] at hy
        rw [hy] at hsame
        refine (check_yes k q0 q1 q2 q3 x o t r ta ra tn tc rn rc w h1 h7 hk hq hf hf0 _ hc h hmay hneeds hsame).mono fun e w' ⟨he, hw⟩ => ⟨?_, hw⟩
        rw [he, hy]
        cases decide (x = { o with kind := x.kind, client := x.client, id := x.id }) <;> rfl
    · rw [decide_eq_false hc]
      exact check_client k q0 q1 q2 q3 x t r w h1 h7 hk hq hf hc hmay
set_option maxRecDepth 100000 in
theorem check_none (x : Ev) (t r : Value) (w : World) (h : x.kind < 1 ∨ 7 < x.kind) :
    Calls Tryz.prog 32 #[x.val t r] w fun e w' => e = .returned (.int .i64 4) ∧ Fr w w' := by
  have hof := fun W => of_no x.kind W (by omega)
  have HO := Lib.hid hof
  clear hof h
  unfold Ev.val
  go_enter Tryz.func32, Tryz.ntmps32
  go_wp2_with fail
  refine (HO.out _).mono ?_
  rintro e w1 ⟨rfl, hb⟩
  go_wp2_with (first | ((with_reducible refine wpList_here (.store 80 (.tmp 3) (.tmp 10)) rfl ?_); refine wpList_store_new 80 (.tmp 3) (.tmp 10) rfl _ _ _ rfl rfl rfl Tryz.info67 rfl rfl rfl rfl ?_))
  go_ret
  exact ⟨rfl, (((Fr.refl w).alloc _).trans hb).alloc _⟩
/-- The bounds of an event's numbers. -/
structure Ev.Ok (x : Ev) : Prop where
  kind : x.kind < 256
  client : x.client < 256
  id : x.id < 65536
  F : x.op.F < 256
  O : x.op.O < 256
  K : x.op.K < 256
  A : x.op.A < 65536
  B : x.op.B < 65536
  rk : x.rk < 256
  rv : x.rv < 65536
  txn : ∀ m ∈ x.txn, m.key < 256 ∧ m.v < 65536
  reads : ∀ l ∈ x.reads, ∀ n ∈ l, n < 65536
  model : x.cfg.model < 256
theorem EvCheck_c (x : Ev) (v : Value) (w : World) (hE : Env w) (hx : EvAt w v x) (ok : x.Ok) :
    Calls Tryz.prog 32 #[v] w fun e w' => e = .returned (.int .i64 x.check) ∧ Fr w w' := by
  obtain ⟨⟨t, r, rfl, ht, hr⟩⟩ := hx
  have hx : EvAt w (x.val t r) x := ⟨t, r, rfl, ht, hr⟩
  by_cases hk : 1 ≤ x.kind ∧ x.kind ≤ 7
  · rcases (show x.kind = 1 ∨ x.kind = 2 ∨ x.kind = 3 ∨ x.kind = 4 ∨ x.kind = 5 ∨ x.kind = 6 ∨ x.kind = 7 by omega) with h | h | h | h | h | h | h
    · exact check_k 1 _ _ _ _ x { Ev.zero with cfg := x.cfg } _ t r nil0 nil0 w (by omega) (by omega) h rfl (isFn Tryz.func58 (by kernel_rfl) rfl) (isFn Tryz.func57 (by kernel_rfl) rfl) hx (RdM.nil _) (RdR.nil _)
        (fun W hW => by rw [show x.kindMay = cfgMay x.cfg by simp [Ev.kindMay, h]]; exact mayConfig_c x t r W) (fun W => configured_c x t r W) rfl (by simp [Ev.needed, h])
    · exact check_k 2 _ _ _ _ x { Ev.zero with op := x.op } _ t r nil0 nil0 w (by omega) (by omega) h rfl (isFn Tryz.func62 (by kernel_rfl) rfl) (isFn Tryz.func61 (by kernel_rfl) rfl) hx (RdM.nil _) (RdR.nil _)
        (fun W hW => by rw [show x.kindMay = x.op.may by simp [Ev.kindMay, h]]; exact mayOp_c x t r W (hE.keep hW) ok.F ok.O ok.K) (fun W => invoked_c x t r W) rfl (by simp [Ev.needed, h])
    · exact check_k 3 _ _ _ _ x { Ev.zero with rk := x.rk, rv := x.rv } _ t r nil0 nil0 w (by omega) (by omega) h rfl (isFn Tryz.func66 (by kernel_rfl) rfl) (isFn Tryz.func65 (by kernel_rfl) rfl) hx (RdM.nil _) (RdR.nil _)
        (fun W hW => by rw [show x.kindMay = goodB x.rk x.rv by simp [Ev.kindMay, h]]; exact mayResult_c x t r W) (fun W => returned_c x t r W) rfl (by simp [Ev.needed, h])
    · exact check_k 4 _ _ _ _ x Ev.zero _ t r nil0 nil0 w (by omega) (by omega) h rfl (isFn Tryz.func70 (by kernel_rfl) rfl) (isFn Tryz.func69 (by kernel_rfl) rfl) hx (RdM.nil _) (RdR.nil _)
        (fun W hW => by rw [show x.kindMay = true by simp [Ev.kindMay, h]]; exact always_c _ W ⟨x, t, r, rfl⟩) (fun W => nothing_c x t r W) rfl (by simp [Ev.needed, h])
    · exact check_k 5 _ _ _ _ x { Ev.zero with txn := x.txn } _ t r t nil0 w (by omega) (by omega) h rfl (isFn Tryz.func74 (by kernel_rfl) rfl) (isFn Tryz.func73 (by kernel_rfl) rfl) hx ht (RdR.nil _)
        (fun W hW => by rw [show x.kindMay = txnMay x.txn by simp [Ev.kindMay, h]]; exact mayTxn_c x t r W (ht.keep hW)) (fun W => begun_c x t r W ht.slice) rfl (by simp [Ev.needed, h])
    · exact check_k 6 _ _ _ _ x { Ev.zero with reads := x.reads } _ t r nil0 r w (by omega) (by omega) h rfl (isFn Tryz.func78 (by kernel_rfl) rfl) (isFn Tryz.func77 (by kernel_rfl) rfl) hx (RdM.nil _) hr
        (fun W hW => by rw [show x.kindMay = readsMay x.reads by simp [Ev.kindMay, h]]; exact mayReads_c x t r W (hr.keep hW)) (fun W => committed_c x t r W hr.slice) rfl (by simp [Ev.needed, h])
    · exact check_k 7 _ _ _ _ x Ev.zero _ t r nil0 nil0 w (by omega) (by omega) h rfl (isFn Tryz.func70 (by kernel_rfl) rfl) (isFn Tryz.func69 (by kernel_rfl) rfl) hx (RdM.nil _) (RdR.nil _)
        (fun W hW => by rw [show x.kindMay = true by simp [Ev.kindMay, h]]; exact always_c _ W ⟨x, t, r, rfl⟩) (fun W => nothing_c x t r W) rfl (by simp [Ev.needed, h])
  · refine (check_none x t r w (by omega)).mono fun e w' ⟨he, hw⟩ => ⟨?_, hw⟩
    have hm : x.kindMay = false := by
      have h1 : x.kind ≠ 1 := by omega
      have h2 : x.kind ≠ 2 := by omega
      have h3 : x.kind ≠ 3 := by omega
      have h4 : x.kind ≠ 4 := by omega
      have h5 : x.kind ≠ 5 := by omega
      have h6 : x.kind ≠ 6 := by omega
      have h7 : x.kind ≠ 7 := by omega
      simp [Ev.kindMay, h1, h2, h3, h4, h5, h6, h7]
    rw [he, Ev.check, Ev.may, hm]; rfl
end Go.Proofs.YtdjjjnoecfbjeaaGreatDoor

/- event's take of each kind, into an event's box. No condition but the bytes' length. -/
namespace Go.Proofs.YtdjjjnoecfbjeaaGreatDoor
open Go.RowKit

/-- Only two blocks may have changed, of those that were there. -/
structure Ch2 (p q : Nat) (w w' : World) : Prop where
  os : w'.os = w.os
  tape : w'.tape = w.tape
  output : w'.output = w.output
  size : w.heap.size ≤ w'.heap.size
  block : ∀ k, k < w.heap.size → k ≠ p → k ≠ q → w'.heap[k]? = w.heap[k]?
theorem Ch2.refl (p q : Nat) (w : World) : Ch2 p q w w := ⟨rfl, rfl, rfl, Nat.le_refl _, fun _ _ _ _ => rfl⟩
theorem Ch2.trans {p q : Nat} {a b c : World} (h : Ch2 p q a b) (k : Ch2 p q b c) : Ch2 p q a c :=
  ⟨k.os.trans h.os, k.tape.trans h.tape, k.output.trans h.output, Nat.le_trans h.size k.size, fun j hj h1 h2 => (k.block j (Nat.lt_of_lt_of_le hj h.size) h1 h2).trans (h.block j hj h1 h2)⟩
theorem Chp.ch2 {p q : Nat} {w w' : World} (h : Chp p w w') : Ch2 p q w w' := ⟨h.os, h.tape, h.output, h.size, fun k hk h1 _ => h.block k hk h1 (by simp [Value.ownBlock])⟩
theorem Fr.ch2 {p q : Nat} {w w' : World} (h : Fr w w') : Ch2 p q w w' := ⟨h.os, h.tape, h.output, h.size, fun k hk _ _ => h.block hk⟩
theorem Ch2.set {p q : Nat} {a w : World} (h : Ch2 p q a w) (o : Nat) (u : Value) : Ch2 p q a (w.setCell ⟨q, o, none⟩ u) :=
  ⟨h.os, h.tape, h.output, by simpa using h.size, fun k hk h1 h2 => (Below.heap_setCell w _ u k (fun e => h2 e)).trans (h.block k hk h1 h2)⟩
theorem Ch2.setNew {p q : Nat} {a w : World} (h : Ch2 p q a w) {b : Nat} (hb : a.heap.size ≤ b) (o : Nat) (u : Value) : Ch2 p q a (w.setCell ⟨b, o, none⟩ u) :=
  ⟨h.os, h.tape, h.output, by simpa using h.size, fun k hk h1 h2 => (Below.heap_setCell w _ u k (fun e => by subst e; exact absurd hk (Nat.not_lt.2 hb))).trans (h.block k hk h1 h2)⟩
theorem Ch2.alloc {p q : Nat} {a w : World} (h : Ch2 p q a w) (X : Obj) : Ch2 p q a (w.alloc X) := h.trans ((Fr.refl w).alloc X).ch2
theorem Ch2.drew {p q : Nat} {a w : World} (h : Ch2 p q a w) : Ch2 p q a w.drew := h.trans ((Fr.refl w).drew).ch2
theorem Ch2.fr {p q : Nat} {a w w' : World} (f : Fr a w) (h : Ch2 p q w w') (hp : a.heap.size ≤ p) (hq : a.heap.size ≤ q) : Fr a w' :=
  ⟨h.os.trans f.os, h.tape.trans f.tape, h.output.trans f.output, Nat.le_trans f.size h.size, fun k hk => (h.block k (Nat.lt_of_lt_of_le hk f.size) (by omega) (by omega)).trans (f.block hk)⟩
theorem BoxAt.chp {p b : Nat} {w w' : World} {c : Array Value} {t : TypeId} (h : BoxAt w b c t) (k : Chp p w w') (hb : b ≠ p) : BoxAt w' b c t := (k.block b h.lt hb (by simp [Value.ownBlock])).trans h
theorem BoxAt.setAt {w : World} {b : Nat} {c : Array Value} {t : TypeId} (h : BoxAt w b c t) (j : Nat) (v : Value) : BoxAt (w.setCell ⟨b, j, none⟩ v) b (c.setIfInBounds j v) t := by
  unfold BoxAt at h ⊢
  rw [setCell_eq_setRow w b j c t (0, 0) v h]
  exact setRow_heap w b c _ t (0, 0) h
theorem RdAt.setBox {w : World} {p e at_ q : Nat} {s : List UInt8} (h : RdAt w p e s at_) (hq : q ≠ p) (o : Nat) (u : Value) : RdAt (w.setCell ⟨q, o, none⟩ u) p e s at_ := h.setOther hq o u

/-- Its lists can be read as long as new memory stands. -/
def Stays (W W' : World) (t r : Value) (y : Ev) : Prop := ∀ W2 : World, W'.heap.size ≤ W2.heap.size → (∀ k, W.heap.size ≤ k → k < W'.heap.size → W2.heap[k]? = W'.heap[k]?) → RdM W2 t y.txn ∧ RdR W2 r y.reads
/-- What a take leaves: the error; the event, in its box. -/
def TakeP (p q : Nat) (W : World) (y : Ev × Nat) (e' : Ending) (W' : World) : Prop :=
  e' = .returned (.int .i64 y.2) ∧ ∃ t r, BoxAt W' q (y.1.cells t r) 39 ∧ Stays W W' t r y.1 ∧ Ch2 p q W W'
theorem pass_c (p q e at_ : Nat) (s : List UInt8) (x : Ev) (w : World) (h : RdAt w p e s at_) (hB : BoxAt w q (x.cells nil0 nil0) 39) (ht : x.txn = []) (hr : x.reads = []) :
    Calls Tryz.prog 72 #[.pointer (some ⟨p, 0, none⟩), .pointer (some ⟨q, 0, none⟩)] w (TakeP p q w (x, e)) := by
  have hP : TakeP p q w (x, e) (.returned (.int .i64 e)) w := ⟨rfl, nil0, nil0, hB, fun _ _ _ => ⟨by rw [ht]; exact RdM.nil _, by rw [hr]; exact RdR.nil _⟩, Ch2.refl _ _ _⟩
  clear hB ht hr
  go_enter Tryz.func72, Tryz.ntmps72
  go_wp2_with fail
  refine (Err_c p e at_ s _ h).mono ?_
  rintro e' w' ⟨rfl, rfl⟩
  go_wp2_with fail
  go_ret
  exact hP
theorem takeResult_c (p q e at_ : Nat) (s : List UInt8) (x : Ev) (w : World) (h : RdAt w p e s at_) (hB : BoxAt w q (x.cells nil0 nil0) 39) (hpq : q ≠ p) (ht : x.txn = []) (hr : x.reads = []) :
    Calls Tryz.prog 68 #[.pointer (some ⟨p, 0, none⟩), .pointer (some ⟨q, 0, none⟩)] w (TakeP p q w ({ x with rk := (takeRes e s at_).1.1, rv := (takeRes e s at_).1.2.1 }, (takeRes e s at_).1.2.2)) := by
  have h1 := resTake_c p e at_ s w h
  generalize takeRes e s at_ = y at h1 ⊢
  obtain ⟨⟨K, V, E⟩, z⟩ := y
  simp only at h1 ⊢
  have H1 := Lib.hid h1
  clear h1
  go_enter Tryz.func68, Tryz.ntmps68
  go_wp2_with fail
  refine H1.out.mono ?_
  rintro e' w1 ⟨rfl, _, hch⟩
  have hB1 := hB.chp hch hpq
  have hP : ∀ w2, w2 = (w1.setCell ⟨q, 8, none⟩ (.int .u8 K)).setCell ⟨q, 9, none⟩ (.int .u16 V) → TakeP p q w ({ x with rk := K, rv := V }, E) (.returned (.int .i64 E)) w2 := fun w2 hw2 => by
    subst hw2
    exact ⟨rfl, nil0, nil0, (hB1.setAt 8 _).setAt 9 _, fun _ _ _ => ⟨by rw [ht]; exact RdM.nil _, by rw [hr]; exact RdR.nil _⟩, (hch.ch2.set _ _).set _ _⟩
  have HP := Lib.hid hP
  have c8 := hB1.at 8 rfl
  have c9 := hB1.at 9 rfl
  have f8 := hB1.free 8
  have f9 := hB1.free 9
  clear hP hB hch ht hr
  go_wp2_with fail
  go_ret
  exact HP.out _ rfl
end Go.Proofs.YtdjjjnoecfbjeaaGreatDoor

/- event.takeConfig, takeOp. No condition but the bytes' length. -/
namespace Go.Proofs.YtdjjjnoecfbjeaaGreatDoor
open Go.RowKit

theorem bit1 : ∀ n : Nat, n < 256 → (bits BinOp.and IntKind.u8 (n : Int) 1 != 0) = (n % 2 == 1) := by decide +kernel
theorem bit2 : ∀ n : Nat, n < 256 → (bits BinOp.and IntKind.u8 (n : Int) 2 != 0) = (n / 2 % 2 == 1) := by decide +kernel
theorem bit4 : ∀ n : Nat, n < 256 → (bits BinOp.and IntKind.u8 (n : Int) 4 != 0) = (n / 4 % 2 == 1) := by decide +kernel
theorem ofBe1_lt (e : Nat) (s : List UInt8) (at_ : Nat) : ofBe (rdRaw e s at_ 1).1 < 256 :=
  Nat.lt_of_lt_of_le (ofBe_lt _) (Nat.pow_le_pow_right (by omega) (n := 256) (rdRaw_len e s at_ 1))
theorem ofBe2_lt (e : Nat) (s : List UInt8) (at_ : Nat) : ofBe (rdRaw e s at_ 2).1 < 65536 :=
  Nat.lt_of_lt_of_le (ofBe_lt _) (Nat.pow_le_pow_right (by omega) (n := 256) (rdRaw_len e s at_ 2))
theorem ofBe4_lt (e : Nat) (s : List UInt8) (at_ : Nat) : ofBe (rdRaw e s at_ 4).1 < 4294967296 :=
  Nat.lt_of_lt_of_le (ofBe_lt _) (Nat.pow_le_pow_right (by omega) (n := 256) (rdRaw_len e s at_ 4))
set_option maxRecDepth 100000 in
set_option maxHeartbeats 1000000 in
theorem takeConfig_c (p q e at_ : Nat) (s : List UInt8) (x : Ev) (w : World) (h : RdAt w p e s at_) (hB : BoxAt w q (x.cells nil0 nil0) 39) (hpq : q ≠ p) (ht : x.txn = []) (hr : x.reads = []) :
    Calls Tryz.prog 60 #[.pointer (some ⟨p, 0, none⟩), .pointer (some ⟨q, 0, none⟩)] w (TakeP p q w ({ x with cfg := (rdCfg e s at_).1 }, (rdCfg e s at_).2.1)) := by
  unfold rdCfg
  simp only
  have la := ofBe1_lt e s at_
  have H1 := Lib.hid (fun W h => rU8_c p e at_ s W h)
  generalize rdRaw e s at_ 1 = a at la H1 ⊢
  obtain ⟨a0, ae, aa⟩ := a
  simp only at la H1 ⊢
  have lb := ofBe1_lt ae s aa
  have H2 := Lib.hid (fun W h => rU8_c p ae aa s W h)
  generalize rdRaw ae s aa 1 = b at lb H2 ⊢
  obtain ⟨b0, be', ba⟩ := b
  simp only at lb H2 ⊢
  have lc := ofBe1_lt be' s ba
  have H3 := Lib.hid (fun W h => rU8_c p be' ba s W h)
  generalize rdRaw be' s ba 1 = c at lc H3 ⊢
  obtain ⟨c0, ce, ca⟩ := c
  simp only at lc H3 ⊢
  have ld := ofBe2_lt ce s ca
  have H4 := Lib.hid (fun W h => rU16_c p ce ca s W h)
  generalize rdRaw ce s ca 2 = d at ld H4 ⊢
  obtain ⟨d0, de, da⟩ := d
  simp only at ld H4 ⊢
  have lf := ofBe4_lt de s da
  have H5 := Lib.hid (fun W h => rU32_c p de da s W h)
  generalize rdRaw de s da 4 = f at lf H5 ⊢
  obtain ⟨f0, fe, fa⟩ := f
  simp only at lf H5 ⊢
  have hb1 := bit1 _ lb
  have hb2 := bit2 _ lb
  have hb4 := bit4 _ lb
  generalize ofBe a0 = A at la H1 ⊢
  generalize ofBe b0 = B at lb H2 hb1 hb2 hb4 ⊢
  generalize ofBe c0 = C at lc H3 ⊢
  generalize ofBe d0 = D at ld H4 ⊢
  generalize ofBe f0 = F at lf H5 ⊢
  generalize (B % 2 == 1) = t1 at hb1 ⊢
  generalize (B / 2 % 2 == 1) = t2 at hb2 ⊢
  generalize (B / 4 % 2 == 1) = t4 at hb4 ⊢
  have c12 := hB.at 12 rfl
  have g12 := hB.free 12
  go_enter Tryz.func60, Tryz.ntmps60
  go_wp2_with fail
  refine (H1.out _ h).mono ?_
  rintro e' w1 ⟨rfl, hr1, hch1⟩
  have hB1 := hB.chp hch1 hpq
  have hc1 : Ch2 p q w w1 := hch1.ch2
  have c12 := hB1.at 12 rfl
  have g12 := hB1.free 12
  clear hB hch1
  go_wp2_with fail
  have hr1' := hr1.setBox hpq 12 (.int .u8 A)
  have hB1' : BoxAt _ q (({ x with cfg := { x.cfg with model := A } } : Ev).cells nil0 nil0) _ := hB1.setAt 12 (.int .u8 A)
  have hc1' := hc1.set 12 (.int .u8 A)
  refine (H2.out _ hr1').mono ?_
  rintro e' w2 ⟨rfl, hr2, hch2⟩
  have hB2 := hB1'.chp hch2 hpq
  have hc2 : Ch2 p q w w2 := hc1'.trans hch2.ch2
  have c16 := hB2.at 16 rfl
  have g16 := hB2.free 16
  have c17 := hB2.at 17 rfl
  have g17 := hB2.free 17
  have c18 := hB2.at 18 rfl
  have g18 := hB2.free 18
  clear hr1 hB1 hc1 hr1' hB1' hc1' hch2 c12 g12
  go_wp2_with fail
  have hr2' := ((hr2.setBox hpq 16 (.bool t1)).setBox hpq 17 (.bool t2)).setBox hpq 18 (.bool t4)
  have hB2a : BoxAt _ q (({ x with cfg := { x.cfg with model := A, part := t1 } } : Ev).cells nil0 nil0) _ := hB2.setAt 16 (.bool t1)
  have hB2b : BoxAt _ q (({ x with cfg := { x.cfg with model := A, part := t1, cut := t2 } } : Ev).cells nil0 nil0) _ := hB2a.setAt 17 (.bool t2)
  have hB2' : BoxAt _ q (({ x with cfg := { x.cfg with model := A, part := t1, cut := t2, memo := t4 } } : Ev).cells nil0 nil0) _ := hB2b.setAt 18 (.bool t4)
  have hc2' := ((hc2.set 16 (.bool t1)).set 17 (.bool t2)).set 18 (.bool t4)
  refine (H3.out _ hr2').mono ?_
  rintro e' w3 ⟨rfl, hr3, hch3⟩
  have hB3 := hB2'.chp hch3 hpq
  have hc3 : Ch2 p q w w3 := hc2'.trans hch3.ch2
  have c13 := hB3.at 13 rfl
  have g13 := hB3.free 13
  clear hr2 hB2 hB2a hB2b hc2 hr2' hB2' hc2' hch3 c16 g16 c17 g17 c18 g18 hb1 hb2 hb4
  go_wp2_with fail
  have hr3' := hr3.setBox hpq 13 (.int .i64 C)
  have hB3' : BoxAt _ q (({ x with cfg := { x.cfg with model := A, part := t1, cut := t2, memo := t4, opens := C } } : Ev).cells nil0 nil0) _ := hB3.setAt 13 (.int .i64 C)
  have hc3' := hc3.set 13 (.int .i64 C)
  refine (H4.out _ hr3').mono ?_
  rintro e' w4 ⟨rfl, hr4, hch4⟩
  have hB4 := hB3'.chp hch4 hpq
  have hc4 : Ch2 p q w w4 := hc3'.trans hch4.ch2
  have c14 := hB4.at 14 rfl
  have g14 := hB4.free 14
  clear hr3 hB3 hc3 hr3' hB3' hc3' hch4 c13 g13
  go_wp2_with fail
  have hr4' := hr4.setBox hpq 14 (.int .i64 D)
  have hB4' : BoxAt _ q (({ x with cfg := { x.cfg with model := A, part := t1, cut := t2, memo := t4, opens := C, states := D } } : Ev).cells nil0 nil0) _ := hB4.setAt 14 (.int .i64 D)
  have hc4' := hc4.set 14 (.int .i64 D)
  refine (H5.out _ hr4').mono ?_
  rintro e' w5 ⟨rfl, hr5, hch5⟩
  have hB5 := hB4'.chp hch5 hpq
  have hc5 : Ch2 p q w w5 := hc4'.trans hch5.ch2
  have c15 := hB5.at 15 rfl
  have g15 := hB5.free 15
  clear hr4 hB4 hc4 hr4' hB4' hc4' hch5 c14 g14
  go_wp2_with fail
  have hr5' := hr5.setBox hpq 15 (.int .i64 F)
  have hB5' : BoxAt _ q (({ x with cfg := { x.cfg with model := A, part := t1, cut := t2, memo := t4, opens := C, states := D, steps := F } } : Ev).cells nil0 nil0) _ := hB5.setAt 15 (.int .i64 F)
  have hc5' := hc5.set 15 (.int .i64 F)
  refine (Err_c p fe fa s _ hr5').mono ?_
  rintro e' w6 ⟨rfl, rfl⟩
  have hP : TakeP p q w ({ x with cfg := ⟨A, C, D, F, t1, t2, t4⟩ }, fe) (.returned (.int .i64 fe)) (w5.setCell ⟨q, 15, none⟩ (.int .i64 F)) := ⟨rfl, nil0, nil0, hB5', fun _ _ _ => ⟨by rw [ht]; exact RdM.nil _, by rw [hr]; exact RdR.nil _⟩, hc5'⟩
  have HP := Lib.hid hP
  clear hP hr5 hB5 hc5 hr5' hB5' hc5' c15 g15 ht hr
  go_wp2_with fail
  go_ret
  exact HP.out
theorem Env.chpAt {w : World} (h : Env w) {p : Nat} (hp : 0 < p) : ∀ w', Chp p w w' → Env w' := fun w' k => {
  triv0 := trivial
  triv := trivial
  kinds := ⟨fun f h0 h1 => (k.cell (lt_of_cell (h.kinds.model f h0 h1)) (Nat.ne_of_lt hp)).trans (h.kinds.model f h0 h1), fun f h0 h1 => (k.cell (lt_of_cell (h.kinds.name f h0 h1)) (Nat.ne_of_lt hp)).trans (h.kinds.name f h0 h1), fun f h0 h1 => (k.cell (lt_of_cell (h.kinds.needs f h0 h1)) (Nat.ne_of_lt hp)).trans (h.kinds.needs f h0 h1)⟩ }
theorem rdRaw_all (s : List UInt8) (at_ : Nat) (h : at_ ≤ s.length) : rdRaw 0 s at_ (s.length - at_) = (s.drop at_, 0, s.length) := by
  unfold rdRaw
  rw [if_neg (by simp), if_neg (by omega)]
  have h1 : (s.drop at_).take (s.length - at_) = s.drop at_ := List.take_of_length_le (by simp)
  rw [h1]
  have : at_ + (s.length - at_) = s.length := by omega
  rw [this]
set_option maxRecDepth 100000 in
set_option maxHeartbeats 1000000 in
theorem takeOp_c (p q e at_ : Nat) (s : List UInt8) (x : Ev) (w : World) (hE : Env w) (hq0 : 0 < q) (hp0 : 0 < p) (h : RdAt w p e s at_) (hs : s.length < 1000000) (hB : BoxAt w q (x.cells nil0 nil0) 39) (hpq : q ≠ p) (hop : x.op = .zero) (ht : x.txn = []) (hr : x.reads = []) :
    Calls Tryz.prog 64 #[.pointer (some ⟨p, 0, none⟩), .pointer (some ⟨q, 0, none⟩)] w (TakeP p q w ({ x with op := (rdOp e s at_).1 }, (rdOp e s at_).2)) := by
  by_cases he : e = 0
  · subst he
    have hd : rdOp 0 s at_ = ((takeOp (s.drop at_)).1, if (takeOp (s.drop at_)).2.2 = 0 ∧ (takeOp (s.drop at_)).2.1 ≠ [] then 4 else (takeOp (s.drop at_)).2.2) := by unfold rdOp; rw [if_neg (by simp)]
    rw [hd]
    have hle := h.le
    have hraw := rRaw_c p 0 at_ (s.length - at_) s
    rw [rdRaw_all s at_ hle] at hraw
    have HR := Lib.hid (fun W hW => hraw W hW (by omega))
    have hT := fun W hW => opTake_c (s.drop at_) W hW (by simp; omega)
    generalize takeOp (s.drop at_) = y at hT ⊢
    obtain ⟨⟨oF, oO, oK, oA, oB⟩, rest, E⟩ := y
    simp only at hT ⊢
    unfold OpD.val at hT
    generalize hX : (if E = 0 ∧ rest ≠ [] then 4 else E) = X
    have HX := Lib.hid hX
    clear hX
    have HT := Lib.hid hT
    clear hT hd hraw hop
    go_enter Tryz.func64, Tryz.ntmps64
    go_wp2_with fail
    refine (Err_c p 0 at_ s _ h).mono ?_
    rintro e' w' ⟨rfl, rfl⟩
    go_wp2_with fail
    refine (Left_c p 0 at_ s _ h).mono ?_
    rw [show (s.length : Int) - at_ = ((s.length - at_ : Nat) : Int) by omega]
    rintro e' w1 ⟨rfl, hb1⟩
    have h1 := h.keep hb1
    have hB1 := hB.fr hb1
    have hc1 : Ch2 p q w w1 := hb1.ch2
    have hE1 := hE.keep hb1
    have hE2 := hE1.chpAt (p := p) hp0
    have hq1 : q < w1.heap.size := hB1.lt
    clear hB hb1 h hE
    go_wp2_with fail
    refine (HR.out _ h1).mono ?_
    rintro e' w2 ⟨rfl, hr2, hch2⟩
    have hB2 := hB1.chp hch2 hpq
    have hc2 : Ch2 p q w w2 := hc1.trans hch2.ch2
    have hE3 := hE2 _ hch2
    clear hB1 hc1 h1 hr2 hE1 hE2 hch2
    go_wp2_with fail
    refine (HT.out _ hE3).mono ?_
    rintro e' w3 ⟨rfl, hb3⟩
    have hB3 := hB2.fr hb3
    have hc3 : Ch2 p q w w3 := hc2.trans hb3.ch2
    have hP : ∀ (E' : Nat) (w4 : World), w4 = ((((((w3.setCell ⟨q, 3, none⟩ (.int .u8 oF)).setCell ⟨q, 4, none⟩ (.int .u8 oO)).setCell ⟨q, 5, none⟩ (.int .u8 oK)).setCell ⟨q, 6, none⟩ (.int .u16 oA)).setCell ⟨q, 7, none⟩ (.int .u16 oB)).alloc (.cells #[.int .u8 oF, .int .u8 oO, .int .u8 oK, .int .u16 oA, .int .u16 oB] 31)) → TakeP p q w ({ x with op := ⟨oF, oO, oK, oA, oB⟩ }, E') (.returned (.int .i64 E')) w4 := fun E' w4 hw4 => by
      subst hw4
      have b1 : BoxAt _ q (({ x with op := { x.op with F := oF } } : Ev).cells nil0 nil0) _ := hB3.setAt 3 (.int .u8 oF)
      have b2 : BoxAt _ q (({ x with op := { x.op with F := oF, O := oO } } : Ev).cells nil0 nil0) _ := b1.setAt 4 (.int .u8 oO)
      have b3 : BoxAt _ q (({ x with op := { x.op with F := oF, O := oO, K := oK } } : Ev).cells nil0 nil0) _ := b2.setAt 5 (.int .u8 oK)
      have b4 : BoxAt _ q (({ x with op := { x.op with F := oF, O := oO, K := oK, A := oA } } : Ev).cells nil0 nil0) _ := b3.setAt 6 (.int .u16 oA)
      have b5 : BoxAt _ q (({ x with op := ⟨oF, oO, oK, oA, oB⟩ } : Ev).cells nil0 nil0) _ := b4.setAt 7 (.int .u16 oB)
      exact ⟨rfl, nil0, nil0, b5.alloc _, fun _ _ _ => ⟨by rw [ht]; exact RdM.nil _, by rw [hr]; exact RdR.nil _⟩, (((((hc3.set _ _).set _ _).set _ _).set _ _).set _ _).alloc _⟩
    have HP := Lib.hid hP
    have c3 := hB3.at 3 rfl
    have c4 := hB3.at 4 rfl
    have c5 := hB3.at 5 rfl
    have c6 := hB3.at 6 rfl
    have c7 := hB3.at 7 rfl
    have g3 := hB3.free 3
    have g4 := hB3.free 4
    have g5 := hB3.free 5
    have g6 := hB3.free 6
    have g7 := hB3.free 7
    have hq3 := hB3.lt
    clear hP hB2 hc2 hB3 hc3 hE3 hb3 ht hr
    by_cases hE0 : E = 0
    · subst hE0
      cases rest with
      | nil =>
        have hX0 : X = 0 := by rw [← HX.out]; simp
        clear HX
        subst hX0
        go_wp2_with fail
        go_ret
        exact HP.out 0 _ rfl
      | cons c cs =>
        have hX0 : X = 4 := by rw [← HX.out]; simp
        clear HX
        subst hX0
        go_wp2_with fail
        go_ret
        exact HP.out 4 _ rfl
    · have hE1 : ((E : Int) == 0) = false := by simp; omega
      have HE := Lib.hid hE0
      clear hE0
      go_wp2_with fail
      go_ret
      rw [show X = E by rw [← HX.out, if_neg (fun h => HE.out h.1)]]
      first | exact HP.out E _ rfl | exact HP.out X _ rfl
  · have hd : rdOp e s at_ = (.zero, e) := if_pos he
    rw [hd]
    have hxx : ({ x with op := OpD.zero } : Ev) = x := by rw [← hop]
    have hP : TakeP p q w ({ x with op := OpD.zero }, e) (.returned (.int .i64 e)) w := ⟨rfl, nil0, nil0, by rw [hxx]; exact hB, fun _ _ _ => ⟨by rw [ht]; exact RdM.nil _, by rw [hr]; exact RdR.nil _⟩, Ch2.refl _ _ _⟩
    have he2 : ((e : Int) != 0) = true := by simp; omega
    clear hB ht hr hop hxx he hd
    go_enter Tryz.func64, Tryz.ntmps64
    go_wp2_with fail
    refine (Err_c p e at_ s _ h).mono ?_
    rintro e' w' ⟨rfl, rfl⟩
    go_wp2_with fail
    refine (Err_c p e at_ s _ h).mono ?_
    rintro e' w' ⟨rfl, rfl⟩
    go_wp2_with fail
    go_ret
    exact hP
end Go.Proofs.YtdjjjnoecfbjeaaGreatDoor

/- umpireref05.May. No condition but that the event can be read, and its numbers' bounds. -/
namespace Go.Proofs.YtdjjjnoecfbjeaaGreatDoor
open Go.RowKit

theorem retB {a b : Bool} (h : a = b) : Ending.returned (.bool a) = Ending.returned (.bool b) := by rw [h]
set_option maxRecDepth 100000 in
set_option maxHeartbeats 2000000 in
theorem rMay4_c (x : Ev) (t r : Value) (w : World) (hk : x.kind = 4) (hx : EvAt w (x.val t r) x) (ht : RdM w t x.txn) (hr : RdR w r x.reads) :
    Calls Tryz.prog 28 #[x.val t r] w fun e w' => e = .returned (.bool x.may) ∧ Fr w w' := by
  have hn : x.needed = { Ev.zero with kind := x.kind, client := x.client, id := x.id } := by simp [Ev.needed, hk]
  have hm : x.may = (true && decide (x.client < 16) && decide (x = x.needed)) := by simp [Ev.may, Ev.kindMay, hk]
  have hs : ∀ W, Fr w W → Calls Tryz.prog 27 #[x.val t r, x.needed.val nil0 nil0] W fun e w' => e = .returned (.bool (decide (x = x.needed))) ∧ Fr W w' := fun W hW => refSame_c _ _ x x.needed W (hx.keep hW) ⟨nil0, nil0, rfl, by rw [hn]; exact RdM.nil _, by rw [hn]; exact RdR.nil _⟩
  rw [hm]
  generalize decide (x = x.needed) = s at hs ⊢
  rw [hn] at hs
  clear hm hn hx
  obtain ⟨xk, xc, xi, xo, xrk, xrv, xtx, xrs, xcf⟩ := x
  simp only at hk
  subst hk
  unfold Ev.val Ev.zero at *
  simp only at *
  have HS := Lib.hid hs
  clear hs ht hr
  by_cases hc : xc < 16
  · have hci : (xc : Int) < 16 := by omega
    have hd := decide_eq_true hc
    rw [hd]
    clear hc hd
    go_enter Tryz.func28, Tryz.ntmps28
    go_wp2_with (first | ((with_reducible refine wpList_here (.store 39 (.tmp 3) (.tmp 13)) rfl ?_); refine wpList_store_new 39 (.tmp 3) (.tmp 13) rfl _ _ _ (by simp) rfl rfl Tryz.infoEv rfl (Ev.oneCell ⟨4, xc, xi, .zero, 0, 0, [], [], .zero⟩ none none 0 0 0 0) rfl rfl ?_) | ((with_reducible refine wpList_here (.load 39 (.tmp 1)) rfl ?_); refine wpList_load_box 39 (.tmp 1) rfl _ rfl _ ((BoxAt.new w _ _).alloc _) _ Tryz.underlying39 rfl Tryz.infoEv rfl ?_) | ((with_reducible refine wpList_here (.load 39 (.tmp 3)) rfl ?_); refine wpList_load_box 39 (.tmp 3) rfl _ rfl _ (BoxAt.new' _ _ _ _ (by simp)) _ Tryz.underlying39 rfl Tryz.infoEv rfl ?_))
    refine (HS.out _ (((Fr.refl w).alloc _).alloc _)).mono ?_
    rintro e w1 ⟨rfl, hb⟩
    go_wp2_with fail
    go_ret
    exact ⟨retB (by simp), (((Fr.refl w).alloc _).alloc _).trans hb⟩
  · have hci : ¬ (xc : Int) < 16 := by omega
    have hd := decide_eq_false hc
    rw [hd]
    clear hc hd HS
    go_enter Tryz.func28, Tryz.ntmps28
    go_wp2_with ((with_reducible refine wpList_here (.store 39 (.tmp 3) (.tmp 13)) rfl ?_); refine wpList_store_new 39 (.tmp 3) (.tmp 13) rfl _ _ _ (by simp) rfl rfl Tryz.infoEv rfl (Ev.oneCell ⟨4, xc, xi, .zero, 0, 0, [], [], .zero⟩ none none 0 0 0 0) rfl rfl ?_)
    go_ret
    exact ⟨retB (by simp), (((Fr.refl w).alloc _).alloc _)⟩
set_option maxRecDepth 100000 in
set_option maxHeartbeats 2000000 in
theorem rMay7_c (x : Ev) (t r : Value) (w : World) (hk : x.kind = 7) (hx : EvAt w (x.val t r) x) (ht : RdM w t x.txn) (hr : RdR w r x.reads) :
    Calls Tryz.prog 28 #[x.val t r] w fun e w' => e = .returned (.bool x.may) ∧ Fr w w' := by
  have hn : x.needed = { Ev.zero with kind := x.kind, client := x.client, id := x.id } := by simp [Ev.needed, hk]
  have hm : x.may = (true && decide (x.client < 16) && decide (x = x.needed)) := by simp [Ev.may, Ev.kindMay, hk]
  have hs : ∀ W, Fr w W → Calls Tryz.prog 27 #[x.val t r, x.needed.val nil0 nil0] W fun e w' => e = .returned (.bool (decide (x = x.needed))) ∧ Fr W w' := fun W hW => refSame_c _ _ x x.needed W (hx.keep hW) ⟨nil0, nil0, rfl, by rw [hn]; exact RdM.nil _, by rw [hn]; exact RdR.nil _⟩
  rw [hm]
  generalize decide (x = x.needed) = s at hs ⊢
  rw [hn] at hs
  clear hm hn hx
  obtain ⟨xk, xc, xi, xo, xrk, xrv, xtx, xrs, xcf⟩ := x
  simp only at hk
  subst hk
  unfold Ev.val Ev.zero at *
  simp only at *
  have HS := Lib.hid hs
  clear hs ht hr
  by_cases hc : xc < 16
  · have hci : (xc : Int) < 16 := by omega
    have hd := decide_eq_true hc
    rw [hd]
    clear hc hd
    go_enter Tryz.func28, Tryz.ntmps28
    go_wp2_with (first | ((with_reducible refine wpList_here (.store 39 (.tmp 3) (.tmp 13)) rfl ?_); refine wpList_store_new 39 (.tmp 3) (.tmp 13) rfl _ _ _ (by simp) rfl rfl Tryz.infoEv rfl (Ev.oneCell ⟨7, xc, xi, .zero, 0, 0, [], [], .zero⟩ none none 0 0 0 0) rfl rfl ?_) | ((with_reducible refine wpList_here (.load 39 (.tmp 1)) rfl ?_); refine wpList_load_box 39 (.tmp 1) rfl _ rfl _ ((BoxAt.new w _ _).alloc _) _ Tryz.underlying39 rfl Tryz.infoEv rfl ?_) | ((with_reducible refine wpList_here (.load 39 (.tmp 3)) rfl ?_); refine wpList_load_box 39 (.tmp 3) rfl _ rfl _ (BoxAt.new' _ _ _ _ (by simp)) _ Tryz.underlying39 rfl Tryz.infoEv rfl ?_))
    refine (HS.out _ (((Fr.refl w).alloc _).alloc _)).mono ?_
    rintro e w1 ⟨rfl, hb⟩
    go_wp2_with fail
    go_ret
    exact ⟨retB (by simp), (((Fr.refl w).alloc _).alloc _).trans hb⟩
  · have hci : ¬ (xc : Int) < 16 := by omega
    have hd := decide_eq_false hc
    rw [hd]
    clear hc hd HS
    go_enter Tryz.func28, Tryz.ntmps28
    go_wp2_with ((with_reducible refine wpList_here (.store 39 (.tmp 3) (.tmp 13)) rfl ?_); refine wpList_store_new 39 (.tmp 3) (.tmp 13) rfl _ _ _ (by simp) rfl rfl Tryz.infoEv rfl (Ev.oneCell ⟨7, xc, xi, .zero, 0, 0, [], [], .zero⟩ none none 0 0 0 0) rfl rfl ?_)
    go_ret
    exact ⟨retB (by simp), (((Fr.refl w).alloc _).alloc _)⟩
set_option maxRecDepth 100000 in
set_option maxHeartbeats 2000000 in
theorem rMay2_c (x : Ev) (t r : Value) (w : World) (hk : x.kind = 2) (hx : EvAt w (x.val t r) x) (ht : RdM w t x.txn) (hr : RdR w r x.reads) (hF : x.op.F < 256) :
    Calls Tryz.prog 28 #[x.val t r] w fun e w' => e = .returned (.bool x.may) ∧ Fr w w' := by
  have hn : x.needed = { Ev.zero with kind := x.kind, client := x.client, id := x.id, op := x.op } := by simp [Ev.needed, hk]
  have hm : x.may = (x.op.may && decide (x.client < 16) && decide (x = x.needed)) := by simp [Ev.may, Ev.kindMay, hk]
  have hs : ∀ W, Fr w W → Calls Tryz.prog 27 #[x.val t r, x.needed.val nil0 nil0] W fun e w' => e = .returned (.bool (decide (x = x.needed))) ∧ Fr W w' := fun W hW => refSame_c _ _ x x.needed W (hx.keep hW) ⟨nil0, nil0, rfl, by rw [hn]; exact RdM.nil _, by rw [hn]; exact RdR.nil _⟩
  rw [hm]
  generalize decide (x = x.needed) = s at hs ⊢
  rw [hn] at hs
  clear hm hn hx
  have h1 : ∀ W, Calls Tryz.prog 38 #[.agg #[.int .u8 x.op.F, .int .u8 x.op.O, .int .u8 x.op.K, .int .u16 x.op.A, .int .u16 x.op.B]] W fun e w' => e = .returned (.bool x.op.may) ∧ Fr W w' := fun W => rMay_c x.op.F x.op.O x.op.K x.op.A x.op.B W (by omega)
  generalize x.op.may = b at h1 ⊢
  have H1 := Lib.hid h1
  clear h1 hF
  obtain ⟨xk, xc, xi, xo, xrk, xrv, xtx, xrs, xcf⟩ := x
  simp only at hk
  subst hk
  unfold Ev.val Ev.zero at *
  simp only at *
  have HS := Lib.hid hs
  clear hs ht hr
  go_enter Tryz.func28, Tryz.ntmps28
  go_wp2_with ((with_reducible refine wpList_here (.store 39 (.tmp 3) (.tmp 13)) rfl ?_); refine wpList_store_new 39 (.tmp 3) (.tmp 13) rfl _ _ _ (by simp) rfl rfl Tryz.infoEv rfl (Ev.oneCell ⟨2, xc, xi, .zero, 0, 0, [], [], .zero⟩ none none 0 0 0 0) rfl rfl ?_)
  refine (H1.out _).mono ?_
  rintro e w1 ⟨rfl, hb⟩
  have hBx := ((BoxAt.new w _ _).alloc _).fr hb
  have hBy := (BoxAt.new' _ _ _ (w.heap.size + 1) (by simp)).fr hb
  have hfr : Fr w w1 := (((Fr.refl w).alloc _).alloc _).trans hb
  have c1 := hBx.at 1 rfl
  have hz := hBx.lt
  clear hb
  cases b
  · go_wp2_with fail
    go_ret
    exact ⟨retB (by simp), hfr⟩
  by_cases hc : xc < 16
  · have hci : (xc : Int) < 16 := by omega
    have hd := decide_eq_true hc
    have HD := Lib.hid hd
    clear hc hd
    go_wp2_with (first | ((with_reducible refine wpList_here (.load 39 (.tmp 1)) rfl ?_); refine wpList_load_box 39 (.tmp 1) rfl _ rfl _ (hBx) _ Tryz.underlying39 rfl Tryz.infoEv rfl ?_) | ((with_reducible refine wpList_here (.load 39 (.tmp 3)) rfl ?_); refine wpList_load_box 39 (.tmp 3) rfl _ rfl _ (hBy) _ Tryz.underlying39 rfl Tryz.infoEv rfl ?_))
    refine (HS.out _ hfr).mono ?_
    rintro e w2 ⟨rfl, hb2⟩
    go_wp2_with fail
    go_ret
    exact ⟨retB (by rw [HD.out]; simp), hfr.trans hb2⟩
  · have hci : ¬ (xc : Int) < 16 := by omega
    have hd := decide_eq_false hc
    have HD := Lib.hid hd
    clear hc hd HS
    go_wp2_with fail
    go_ret
    exact ⟨retB (by rw [HD.out]; simp), hfr⟩
set_option maxRecDepth 100000 in
set_option maxHeartbeats 2000000 in
theorem rMayK3_c (x : Ev) (t r : Value) (w : World) (hk : x.kind = 3) (hx : EvAt w (x.val t r) x) (ht : RdM w t x.txn) (hr : RdR w r x.reads) :
    Calls Tryz.prog 28 #[x.val t r] w fun e w' => e = .returned (.bool x.may) ∧ Fr w w' := by
  have hn : x.needed = { Ev.zero with kind := x.kind, client := x.client, id := x.id, rk := x.rk, rv := x.rv } := by simp [Ev.needed, hk]
  have hm : x.may = (goodB x.rk x.rv && decide (x.client < 16) && decide (x = x.needed)) := by simp [Ev.may, Ev.kindMay, hk]
  have hs : ∀ W, Fr w W → Calls Tryz.prog 27 #[x.val t r, x.needed.val nil0 nil0] W fun e w' => e = .returned (.bool (decide (x = x.needed))) ∧ Fr W w' := fun W hW => refSame_c _ _ x x.needed W (hx.keep hW) ⟨nil0, nil0, rfl, by rw [hn]; exact RdM.nil _, by rw [hn]; exact RdR.nil _⟩
  rw [hm]
  generalize decide (x = x.needed) = s at hs ⊢
  rw [hn] at hs
  clear hm hn hx
  have h1 := fun W => rGood_c x.rk x.rv W
  generalize goodB x.rk x.rv = b at h1 ⊢
  have H1 := Lib.hid h1
  clear h1
  obtain ⟨xk, xc, xi, xo, xrk, xrv, xtx, xrs, xcf⟩ := x
  simp only at hk
  subst hk
  unfold Ev.val Ev.zero at *
  simp only at *
  have HS := Lib.hid hs
  clear hs ht hr
  go_enter Tryz.func28, Tryz.ntmps28
  go_wp2_with ((with_reducible refine wpList_here (.store 39 (.tmp 3) (.tmp 13)) rfl ?_); refine wpList_store_new 39 (.tmp 3) (.tmp 13) rfl _ _ _ (by simp) rfl rfl Tryz.infoEv rfl (Ev.oneCell ⟨3, xc, xi, .zero, 0, 0, [], [], .zero⟩ none none 0 0 0 0) rfl rfl ?_)
  refine (H1.out _).mono ?_
  rintro e w1 ⟨rfl, hb⟩
  have hBx := ((BoxAt.new w _ _).alloc _).fr hb
  have hBy := (BoxAt.new' _ _ _ (w.heap.size + 1) (by simp)).fr hb
  have hfr : Fr w w1 := (((Fr.refl w).alloc _).alloc _).trans hb
  have c1 := hBx.at 1 rfl
  have hz := hBx.lt
  clear hb
  cases b
  · go_wp2_with fail
    go_ret
    exact ⟨retB (by simp), hfr⟩
  by_cases hc : xc < 16
  · have hci : (xc : Int) < 16 := by omega
    have hd := decide_eq_true hc
    have HD := Lib.hid hd
    clear hc hd
    go_wp2_with (first | ((with_reducible refine wpList_here (.load 39 (.tmp 1)) rfl ?_); refine wpList_load_box 39 (.tmp 1) rfl _ rfl _ (hBx) _ Tryz.underlying39 rfl Tryz.infoEv rfl ?_) | ((with_reducible refine wpList_here (.load 39 (.tmp 3)) rfl ?_); refine wpList_load_box 39 (.tmp 3) rfl _ rfl _ (hBy) _ Tryz.underlying39 rfl Tryz.infoEv rfl ?_))
    refine (HS.out _ hfr).mono ?_
    rintro e w2 ⟨rfl, hb2⟩
    go_wp2_with fail
    go_ret
    exact ⟨retB (by rw [HD.out]; simp), hfr.trans hb2⟩
  · have hci : ¬ (xc : Int) < 16 := by omega
    have hd := decide_eq_false hc
    have HD := Lib.hid hd
    clear hc hd HS
    go_wp2_with fail
    go_ret
    exact ⟨retB (by rw [HD.out]; simp), hfr⟩
end Go.Proofs.YtdjjjnoecfbjeaaGreatDoor

/- umpireref05.May of kind 5. No condition but that the event can be read, and its numbers' bounds. -/
namespace Go.Proofs.YtdjjjnoecfbjeaaGreatDoor
open Go.RowKit

set_option maxRecDepth 100000 in
set_option maxHeartbeats 2000000 in
theorem rMay5_c (x : Ev) (t r : Value) (w : World) (hk : x.kind = 5) (hx : EvAt w (x.val t r) x) (ht : RdM w t x.txn) (hr : RdR w r x.reads) :
    Calls Tryz.prog 28 #[x.val t r] w fun e w' => e = .returned (.bool x.may) ∧ Fr w w' := by
  have hn : x.needed = { Ev.zero with kind := x.kind, client := x.client, id := x.id, txn := x.txn } := by simp [Ev.needed, hk]
  have hm : x.may = (txnMay x.txn && decide (x.client < 16) && decide (x = x.needed)) := by simp [Ev.may, Ev.kindMay, hk]
  have hs : ∀ W, Fr w W → Calls Tryz.prog 27 #[x.val t r, x.needed.val t nil0] W fun e w' => e = .returned (.bool (decide (x = x.needed))) ∧ Fr W w' := fun W hW => refSame_c _ _ x x.needed W (hx.keep hW) ⟨t, nil0, rfl, by rw [hn]; exact ht.keep hW, by rw [hn]; exact RdR.nil _⟩
  rw [hm]
  generalize decide (x = x.needed) = s at hs ⊢
  rw [hn] at hs
  clear hm hn hx
  have htm : txnMay x.txn = (decide (1 ≤ x.txn.length) && decide (x.txn.length ≤ 8) && !x.txn.any micBad) := rfl
  rw [htm]
  clear htm
  obtain ⟨ta, tc, rfl, htc, htm, htx⟩ := ht
  unfold maxLen at htm
  obtain ⟨xk, xc, xi, xo, xrk, xrv, xtx, xrs, xcf⟩ := x
  simp only at hk
  subst hk
  unfold Ev.val Ev.zero at *
  simp only at *
  have HS := Lib.hid hs
  clear hs hr
  by_cases hl1 : xtx.length < 1
  · have hi : (xtx.length : Int) < 1 := by omega
    rw [decide_eq_false (show ¬ 1 ≤ xtx.length by omega)]
    clear hl1 htx HS
    go_enter Tryz.func28, Tryz.ntmps28
    go_wp2_with ((with_reducible refine wpList_here (.store 39 (.tmp 3) (.tmp 13)) rfl ?_); refine wpList_store_new 39 (.tmp 3) (.tmp 13) rfl _ _ _ (by simp) rfl rfl Tryz.infoEv rfl (Ev.oneCell ⟨5, xc, xi, .zero, 0, 0, [], [], .zero⟩ none none 0 0 0 0) rfl rfl ?_)
    go_ret
    exact ⟨retB (by simp), (((Fr.refl w).alloc _).alloc _)⟩
  by_cases hl8 : 8 < xtx.length
  · have hi : (8 : Int) < xtx.length := by omega
    have hi2 : ¬ (xtx.length : Int) < 1 := by omega
    rw [decide_eq_false (show ¬ xtx.length ≤ 8 by omega)]
    clear hl1 hl8 htx HS
    go_enter Tryz.func28, Tryz.ntmps28
    go_wp2_with ((with_reducible refine wpList_here (.store 39 (.tmp 3) (.tmp 13)) rfl ?_); refine wpList_store_new 39 (.tmp 3) (.tmp 13) rfl _ _ _ (by simp) rfl rfl Tryz.infoEv rfl (Ev.oneCell ⟨5, xc, xi, .zero, 0, 0, [], [], .zero⟩ none none 0 0 0 0) rfl rfl ?_)
    go_ret
    exact ⟨retB (by simp), (((Fr.refl w).alloc _).alloc _)⟩
  rw [decide_eq_true (show 1 ≤ xtx.length by omega), decide_eq_true (show xtx.length ≤ 8 by omega)]
  have hi1 : ¬ (8 : Int) < xtx.length := by omega
  have hi2 : ¬ (xtx.length : Int) < 1 := by omega
  have hne : micCells xtx ≠ [] := mic_ne_nil (k := 0) (by omega)
  obtain ⟨tb, to, rfl, _, htl, hc⟩ := htx.resolve_left hne
  clear hne
  go_enter Tryz.func28, Tryz.ntmps28
  go_wp2_with ((with_reducible refine wpList_here (.store 39 (.tmp 3) (.tmp 13)) rfl ?_); refine wpList_store_new 39 (.tmp 3) (.tmp 13) rfl _ _ _ (by simp) rfl rfl Tryz.infoEv rfl (Ev.oneCell ⟨5, xc, xi, .zero, 0, 0, [], [], .zero⟩ none none 0 0 0 0) rfl rfl ?_)
  go_loop [5] (fun i => ∃ k : Nat, k ≤ xtx.length ∧ i = .int .i64 k ∧ (xtx.take k).any micBad = false) (fun i => xtx.length - (intOf i).toNat)
  case atStart => exact ⟨0, Nat.zero_le _, rfl, rfl⟩
  case round =>
    obtain ⟨k, hk, rfl, htk⟩ := hrel
    by_cases hlt : k < xtx.length
    · obtain ⟨d0, d1, d2⟩ := micCells_at xtx k hlt
      have d0 := hc _ _ d0
      have d1 := hc _ _ d1
      have d2 := hc _ _ d2
      simp only [← Nat.add_assoc] at d1 d2
      have hk1 : k < tc := by omega
      by_cases he : micBad xtx[k] = true
      · have hT := Lib.hid (any_at hlt he)
        generalize xtx[k] = m at d0 d1 d2 he
        obtain ⟨rd, key, mv⟩ := m
        simp only at d0 d1 d2
        by_cases h8 : 8 ≤ key
        · have h7 : (7 : Int) < key := by omega
          clear he htk hc HS
          go_wp2_with fail
          go_ret
          exact ⟨retB (by rw [hT.out]; simp), (((Fr.refl w).alloc _).alloc _)⟩
        · have h7 : ¬ (7 : Int) < key := by omega
          have h2 : rd = true ∧ mv ≠ 0 := by
            unfold micBad at he
            simp at he
            rcases he with he | he
            · omega
            · exact he
          obtain ⟨rfl, hv⟩ := h2
          have hv2 : ((mv : Int) != 0) = true := by simp; omega
          clear he htk hc HS hv
          go_wp2_with fail
          go_ret
          exact ⟨retB (by rw [hT.out]; simp), (((Fr.refl w).alloc _).alloc _)⟩
      · rw [Bool.not_eq_true] at he
        have hT := Lib.hid (any_take htk hlt he)
        generalize xtx[k] = m at d0 d1 d2 he
        obtain ⟨rd, key, mv⟩ := m
        simp only at d0 d1 d2
        have h7 : ¬ (7 : Int) < key := by unfold micBad at he; simp at he; omega
        cases rd
        · clear he htk hc
          go_wp2_with fail
          go_round
          case rel => exact ⟨k + 1, by omega, by go_num, hT.out⟩
          case measure => simp [intOf]; omega
        · have hv : mv = 0 := by unfold micBad at he; simp at he; omega
          subst hv
          clear he htk hc
          go_wp2_with fail
          go_round
          case rel => exact ⟨k + 1, by omega, by go_num, hT.out⟩
          case measure => simp [intOf]; omega
    · have hT := Lib.hid (any_none htk hlt)
      clear htk hc
      by_cases hcc : xc < 16
      · have hci : (xc : Int) < 16 := by omega
        have hd := decide_eq_true hcc
        have HD := Lib.hid hd
        clear hcc hd
        go_wp2_with (first | ((with_reducible refine wpList_here (.load 39 (.tmp 1)) rfl ?_); refine wpList_load_box 39 (.tmp 1) rfl _ rfl _ ((BoxAt.new w _ _).alloc _) _ Tryz.underlying39 rfl Tryz.infoEv rfl ?_) | ((with_reducible refine wpList_here (.load 39 (.tmp 3)) rfl ?_); refine wpList_load_box 39 (.tmp 3) rfl _ rfl _ (BoxAt.new' _ _ _ _ (by simp)) _ Tryz.underlying39 rfl Tryz.infoEv rfl ?_))
        refine (HS.out _ (((Fr.refl w).alloc _).alloc _)).mono ?_
        rintro e w2 ⟨rfl, hb2⟩
        go_wp2_with fail
        go_ret
        exact ⟨retB (by rw [HD.out, hT.out]; simp), (((Fr.refl w).alloc _).alloc _).trans hb2⟩
      · have hci : ¬ (xc : Int) < 16 := by omega
        have hd := decide_eq_false hcc
        have HD := Lib.hid hd
        clear hcc hd HS
        go_wp2_with fail
        go_ret
        exact ⟨retB (by rw [HD.out, hT.out]; simp), (((Fr.refl w).alloc _).alloc _)⟩
end Go.Proofs.YtdjjjnoecfbjeaaGreatDoor
