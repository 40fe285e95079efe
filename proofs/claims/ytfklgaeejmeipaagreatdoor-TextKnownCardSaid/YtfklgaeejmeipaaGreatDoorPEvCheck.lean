/- event.Check. No condition but that the event can be read, and its numbers' bounds. -/
import Derived.Test.YtfklgaeejmeipaaGreatDoorPEvKinds
import Derived.Test.YtfklgaeejmeipaaGreatDoorPEvSame
import Derived.Test.YtfklgaeejmeipaaGreatDoorPArms
import Derived.RegionTactic
import Derived.BigRegion
import Derived.Test.YtfklgaeejmeipaaGreatDoorPReader
import Derived.Test.YtfklgaeejmeipaaGreatDoorPOpTake
import Derived.Deep.AppendLies
set_option linter.all false
set_option linter.unusedVariables false
set_option linter.unusedSimpArgs false
set_option linter.unnecessarySimpa false
/- event.Check. No condition but that the event can be read, and its numbers' bounds. -/
namespace Go.Proofs.YtfklgaeejmeipaaGreatDoor
open Go.RowKit

/-- A function with a Go body is entered. -/
def IsFn (q : Nat) : Prop := ∀ (args : Array Value) (W : World), (callFunc q args).run Tryz.prog W = .ok (.enter q args) W
theorem isFn {f : FuncId} {fn : Func} {c : Code} (hf : Tryz.prog.funcs[f]? = some fn) (hname : (fn.name == "runtime.NumGoroutine") = false) (hb : fn.body = some c) : IsFn f := by
  intro args W
  have h1 : fn.name ≠ "runtime.NumGoroutine" := by simpa using hname
  simp [callFunc, hf, h1, hb]
theorem Tryz.info67 : (Tryz.prog.info? 103).map (·.size) = some 4 := by kernel_rfl
set_option maxRecDepth 100000 in
set_option maxHeartbeats 1000000 in
theorem check_no (k q0 q1 q2 q3 : Nat) (x : Ev) (t r : Value) (w : World) (h1 : 1 ≤ k) (h7 : k ≤ 7) (hk : x.kind = k) (hq : evKind k = #[.func (.func q0) #[] #[], .func (.func q1) #[] #[], .func (.func q2) #[] #[], .func (.func q3) #[] #[]])
    (hf : IsFn q1) (hmay : ∀ W, Fr w W → Calls Tryz.prog q1 #[x.val t r] W fun e w' => e = .returned (.bool false) ∧ Fr W w') :
    Calls Tryz.prog 18 #[x.val t r] w fun e w' => e = .returned (.int .i64 4) ∧ Fr w w' := by
  have hof := fun W => of_yes k W h1 h7
  rw [hq] at hof
  unfold IsFn at hf
  have hB0 := BoxAt.new w (x.cells t r) 32
  unfold Ev.cells at hB0
  unfold Ev.val at hmay ⊢
  rw [hk] at hmay hB0 ⊢
  have HO := Lib.hid hof
  have HM := Lib.hid hmay
  clear hof hmay hq hk
  go_enter Tryz.func18, Tryz.ntmps18
  go_wp2_with fail
  refine (HO.out _).mono ?_
  rintro e w1 ⟨rfl, hb⟩
  have hB1 := (hB0.fr hb).alloc (.cells #[.func (.func q0) #[] #[], .func (.func q1) #[] #[], .func (.func q2) #[] #[], .func (.func q3) #[] #[]] 103)
  have hfr : Fr w w1 := ((Fr.refl w).alloc _).trans hb
  clear hB0 hb
  go_wp2_with (first | ((with_reducible refine wpList_here (.store 103 (.tmp 3) (.tmp 10)) rfl ?_); refine wpList_store_new 103 (.tmp 3) (.tmp 10) rfl _ _ _ rfl rfl rfl Tryz.info67 rfl rfl rfl rfl ?_) | ((with_reducible refine wpList_here (.load 32 (.tmp 1)) rfl ?_); refine wpList_load_box 32 (.tmp 1) rfl _ rfl _ hB1 _ Tryz.underlying32 rfl Tryz.infoEv rfl ?_))
  refine (HM.out _ (hfr.alloc _)).mono ?_
  rintro e w2 ⟨rfl, hb2⟩
  go_wp2_with fail
  go_ret
  exact ⟨rfl, (hfr.alloc _).trans hb2⟩
set_option maxRecDepth 100000 in
set_option maxHeartbeats 1000000 in
theorem check_client (k q0 q1 q2 q3 : Nat) (x : Ev) (t r : Value) (w : World) (h1 : 1 ≤ k) (h7 : k ≤ 7) (hk : x.kind = k) (hq : evKind k = #[.func (.func q0) #[] #[], .func (.func q1) #[] #[], .func (.func q2) #[] #[], .func (.func q3) #[] #[]])
    (hf : IsFn q1) (hcl : ¬ x.client < 16) (hmay : ∀ W, Fr w W → Calls Tryz.prog q1 #[x.val t r] W fun e w' => e = .returned (.bool true) ∧ Fr W w') :
    Calls Tryz.prog 18 #[x.val t r] w fun e w' => e = .returned (.int .i64 4) ∧ Fr w w' := by
  have hof := fun W => of_yes k W h1 h7
  rw [hq] at hof
  unfold IsFn at hf
  have hB0 := BoxAt.new w (x.cells t r) 32
  unfold Ev.cells at hB0
  unfold Ev.val at hmay ⊢
  rw [hk] at hmay hB0 ⊢
  have HO := Lib.hid hof
  have HM := Lib.hid hmay
  have hcl2 : (16 : Int) ≤ x.client := by omega
  clear hof hmay hq hk hcl
  go_enter Tryz.func18, Tryz.ntmps18
  go_wp2_with fail
  refine (HO.out _).mono ?_
  rintro e w1 ⟨rfl, hb⟩
  have hB1 := (hB0.fr hb).alloc (.cells #[.func (.func q0) #[] #[], .func (.func q1) #[] #[], .func (.func q2) #[] #[], .func (.func q3) #[] #[]] 103)
  have hfr : Fr w w1 := ((Fr.refl w).alloc _).trans hb
  clear hB0 hb
  go_wp2_with (first | ((with_reducible refine wpList_here (.store 103 (.tmp 3) (.tmp 10)) rfl ?_); refine wpList_store_new 103 (.tmp 3) (.tmp 10) rfl _ _ _ rfl rfl rfl Tryz.info67 rfl rfl rfl rfl ?_) | ((with_reducible refine wpList_here (.load 32 (.tmp 1)) rfl ?_); refine wpList_load_box 32 (.tmp 1) rfl _ rfl _ hB1 _ Tryz.underlying32 rfl Tryz.infoEv rfl ?_))
  refine (HM.out _ (hfr.alloc _)).mono ?_
  rintro e w2 ⟨rfl, hb2⟩
  have hB2 := hB1.fr hb2
  have c1 := hB2.at 1 rfl
  have hz : w.heap.size < w2.heap.size := hB2.lt
  clear hB1
  go_wp2_with fail
  go_ret
  exact ⟨rfl, (hfr.alloc _).trans hb2⟩
set_option maxRecDepth 100000 in
set_option maxHeartbeats 4000000 in
theorem check_yes (k q0 q1 q2 q3 : Nat) (x o : Ev) (t r : Value) (ta ra : Option Addr) (tn tc rn rc : Nat) (w : World) (h1 : 1 ≤ k) (h7 : k ≤ 7) (hk : x.kind = k) (hq : evKind k = #[.func (.func q0) #[] #[], .func (.func q1) #[] #[], .func (.func q2) #[] #[], .func (.func q3) #[] #[]])
    (hf : IsFn q1) (hf0 : IsFn q0) (s : Bool) (hcl : x.client < 16) (hne : k ≠ 1) (hmay : ∀ W, Fr w W → Calls Tryz.prog q1 #[x.val t r] W fun e w' => e = .returned (.bool true) ∧ Fr W w')
    (hneeds : ∀ W, Calls Tryz.prog q0 #[x.val t r] W fun e w' => e = .returned (o.val (.slice ta tn tc) (.slice ra rn rc)) ∧ Fr W w')
    (hsame : ∀ W, Fr w W → Calls Tryz.prog 16 #[x.val t r, ({ o with kind := x.kind, client := x.client, id := x.id } : Ev).val (.slice ta tn tc) (.slice ra rn rc)] W fun e w' => e = .returned (.bool s) ∧ Fr W w') :
    Calls Tryz.prog 18 #[x.val t r] w fun e w' => e = .returned (.int .i64 (if s then 0 else 4)) ∧ Fr w w' := by
  have hof := fun W => of_yes k W h1 h7
  rw [hq] at hof
  unfold IsFn at hf hf0
  have hB0 := BoxAt.new w (x.cells t r) 32
  unfold Ev.cells at hB0
  unfold Ev.val at hmay hneeds hsame ⊢
  have hk1 : ((k : Int) != 1) = true := by simp; omega
  have hcl2 : ¬ (16 : Int) ≤ x.client := by omega
  rw [hk] at hmay hneeds hsame hB0 ⊢
  have HO := Lib.hid hof
  have HM := Lib.hid hmay
  have HN := Lib.hid hneeds
  have HS := Lib.hid hsame
  clear hof hmay hq hk hneeds hsame hne
  go_enter Tryz.func18, Tryz.ntmps18
  go_wp2_with fail
  refine (HO.out _).mono ?_
  rintro e w1 ⟨rfl, hb⟩
  have hB1 := (hB0.fr hb).alloc (.cells #[.func (.func q0) #[] #[], .func (.func q1) #[] #[], .func (.func q2) #[] #[], .func (.func q3) #[] #[]] 103)
  have hfr : Fr w w1 := ((Fr.refl w).alloc _).trans hb
  clear hB0 hb
  go_wp2_with (first | ((with_reducible refine wpList_here (.store 103 (.tmp 3) (.tmp 10)) rfl ?_); refine wpList_store_new 103 (.tmp 3) (.tmp 10) rfl _ _ _ rfl rfl rfl Tryz.info67 rfl rfl rfl rfl ?_) | ((with_reducible refine wpList_here (.load 32 (.tmp 1)) rfl ?_); refine wpList_load_box 32 (.tmp 1) rfl _ rfl _ hB1 _ Tryz.underlying32 rfl Tryz.infoEv rfl ?_))
  refine (HM.out _ (hfr.alloc _)).mono ?_
  rintro e w2 ⟨rfl, hb2⟩
  have hB2 := hB1.fr hb2
  have c1 := hB2.at 1 rfl
  have hz : w.heap.size < w2.heap.size := hB2.lt
  have hk2 : w2.cell? ⟨w1.heap.size, 0, none⟩ = some (.func (.func q0) #[] #[]) := (BoxAt.of_fr hb2).at 0 rfl
  have hz1 : w1.heap.size < w2.heap.size := (BoxAt.of_fr hb2).lt
  have hfr2 : Fr w w2 := (hfr.alloc _).trans hb2
  clear hB1
  go_wp2_with ((with_reducible refine wpList_here (.load 32 (.tmp 1)) rfl ?_); refine wpList_load_box 32 (.tmp 1) rfl _ rfl _ hB2 _ Tryz.underlying32 rfl Tryz.infoEv rfl ?_)
  refine (HN.out _).mono ?_
  rintro e w3 ⟨rfl, hb3⟩
  have hfr3 : Fr w w3 := hfr2.trans hb3
  have hB3 := hB2.fr hb3
  have d0 := hB3.at 0 rfl
  have d1 := hB3.at 1 rfl
  have d2 := hB3.at 2 rfl
  have hz3 : w.heap.size < w3.heap.size := hB3.lt
  clear hB2 c1 hk2 hz hz1 hb3
  go_wp2_with ((with_reducible refine wpList_here (.store 32 (.tmp 5) (.tmp 29)) rfl ?_); refine wpList_store_new 32 (.tmp 5) (.tmp 29) rfl _ _ _ rfl rfl rfl Tryz.infoEv rfl (Ev.oneCell o ta ra tn tc rn rc) rfl rfl ?_)
  go_region
  go_wp2_with (first | ((with_reducible refine wpList_here (.load 32 (.tmp 1)) rfl ?_); refine wpList_load_box 32 (.tmp 1) rfl w.heap.size rfl _ (((hB3.alloc _)).drew) _ Tryz.underlying32 rfl Tryz.infoEv rfl ?_) | ((with_reducible refine wpList_here (.load 32 (.tmp 5)) rfl ?_); refine wpList_load_box 32 (.tmp 5) rfl w3.heap.size rfl _ (BoxAt.new w3 _ _).drew _ Tryz.underlying32 rfl Tryz.infoEv rfl ?_))
  refine (HS.out _ ((hfr3.alloc _).drew)).mono ?_
  rintro e w4 ⟨rfl, hb4⟩
  have hfr4 : Fr w w4 := ((hfr3.alloc _).drew).trans hb4
  cases s
  · go_wp2_with fail
    go_ret
    exact ⟨rfl, hfr4⟩
  · go_wp2_with fail
    go_ret
    exact ⟨rfl, hfr4⟩
set_option maxRecDepth 100000 in
set_option maxHeartbeats 4000000 in
theorem check_cfg (k q0 q1 q2 q3 : Nat) (x o : Ev) (t r : Value) (ta ra : Option Addr) (tn tc rn rc : Nat) (w : World) (h1 : 1 ≤ k) (h7 : k ≤ 7) (hk : x.kind = k) (hq : evKind k = #[.func (.func q0) #[] #[], .func (.func q1) #[] #[], .func (.func q2) #[] #[], .func (.func q3) #[] #[]])
    (hf : IsFn q1) (hf0 : IsFn q0) (s : Bool) (hcl : x.client < 16) (hne : k = 1) (hmay : ∀ W, Fr w W → Calls Tryz.prog q1 #[x.val t r] W fun e w' => e = .returned (.bool true) ∧ Fr W w')
    (hneeds : ∀ W, Calls Tryz.prog q0 #[x.val t r] W fun e w' => e = .returned (o.val (.slice ta tn tc) (.slice ra rn rc)) ∧ Fr W w')
    (hsame : ∀ W, Fr w W → Calls Tryz.prog 16 #[x.val t r, ({ o with kind := x.kind } : Ev).val (.slice ta tn tc) (.slice ra rn rc)] W fun e w' => e = .returned (.bool s) ∧ Fr W w') :
    Calls Tryz.prog 18 #[x.val t r] w fun e w' => e = .returned (.int .i64 (if s then 0 else 4)) ∧ Fr w w' := by
  have hof := fun W => of_yes k W h1 h7
  rw [hq] at hof
  unfold IsFn at hf hf0
  have hB0 := BoxAt.new w (x.cells t r) 32
  unfold Ev.cells at hB0
  unfold Ev.val at hmay hneeds hsame ⊢
  have hk1 : ((k : Int) != 1) = false := by simp; omega
  have hcl2 : ¬ (16 : Int) ≤ x.client := by omega
  rw [hk] at hmay hneeds hsame hB0 ⊢
  have HO := Lib.hid hof
  have HM := Lib.hid hmay
  have HN := Lib.hid hneeds
  have HS := Lib.hid hsame
  clear hof hmay hq hk hneeds hsame hne
  go_enter Tryz.func18, Tryz.ntmps18
  go_wp2_with fail
  refine (HO.out _).mono ?_
  rintro e w1 ⟨rfl, hb⟩
  have hB1 := (hB0.fr hb).alloc (.cells #[.func (.func q0) #[] #[], .func (.func q1) #[] #[], .func (.func q2) #[] #[], .func (.func q3) #[] #[]] 103)
  have hfr : Fr w w1 := ((Fr.refl w).alloc _).trans hb
  clear hB0 hb
  go_wp2_with (first | ((with_reducible refine wpList_here (.store 103 (.tmp 3) (.tmp 10)) rfl ?_); refine wpList_store_new 103 (.tmp 3) (.tmp 10) rfl _ _ _ rfl rfl rfl Tryz.info67 rfl rfl rfl rfl ?_) | ((with_reducible refine wpList_here (.load 32 (.tmp 1)) rfl ?_); refine wpList_load_box 32 (.tmp 1) rfl _ rfl _ hB1 _ Tryz.underlying32 rfl Tryz.infoEv rfl ?_))
  refine (HM.out _ (hfr.alloc _)).mono ?_
  rintro e w2 ⟨rfl, hb2⟩
  have hB2 := hB1.fr hb2
  have c1 := hB2.at 1 rfl
  have hz : w.heap.size < w2.heap.size := hB2.lt
  have hk2 : w2.cell? ⟨w1.heap.size, 0, none⟩ = some (.func (.func q0) #[] #[]) := (BoxAt.of_fr hb2).at 0 rfl
  have hz1 : w1.heap.size < w2.heap.size := (BoxAt.of_fr hb2).lt
  have hfr2 : Fr w w2 := (hfr.alloc _).trans hb2
  clear hB1
  go_wp2_with ((with_reducible refine wpList_here (.load 32 (.tmp 1)) rfl ?_); refine wpList_load_box 32 (.tmp 1) rfl _ rfl _ hB2 _ Tryz.underlying32 rfl Tryz.infoEv rfl ?_)
  refine (HN.out _).mono ?_
  rintro e w3 ⟨rfl, hb3⟩
  have hfr3 : Fr w w3 := hfr2.trans hb3
  have hB3 := hB2.fr hb3
  have d0 := hB3.at 0 rfl
  have d1 := hB3.at 1 rfl
  have d2 := hB3.at 2 rfl
  have hz3 : w.heap.size < w3.heap.size := hB3.lt
  clear hB2 c1 hk2 hz hz1 hb3
  go_wp2_with (first | ((with_reducible refine wpList_here (.store 32 (.tmp 5) (.tmp 29)) rfl ?_); refine wpList_store_new 32 (.tmp 5) (.tmp 29) rfl _ _ _ rfl rfl rfl Tryz.infoEv rfl (Ev.oneCell o ta ra tn tc rn rc) rfl rfl ?_) | ((with_reducible refine wpList_here (.load 32 (.tmp 1)) rfl ?_); refine wpList_load_box 32 (.tmp 1) rfl w.heap.size rfl _ ((hB3.alloc _)) _ Tryz.underlying32 rfl Tryz.infoEv rfl ?_) | ((with_reducible refine wpList_here (.load 32 (.tmp 5)) rfl ?_); refine wpList_load_box 32 (.tmp 5) rfl w3.heap.size rfl _ (BoxAt.new w3 _ _) _ Tryz.underlying32 rfl Tryz.infoEv rfl ?_))
  refine (HS.out _ (hfr3.alloc _)).mono ?_
  rintro e w4 ⟨rfl, hb4⟩
  have hfr4 : Fr w w4 := (hfr3.alloc _).trans hb4
  cases s
  · go_wp2_with fail
    go_ret
    exact ⟨rfl, hfr4⟩
  · go_wp2_with fail
    go_ret
    exact ⟨rfl, hfr4⟩

theorem RdM.nil (w : World) : RdM w nil0 [] := ⟨none, 0, rfl, Nat.le_refl _, by decide, .inl rfl⟩
theorem RdR.nil (w : World) : RdR w nil0 [] := ⟨[], rfl, ⟨none, 0, rfl, Nat.le_refl _, by decide, .inl rfl⟩, fun i l u h => by simp at h⟩
theorem RdM.slice {w : World} {v : Value} {l : List Mic} (h : RdM w v l) : ∃ a n c, v = .slice a n c := by obtain ⟨a, c, h, _⟩ := h; exact ⟨a, _, c, h⟩
theorem RdR.slice {w : World} {v : Value} {l : List (List Nat)} (h : RdR w v l) : ∃ a n c, v = .slice a n c := by obtain ⟨_, _, ⟨a, c, h, _⟩, _⟩ := h; exact ⟨a, _, c, h⟩
theorem check_k (k q0 q1 q2 q3 : Nat) (x o y : Ev) (t r t' r' : Value) (w : World) (h1 : 1 ≤ k) (h7 : k ≤ 7) (hk : x.kind = k) (hq : evKind k = #[.func (.func q0) #[] #[], .func (.func q1) #[] #[], .func (.func q2) #[] #[], .func (.func q3) #[] #[]])
    (hf : IsFn q1) (hf0 : IsFn q0) (hx : EvAt w (x.val t r) x) (ht' : RdM w t' o.txn) (hr' : RdR w r' o.reads)
    (hmay : ∀ W, Fr w W → Calls Tryz.prog q1 #[x.val t r] W fun e w' => e = .returned (.bool x.kindMay) ∧ Fr W w')
    (hneeds : ∀ W, Calls Tryz.prog q0 #[x.val t r] W fun e w' => e = .returned (o.val t' r') ∧ Fr W w')
    (hy : y = if k = 1 then { o with kind := x.kind } else { o with kind := x.kind, client := x.client, id := x.id }) (hn : x.needed = y) :
    Calls Tryz.prog 18 #[x.val t r] w fun e w' => e = .returned (.int .i64 x.check) ∧ Fr w w' := by
  obtain ⟨ta, tn, tc, rfl⟩ := ht'.slice
  obtain ⟨ra, rn, rc, rfl⟩ := hr'.slice
  have hyt : y.txn = o.txn := by rw [hy]; split <;> rfl
  have hyr : y.reads = o.reads := by rw [hy]; split <;> rfl
  have hsame : ∀ W, Fr w W → Calls Tryz.prog 16 #[x.val t r, y.val (.slice ta tn tc) (.slice ra rn rc)] W fun e w' => e = .returned (.bool (decide (x = y))) ∧ Fr W w' := fun W hW =>
    same_c _ _ x y W (hx.keep hW) ⟨_, _, rfl, by rw [hyt]; exact ht'.keep hW, by rw [hyr]; exact hr'.keep hW⟩
  unfold Ev.check Ev.may
  rw [hn]
  cases hb : x.kindMay
  · rw [hb] at hmay
    exact check_no k q0 q1 q2 q3 x t r w h1 h7 hk hq hf hmay
  · rw [hb] at hmay
    by_cases hc : x.client < 16
    · rw [decide_eq_true hc]
      by_cases h : k = 1
      · rw [if_pos h] at hy
        rw [hy] at hsame
        refine (check_cfg k q0 q1 q2 q3 x o t r ta ra tn tc rn rc w h1 h7 hk hq hf hf0 _ hc h hmay hneeds hsame).mono fun e w' ⟨he, hw⟩ => ⟨?_, hw⟩
        rw [he, hy]
        cases decide (x = { o with kind := x.kind }) <;> rfl
      · rw [if_neg h] at hy
        rw [hy] at hsame
        refine (check_yes k q0 q1 q2 q3 x o t r ta ra tn tc rn rc w h1 h7 hk hq hf hf0 _ hc h hmay hneeds hsame).mono fun e w' ⟨he, hw⟩ => ⟨?_, hw⟩
        rw [he, hy]
        cases decide (x = { o with kind := x.kind, client := x.client, id := x.id }) <;> rfl
    · rw [decide_eq_false hc]
      exact check_client k q0 q1 q2 q3 x t r w h1 h7 hk hq hf hc hmay
set_option maxRecDepth 100000 in
theorem check_none (x : Ev) (t r : Value) (w : World) (h : x.kind < 1 ∨ 7 < x.kind) :
    Calls Tryz.prog 18 #[x.val t r] w fun e w' => e = .returned (.int .i64 4) ∧ Fr w w' := by
  have hof := fun W => of_no x.kind W (by omega)
  have HO := Lib.hid hof
  clear hof h
  unfold Ev.val
  go_enter Tryz.func18, Tryz.ntmps18
  go_wp2_with fail
  refine (HO.out _).mono ?_
  rintro e w1 ⟨rfl, hb⟩
  go_wp2_with (first | ((with_reducible refine wpList_here (.store 103 (.tmp 3) (.tmp 10)) rfl ?_); refine wpList_store_new 103 (.tmp 3) (.tmp 10) rfl _ _ _ rfl rfl rfl Tryz.info67 rfl rfl rfl rfl ?_))
  go_ret
  exact ⟨rfl, (((Fr.refl w).alloc _).trans hb).alloc _⟩
/-- The bounds of an event's numbers. -/
structure Ev.Ok (x : Ev) : Prop where
  kind : x.kind < 256
  client : x.client < 256
  id : x.id < 65536
  F : x.op.F < 256
  O : x.op.O < 256
  K : x.op.K < 256
  A : x.op.A < 65536
  B : x.op.B < 65536
  rk : x.rk < 256
  rv : x.rv < 65536
  txn : ∀ m ∈ x.txn, m.key < 256 ∧ m.v < 65536
  reads : ∀ l ∈ x.reads, ∀ n ∈ l, n < 65536
  model : x.cfg.model < 256
theorem EvCheck_c (x : Ev) (v : Value) (w : World) (hE : Env w) (hx : EvAt w v x) (ok : x.Ok) :
    Calls Tryz.prog 18 #[v] w fun e w' => e = .returned (.int .i64 x.check) ∧ Fr w w' := by
  obtain ⟨⟨t, r, rfl, ht, hr⟩⟩ := hx
  have hx : EvAt w (x.val t r) x := ⟨t, r, rfl, ht, hr⟩
  by_cases hk : 1 ≤ x.kind ∧ x.kind ≤ 7
  · rcases (show x.kind = 1 ∨ x.kind = 2 ∨ x.kind = 3 ∨ x.kind = 4 ∨ x.kind = 5 ∨ x.kind = 6 ∨ x.kind = 7 by omega) with h | h | h | h | h | h | h
    · exact check_k 1 _ _ _ _ x { Ev.zero with cfg := x.cfg } _ t r nil0 nil0 w (by omega) (by omega) h rfl (isFn Tryz.func102 (by kernel_rfl) rfl) (isFn Tryz.func101 (by kernel_rfl) rfl) hx (RdM.nil _) (RdR.nil _)
        (fun W hW => by rw [show x.kindMay = cfgMay x.cfg by simp [Ev.kindMay, h]]; exact mayConfig_c x t r W) (fun W => configured_c x t r W) rfl (by simp [Ev.needed, h])
    · exact check_k 2 _ _ _ _ x { Ev.zero with op := x.op } _ t r nil0 nil0 w (by omega) (by omega) h rfl (isFn Tryz.func106 (by kernel_rfl) rfl) (isFn Tryz.func105 (by kernel_rfl) rfl) hx (RdM.nil _) (RdR.nil _)
        (fun W hW => by rw [show x.kindMay = x.op.may by simp [Ev.kindMay, h]]; exact mayOp_c x t r W (hE.keep hW) ok.F ok.O ok.K) (fun W => invoked_c x t r W) rfl (by simp [Ev.needed, h])
    · exact check_k 3 _ _ _ _ x { Ev.zero with rk := x.rk, rv := x.rv } _ t r nil0 nil0 w (by omega) (by omega) h rfl (isFn Tryz.func110 (by kernel_rfl) rfl) (isFn Tryz.func109 (by kernel_rfl) rfl) hx (RdM.nil _) (RdR.nil _)
        (fun W hW => by rw [show x.kindMay = goodB x.rk x.rv by simp [Ev.kindMay, h]]; exact mayResult_c x t r W) (fun W => returned_c x t r W) rfl (by simp [Ev.needed, h])
    · exact check_k 4 _ _ _ _ x Ev.zero _ t r nil0 nil0 w (by omega) (by omega) h rfl (isFn Tryz.func114 (by kernel_rfl) rfl) (isFn Tryz.func113 (by kernel_rfl) rfl) hx (RdM.nil _) (RdR.nil _)
        (fun W hW => by rw [show x.kindMay = true by simp [Ev.kindMay, h]]; exact always_c _ W ⟨x, t, r, rfl⟩) (fun W => nothing_c x t r W) rfl (by simp [Ev.needed, h])
    · exact check_k 5 _ _ _ _ x { Ev.zero with txn := x.txn } _ t r t nil0 w (by omega) (by omega) h rfl (isFn Tryz.func118 (by kernel_rfl) rfl) (isFn Tryz.func117 (by kernel_rfl) rfl) hx ht (RdR.nil _)
        (fun W hW => by rw [show x.kindMay = txnMay x.txn by simp [Ev.kindMay, h]]; exact mayTxn_c x t r W (ht.keep hW)) (fun W => begun_c x t r W ht.slice) rfl (by simp [Ev.needed, h])
    · exact check_k 6 _ _ _ _ x { Ev.zero with reads := x.reads } _ t r nil0 r w (by omega) (by omega) h rfl (isFn Tryz.func122 (by kernel_rfl) rfl) (isFn Tryz.func121 (by kernel_rfl) rfl) hx (RdM.nil _) hr
        (fun W hW => by rw [show x.kindMay = readsMay x.reads by simp [Ev.kindMay, h]]; exact mayReads_c x t r W (hr.keep hW)) (fun W => committed_c x t r W hr.slice) rfl (by simp [Ev.needed, h])
    · exact check_k 7 _ _ _ _ x Ev.zero _ t r nil0 nil0 w (by omega) (by omega) h rfl (isFn Tryz.func114 (by kernel_rfl) rfl) (isFn Tryz.func113 (by kernel_rfl) rfl) hx (RdM.nil _) (RdR.nil _)
        (fun W hW => by rw [show x.kindMay = true by simp [Ev.kindMay, h]]; exact always_c _ W ⟨x, t, r, rfl⟩) (fun W => nothing_c x t r W) rfl (by simp [Ev.needed, h])
  · refine (check_none x t r w (by omega)).mono fun e w' ⟨he, hw⟩ => ⟨?_, hw⟩
    have hm : x.kindMay = false := by
      have h1 : x.kind ≠ 1 := by omega
      have h2 : x.kind ≠ 2 := by omega
      have h3 : x.kind ≠ 3 := by omega
      have h4 : x.kind ≠ 4 := by omega
      have h5 : x.kind ≠ 5 := by omega
      have h6 : x.kind ≠ 6 := by omega
      have h7 : x.kind ≠ 7 := by omega
      simp [Ev.kindMay, h1, h2, h3, h4, h5, h6, h7]
    rw [he, Ev.check, Ev.may, hm]; rfl
end Go.Proofs.YtfklgaeejmeipaaGreatDoor

/- event's take of each kind, into an event's box. No condition but the bytes' length. -/
namespace Go.Proofs.YtfklgaeejmeipaaGreatDoor
open Go.RowKit

/-- Only two blocks may have changed, of those that were there. -/
structure Ch2 (p q : Nat) (w w' : World) : Prop where
  os : w'.os = w.os
  tape : w'.tape = w.tape
  output : w'.output = w.output
  size : w.heap.size ≤ w'.heap.size
  block : ∀ k, k < w.heap.size → k ≠ p → k ≠ q → w'.heap[k]? = w.heap[k]?
theorem Ch2.refl (p q : Nat) (w : World) : Ch2 p q w w := ⟨rfl, rfl, rfl, Nat.le_refl _, fun _ _ _ _ => rfl⟩
theorem Ch2.trans {p q : Nat} {a b c : World} (h : Ch2 p q a b) (k : Ch2 p q b c) : Ch2 p q a c :=
  ⟨k.os.trans h.os, k.tape.trans h.tape, k.output.trans h.output, Nat.le_trans h.size k.size, fun j hj h1 h2 => (k.block j (Nat.lt_of_lt_of_le hj h.size) h1 h2).trans (h.block j hj h1 h2)⟩
theorem Chp.ch2 {p q : Nat} {w w' : World} (h : Chp p w w') : Ch2 p q w w' := ⟨h.os, h.tape, h.output, h.size, fun k hk h1 _ => h.block k hk h1 (by simp [Value.ownBlock])⟩
theorem Fr.ch2 {p q : Nat} {w w' : World} (h : Fr w w') : Ch2 p q w w' := ⟨h.os, h.tape, h.output, h.size, fun k hk _ _ => h.block hk⟩
theorem Ch2.set {p q : Nat} {a w : World} (h : Ch2 p q a w) (o : Nat) (u : Value) : Ch2 p q a (w.setCell ⟨q, o, none⟩ u) :=
  ⟨h.os, h.tape, h.output, by simpa using h.size, fun k hk h1 h2 => (Below.heap_setCell w _ u k (fun e => h2 e)).trans (h.block k hk h1 h2)⟩
theorem Ch2.setNew {p q : Nat} {a w : World} (h : Ch2 p q a w) {b : Nat} (hb : a.heap.size ≤ b) (o : Nat) (u : Value) : Ch2 p q a (w.setCell ⟨b, o, none⟩ u) :=
  ⟨h.os, h.tape, h.output, by simpa using h.size, fun k hk h1 h2 => (Below.heap_setCell w _ u k (fun e => by subst e; exact absurd hk (Nat.not_lt.2 hb))).trans (h.block k hk h1 h2)⟩
theorem Ch2.alloc {p q : Nat} {a w : World} (h : Ch2 p q a w) (X : Obj) : Ch2 p q a (w.alloc X) := h.trans ((Fr.refl w).alloc X).ch2
theorem Ch2.drew {p q : Nat} {a w : World} (h : Ch2 p q a w) : Ch2 p q a w.drew := h.trans ((Fr.refl w).drew).ch2
theorem Ch2.fr {p q : Nat} {a w w' : World} (f : Fr a w) (h : Ch2 p q w w') (hp : a.heap.size ≤ p) (hq : a.heap.size ≤ q) : Fr a w' :=
  ⟨h.os.trans f.os, h.tape.trans f.tape, h.output.trans f.output, Nat.le_trans f.size h.size, fun k hk => (h.block k (Nat.lt_of_lt_of_le hk f.size) (by omega) (by omega)).trans (f.block hk)⟩
theorem BoxAt.chp {p b : Nat} {w w' : World} {c : Array Value} {t : TypeId} (h : BoxAt w b c t) (k : Chp p w w') (hb : b ≠ p) : BoxAt w' b c t := (k.block b h.lt hb (by simp [Value.ownBlock])).trans h
theorem BoxAt.setAt {w : World} {b : Nat} {c : Array Value} {t : TypeId} (h : BoxAt w b c t) (j : Nat) (v : Value) : BoxAt (w.setCell ⟨b, j, none⟩ v) b (c.setIfInBounds j v) t := by
  unfold BoxAt at h ⊢
  rw [setCell_eq_setRow w b j c t (0, 0) v h]
  exact setRow_heap w b c _ t (0, 0) h
theorem RdAt.setBox {w : World} {p e at_ q : Nat} {s : List UInt8} (h : RdAt w p e s at_) (hq : q ≠ p) (o : Nat) (u : Value) : RdAt (w.setCell ⟨q, o, none⟩ u) p e s at_ := h.setOther hq o u

/-- Its lists can be read as long as new memory stands. -/
def Stays (W W' : World) (t r : Value) (y : Ev) : Prop := ∀ W2 : World, W'.heap.size ≤ W2.heap.size → (∀ k, W.heap.size ≤ k → k < W'.heap.size → W2.heap[k]? = W'.heap[k]?) → RdM W2 t y.txn ∧ RdR W2 r y.reads
/-- What a take leaves: the error; the event, in its box. -/
def TakeP (p q : Nat) (W : World) (y : Ev × Nat) (e' : Ending) (W' : World) : Prop :=
  e' = .returned (.int .i64 y.2) ∧ ∃ t r, BoxAt W' q (y.1.cells t r) 32 ∧ Stays W W' t r y.1 ∧ Ch2 p q W W'
theorem pass_c (p q e at_ : Nat) (s : List UInt8) (x : Ev) (w : World) (h : RdAt w p e s at_) (hB : BoxAt w q (x.cells nil0 nil0) 32) (ht : x.txn = []) (hr : x.reads = []) :
    Calls Tryz.prog 116 #[.pointer (some ⟨p, 0, none⟩), .pointer (some ⟨q, 0, none⟩)] w (TakeP p q w (x, e)) := by
  have hP : TakeP p q w (x, e) (.returned (.int .i64 e)) w := ⟨rfl, nil0, nil0, hB, fun _ _ _ => ⟨by rw [ht]; exact RdM.nil _, by rw [hr]; exact RdR.nil _⟩, Ch2.refl _ _ _⟩
  clear hB ht hr
  go_enter Tryz.func116, Tryz.ntmps116
  go_wp2_with fail
  refine (Err_c p e at_ s _ h).mono ?_
  rintro e' w' ⟨rfl, rfl⟩
  go_wp2_with fail
  go_ret
  exact hP
theorem takeResult_c (p q e at_ : Nat) (s : List UInt8) (x : Ev) (w : World) (h : RdAt w p e s at_) (hB : BoxAt w q (x.cells nil0 nil0) 32) (hpq : q ≠ p) (ht : x.txn = []) (hr : x.reads = []) :
    Calls Tryz.prog 112 #[.pointer (some ⟨p, 0, none⟩), .pointer (some ⟨q, 0, none⟩)] w (TakeP p q w ({ x with rk := (takeRes e s at_).1.1, rv := (takeRes e s at_).1.2.1 }, (takeRes e s at_).1.2.2)) := by
  have h1 := resTake_c p e at_ s w h
  generalize takeRes e s at_ = y at h1 ⊢
  obtain ⟨⟨K, V, E⟩, z⟩ := y
  simp only at h1 ⊢
  have H1 := Lib.hid h1
  clear h1
  go_enter Tryz.func112, Tryz.ntmps112
  go_wp2_with fail
  refine H1.out.mono ?_
  rintro e' w1 ⟨rfl, _, hch⟩
  have hB1 := hB.chp hch hpq
  have hP : ∀ w2, w2 = (w1.setCell ⟨q, 8, none⟩ (.int .u8 K)).setCell ⟨q, 9, none⟩ (.int .u16 V) → TakeP p q w ({ x with rk := K, rv := V }, E) (.returned (.int .i64 E)) w2 := fun w2 hw2 => by
    subst hw2
    exact ⟨rfl, nil0, nil0, (hB1.setAt 8 _).setAt 9 _, fun _ _ _ => ⟨by rw [ht]; exact RdM.nil _, by rw [hr]; exact RdR.nil _⟩, (hch.ch2.set _ _).set _ _⟩
  have HP := Lib.hid hP
  have c8 := hB1.at 8 rfl
  have c9 := hB1.at 9 rfl
  have f8 := hB1.free 8
  have f9 := hB1.free 9
  clear hP hB hch ht hr
  go_wp2_with fail
  go_ret
  exact HP.out _ rfl
end Go.Proofs.YtfklgaeejmeipaaGreatDoor

/- Micros and lists that can be read, in blocks of which something is known. No condition but what each says. -/
namespace Go.Proofs.YtfklgaeejmeipaaGreatDoor
open Go.RowKit

/-- .. in blocks of this kind. -/
def RdMZ (Z : Nat → Prop) (w : World) (v : Value) (l : List Mic) : Prop := SlAt w Z v l.length (micCells l)
def RdRZ (Z : Nat → Prop) (w : World) (v : Value) (ls : List (List Nat)) : Prop := ∃ vs : List Value, vs.length = ls.length ∧ SlAt w Z v ls.length vs ∧ ∀ (i : Nat) (l : List Nat) (u : Value), ls[i]? = some l → vs[i]? = some u → SlAt w Z u l.length (u16Cells l)
theorem RdMZ.nil (Z : Nat → Prop) (w : World) : RdMZ Z w (.slice none 0 0) [] := ⟨none, 0, rfl, Nat.le_refl _, by decide, .inl rfl⟩
theorem RdRZ.nil (Z : Nat → Prop) (w : World) : RdRZ Z w (.slice none 0 0) [] := ⟨[], rfl, ⟨none, 0, rfl, Nat.le_refl _, by decide, .inl rfl⟩, fun _ _ _ h => by cases h⟩
section
variable {Z Z' : Nat → Prop} {w w' : World} {v : Value} {l : List Mic} {ls : List (List Nat)}
theorem RdMZ.rd (h : RdMZ Z w v l) : RdM w v l := SlAt.mono h fun _ _ => trivial
theorem RdRZ.rd (h : RdRZ Z w v ls) : RdR w v ls := by
  obtain ⟨vs, h1, h2, h3⟩ := h
  exact ⟨vs, h1, h2.mono fun _ _ => trivial, fun i l u hl hu => (h3 i l u hl hu).mono fun _ _ => trivial⟩
theorem RdMZ.mono (h : RdMZ Z w v l) (k : ∀ b, Z b → Z' b) : RdMZ Z' w v l := SlAt.mono h k
theorem RdRZ.mono (h : RdRZ Z w v ls) (k : ∀ b, Z b → Z' b) : RdRZ Z' w v ls := by
  obtain ⟨vs, h1, h2, h3⟩ := h
  exact ⟨vs, h1, h2.mono k, fun i l u hl hu => (h3 i l u hl hu).mono k⟩
/-- Where all these blocks stand as they stood. -/
theorem RdMZ.keep (h : RdMZ Z w v l) (hs : w.heap.size ≤ w'.heap.size) (k : ∀ b, Z b → b < w.heap.size → w'.heap[b]? = w.heap[b]?) : RdMZ Z w' v l := SlAt.keep h hs k
theorem RdRZ.keep (h : RdRZ Z w v ls) (hs : w.heap.size ≤ w'.heap.size) (k : ∀ b, Z b → b < w.heap.size → w'.heap[b]? = w.heap[b]?) : RdRZ Z w' v ls := by
  obtain ⟨vs, h1, h2, h3⟩ := h
  exact ⟨vs, h1, h2.keep hs k, fun i l u hl hu => (h3 i l u hl hu).keep hs k⟩
theorem RdMZ.fr (h : RdMZ Z w v l) (f : Fr w w') : RdMZ Z w' v l := h.keep f.size fun _ _ hb => f.block hb
theorem RdRZ.fr (h : RdRZ Z w v ls) (f : Fr w w') : RdRZ Z w' v ls := h.keep f.size fun _ _ hb => f.block hb
theorem slAt_lt {n : Nat} {xs : List Value} (h : SlAt w Z v n xs) : SlAt w (fun b => Z b ∧ b < w.heap.size) v n xs := by
  obtain ⟨a, cap, h1, h2, h3, h4⟩ := h
  refine ⟨a, cap, h1, h2, h3, ?_⟩
  rcases h4 with h4 | ⟨b, off, rfl, hz, hb, hc⟩
  · exact .inl h4
  · exact .inr ⟨b, off, rfl, ⟨hz, hb⟩, hb, hc⟩
theorem RdMZ.lt (h : RdMZ Z w v l) : RdMZ (fun b => Z b ∧ b < w.heap.size) w v l := slAt_lt h
theorem RdRZ.lt (h : RdRZ Z w v ls) : RdRZ (fun b => Z b ∧ b < w.heap.size) w v ls := by
  obtain ⟨vs, h1, h2, h3⟩ := h
  exact ⟨vs, h1, slAt_lt h2, fun i l u hl hu => slAt_lt (h3 i l u hl hu)⟩
end
end Go.Proofs.YtfklgaeejmeipaaGreatDoor

/- Layer 6: lists of events, in memory: that can be read; of a call's own. No condition but what each says. -/
namespace Go.Proofs.YtfklgaeejmeipaaGreatDoor
open Go.RowKit
attribute [local go_sem] Oper.semAt_some

/-- A list of events that can be read. -/
structure RdE (w : World) (v : Value) (l : List Ev) : Prop where
  is : ∃ a cap, v = .slice a l.length cap ∧ l.length ≤ cap ∧ cap ≤ maxLen ∧ (l = [] ∨ ∃ b off, a = some ⟨b, off, none⟩ ∧ b < w.heap.size ∧ ∀ i (h : i < l.length), ∃ t r, w.rangeAt b (off + i * 19) (l[i].cells t r).toList ∧ RdM w t l[i].txn ∧ RdR w r l[i].reads)
theorem rangeAt_keep {w w' : World} {b o : Nat} {cs : List Value} (h : w.rangeAt b o cs) (hb : w'.heap[b]? = w.heap[b]?) : w'.rangeAt b o cs := fun j v hj =>
  (World.cell?_of_block (a := ⟨b, o + j, none⟩) hb).trans (h j v hj)
theorem RdE.keep {w w' : World} {v : Value} {l : List Ev} (h : RdE w v l) (f : Fr w w') : RdE w' v l := by
  obtain ⟨a, cap, rfl, h1, h2, h3⟩ := h
  refine ⟨a, cap, rfl, h1, h2, ?_⟩
  rcases h3 with h3 | ⟨b, off, rfl, hb, hx⟩
  · exact .inl h3
  · refine .inr ⟨b, off, rfl, Nat.lt_of_lt_of_le hb f.size, fun i hi => ?_⟩
    obtain ⟨t, r, g1, g2, g3⟩ := hx i hi
    exact ⟨t, r, rangeAt_keep g1 (f.block hb), g2.keep f, g3.keep f⟩
/-- One of them. -/
theorem RdE.at {w : World} {a : Option Addr} {n cap : Nat} {l : List Ev} (h : RdE w (.slice a n cap) l) {k : Nat} (hk : k < l.length) : ∃ b off t r, a = some ⟨b, off, none⟩ ∧ b < w.heap.size ∧ w.rangeAt b (off + k * 19) (l[k].cells t r).toList ∧ RdM w t l[k].txn ∧ RdR w r l[k].reads := by
  obtain ⟨a', cap', he, _, _, h3⟩ := h
  cases he
  rcases h3 with h3 | ⟨b, off, h4, hb, hx⟩
  · subst h3; simp at hk
  · obtain ⟨t, r, g⟩ := hx k hk
    exact ⟨b, off, t, r, h4, hb, g⟩
theorem flat19 {α : Type} {g : α → List Value} (hg : ∀ x, (g x).length = 19) : ∀ (l : List α) (i j : Nat) (h : i < l.length) (u : Value), (g l[i])[j]? = some u → (l.flatMap g)[i * 19 + j]? = some u
  | [], i, j, h, u, _ => by simp at h
  | x :: l, 0, j, h, u, hu => by
    rw [List.flatMap_cons, List.getElem?_append_left]
    · simpa using hu
    · have := (List.getElem?_eq_some_iff.1 hu).1
      simp at this ⊢
      exact this
  | x :: l, i + 1, j, h, u, hu => by
    have e : (i + 1) * 19 + j = 19 + (i * 19 + j) := by omega
    rw [List.flatMap_cons, e, List.getElem?_append_right (by rw [hg]; omega), hg, Nat.add_sub_cancel_left]
    exact flat19 hg l i j (by simpa using h) u (by simpa using hu)
def evFlat (trs : List (Ev × Value × Value)) : List Value := trs.flatMap fun e => (e.1.cells e.2.1 e.2.2).toList
theorem evFlat_len (trs : List (Ev × Value × Value)) : (evFlat trs).length = trs.length * 19 := by
  induction trs with
  | nil => rfl
  | cons e l ih =>
    have h19 : (e.1.cells e.2.1 e.2.2).toList.length = 19 := rfl
    simp only [evFlat, List.flatMap_cons, List.length_append, List.length_cons] at ih ⊢
    omega
theorem ownsRow_keep {w w' : World} {base : Nat} {e : TypeId} {size n : Nat} {v : Value} {xs : List Value} (h : w.ownsRow base e size v n xs) (hb : ∀ k, v.ownBlock = some k → w'.heap[k]? = w.heap[k]?) : w'.ownsRow base e size v n xs := by
  obtain ⟨h1, h2⟩ := h
  refine ⟨h1, ?_⟩
  rcases h2 with h2 | ⟨g, cap, cur, rfl, g1, g2, g3⟩
  · exact .inl h2
  · exact .inr ⟨g, cap, cur, rfl, g1, (hb g rfl).trans g2, g3⟩
/-- A list of events of the call's own: what they lead to lies in other blocks. -/
def OwX (w0 w : World) (v : Value) (L : List Ev) : Prop := ∃ trs : List (Ev × Value × Value), trs.map (·.1) = L ∧ w.ownsRow w0.heap.size 32 19 v L.length (evFlat trs) ∧ ∀ e ∈ trs, RdMZ (fun k => v.ownBlock ≠ some k) w e.2.1 e.1.txn ∧ RdRZ (fun k => v.ownBlock ≠ some k) w e.2.2 e.1.reads
theorem OwX.nil (w0 w : World) : OwX w0 w (.slice none 0 0) [] := ⟨[], rfl, ⟨rfl, .inl ⟨rfl, rfl⟩⟩, fun e he => by cases he⟩
theorem OwX.lt {w0 w : World} {v : Value} {L : List Ev} (h : OwX w0 w v L) : ∀ k, v.ownBlock = some k → w0.heap.size ≤ k ∧ k < w.heap.size := by
  obtain ⟨trs, _, h2, _⟩ := h
  exact h2.lt
theorem OwX.fr {w0 w w' : World} {v : Value} {L : List Ev} (h : OwX w0 w v L) (f : Fr w w') : OwX w0 w' v L := by
  obtain ⟨trs, h1, h2, h3⟩ := h
  exact ⟨trs, h1, ownsRow_keep h2 fun k hk => f.block (h2.lt k hk).2, fun e he => ⟨(h3 e he).1.fr f, (h3 e he).2.fr f⟩⟩
theorem OwX.rd {w0 w : World} {v : Value} {L : List Ev} (h : OwX w0 w v L) : RdE w v L := by
  obtain ⟨trs, rfl, ⟨h1, h2⟩, h3⟩ := h
  rcases h2 with ⟨rfl, h2⟩ | ⟨g, cap, cur, rfl, g1, g2, g3, g4, g5, g6⟩
  · have : trs = [] := by simpa using h2
    subst this
    exact ⟨none, 0, rfl, Nat.le_refl _, by decide, .inl rfl⟩
  · refine ⟨_, cap, rfl, g3, g4, .inr ⟨g, 0, rfl, ?_, fun i hi => ?_⟩⟩
    · rcases Nat.lt_or_ge g w.heap.size with h | h
      · exact h
      · rw [Array.getElem?_eq_none h] at g2; cases g2
    · have hi2 : i < trs.length := by simpa using hi
      have he : (trs.map (·.1))[i] = trs[i].1 := by simp
      rw [he]
      obtain ⟨m1, m2⟩ := h3 _ (List.getElem_mem hi2)
      refine ⟨trs[i].2.1, trs[i].2.2, fun j u hj => ?_, m1.rd, m2.rd⟩
      have h4 := flat19 (g := fun e : Ev × Value × Value => (e.1.cells e.2.1 e.2.2).toList) (fun _ => rfl) trs i j hi2 u hj
      have h5 : (cur.toList.take ((trs.map (·.1)).length * 19))[i * 19 + j]? = some u := by rw [g6]; exact h4
      have h6 := cell_of_row w g (i * 19 + j) cur 32 (0, 0) g2
      rw [Nat.zero_add, h6]
      have hlt : i * 19 + j < (trs.map (·.1)).length * 19 := by
        have := (List.getElem?_eq_some_iff.1 h5).1
        simp only [List.length_take] at this
        omega
      rw [List.getElem?_take_of_lt hlt] at h5
      simpa using h5
theorem Tryz.infoEvB : (Tryz.prog.info? 32).map (fun i => (i.zero, i.size, i.bytes)) = some (some (Ev.zero.val nil0 nil0), 19, 104) := by kernel_rfl
theorem evFlat_one (trs : List (Ev × Value × Value)) (h : ∀ e ∈ trs, (∃ a n c, e.2.1 = .slice a n c) ∧ ∃ a n c, e.2.2 = .slice a n c) : ∀ u ∈ evFlat trs, u.oneCell' = true := by
  intro u hu
  obtain ⟨e, he, hu⟩ := List.mem_flatMap.1 hu
  obtain ⟨⟨a, n, c, h1⟩, a', n', c', h2⟩ := h e he
  rw [h1, h2] at hu
  have := Ev.oneCell e.1 a a' n c n' c'
  rw [Array.all_eq_true_iff_forall_mem] at this
  exact this u (by simpa using hu)
/-- One event is appended. -/
theorem wpList_appendX {w0 w : World} {ops : Array Oper} {rest : List Oper} {o : Oper} {a : Act} {Q : Exit → Act → World → Prop} (hgd : o.guard = none) (s x : Operand)
    (ho : o.op = .call { callee := .builtin .append, args := #[s, x], argTypes := #[49, 49] }) (v : Value) (L : List Ev) (hs : a.eval s = v) (hown : OwX w0 w v L) (f : Fr w0 w)
    (b c : Nat) (y : Ev) (t r : Value) (hx : a.eval x = .slice (some ⟨b, 0, none⟩) 1 c) (hy : w.rangeAt b 0 (y.cells t r).toList) (ht : RdMZ (fun k => v.ownBlock ≠ some k) w t y.txn) (hr : RdRZ (fun k => v.ownBlock ≠ some k) w r y.reads) (hn : L.length ≤ 1000000)
    (h : ∀ v' w', OwX w0 w' v' (L ++ [y]) → Fr w0 w' → wpList Tryz.prog ops Q rest (a.put o.dst v') w') : wpList Tryz.prog ops Q (o :: rest) a w := by
  obtain ⟨i0, hi0, hz0, hz1, hz2⟩ := info_parts Tryz.infoEvB
  obtain ⟨trs, hL, hrow, hrd⟩ := hown
  refine wpList_append_lies _ hgd s x 49 ho w0.heap.size 32 i0 _ 19 104 Tryz.underlying49 hi0 hz0 hz1 hz2 rfl (by omega) v L.length (evFlat trs) hs hrow ⟨b, 0, none⟩ 1 c (y.cells t r).toList hx rfl (fun j u hj => ?_) (fun u hu => ?_) (by omega) (by unfold maxLen; omega) (by omega) f.size w.heap.size rfl ?_
  · rw [WideShapes.add_plain]; exact hy j u hj
  · exact evFlat_one [(y, t, r)] (fun e he => by obtain rfl := List.mem_singleton.1 he; exact ⟨ht.rd.slice, hr.rd.slice⟩) u (by simpa [evFlat] using hu)
  · intro g cap w' hown' hgrow hat hlt
    have hK : ∀ k, (v.ownBlock ≠ some k ∧ k < w.heap.size) → k < w.heap.size → w'.heap[k]? = w.heap[k]? := fun k hz _ => hgrow.block k hz.2 (fun e => hz.1 e.symm)
    have hZ : ∀ k, (v.ownBlock ≠ some k ∧ k < w.heap.size) → (Value.slice (some ⟨g, 0, none⟩) (L.length + 1) cap).ownBlock ≠ some k := fun k hz e => by
      simp [Value.ownBlock] at e
      subst e
      rcases hat with hat | hat
      · exact hz.1 hat
      · have := hz.2; omega
    refine h _ w' ⟨trs ++ [(y, t, r)], by simp [hL], ?_, fun e he => ?_⟩ ?_
    · have : evFlat (trs ++ [(y, t, r)]) = evFlat trs ++ (y.cells t r).toList := by simp [evFlat]
      rw [this]
      simpa using hown'
    · rcases List.mem_append.1 he with he | he
      · exact ⟨(((hrd e he).1.lt).keep hgrow.size hK).mono hZ, (((hrd e he).2.lt).keep hgrow.size hK).mono hZ⟩
      · obtain rfl := List.mem_singleton.1 he
        exact ⟨((ht.lt).keep hgrow.size hK).mono hZ, ((hr.lt).keep hgrow.size hK).mono hZ⟩
    · exact f.grown hgrow f.size fun k hk => (hrow.lt k hk).1
end Go.Proofs.YtfklgaeejmeipaaGreatDoor
