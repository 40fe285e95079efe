/- umpireref05.Put: events that may not be, and those of kind 1. No condition but that the event can be read, and its numbers' bounds. -/
import Derived.Test.YtgbaanioppblhaaDoorPRefMay
import Derived.Test.YtgbaanioppblhaaDoorPRefN
set_option linter.all false
set_option linter.unusedVariables false
set_option linter.unusedSimpArgs false
set_option linter.unnecessarySimpa false
/- umpireref05.Put: events that may not be, and those of kind 1. No condition but that the event can be read, and its numbers' bounds. -/
namespace Go.Proofs.YtgbaanioppblhaaDoor
open Go.RowKit

theorem kindOf {x : Ev} (h : x.may = true) : x.kindMay = true := by unfold Ev.may at h; simp only [Bool.and_eq_true] at h; exact h.1.1
theorem ret_str0 {a : ByteArray} {l : List UInt8} (h : a.data.toList = l) : Ending.returned (.tuple #[.string a, .int .i64 0]) = Ending.returned (.tuple #[.string ⟨l.toArray⟩, .int .i64 0]) := by subst h; simp
set_option maxRecDepth 100000 in
set_option maxHeartbeats 1000000 in
theorem rPut_none (x : Ev) (t r : Value) (w : World) (hx : EvAt w (x.val t r) x) (ok : x.Ok) (hm : x.may = false) :
    Calls Tryd.prog 11 #[x.val t r] w fun e w' => e = .returned (.tuple #[.string ⟨#[]⟩, .int .i64 4]) ∧ Fr w w' := by
  have hch := fun W hx => rMayE_c x (x.val t r) W hx ok
  rw [hm] at hch
  have hB0 := BoxAt.new w (x.cells t r) 32
  have hx' := hx.keep ((Fr.refl w).alloc (.cells (x.cells t r) 32))
  unfold Ev.cells at hB0
  unfold Ev.val at hch hx' ⊢
  have HC := Lib.hid hch
  clear hch hm hx
  go_enter Tryd.func11, Tryd.ntmps11
  go_wp2_with ((with_reducible refine wpList_here (.load 32 (.tmp 1)) rfl ?_); refine wpList_load_box 32 (.tmp 1) rfl _ rfl _ hB0 _ Tryd.underlying32 rfl Tryd.infoEv rfl ?_)
  refine (HC.out _ hx').mono ?_
  rintro e w1 ⟨rfl, hb⟩
  go_wp2_with fail
  go_ret2
  exact ⟨rfl, ((Fr.refl w).alloc _).trans hb⟩
theorem bit_n (b : Bool) (k : Nat) (w : World) :
    Calls Tryd.prog 27 #[.bool b, .int .i64 k] w fun e w' => e = .returned (.int .i64 (b2n b k : Nat)) ∧ w = w' :=
  (bit_c b k w).mono fun _ _ ⟨he, hw⟩ => ⟨by rw [he]; cases b <;> rfl, hw⟩
set_option maxRecDepth 100000 in
set_option maxHeartbeats 4000000 in
theorem rPut_1 (x : Ev) (t r : Value) (w : World) (hx : EvAt w (x.val t r) x) (ok : x.Ok) (hm : x.may = true) (hk : x.kind = 1) :
    Calls Tryd.prog 11 #[x.val t r] w fun e w' => e = .returned (.tuple #[.string ⟨x.bytes.toArray⟩, .int .i64 0]) ∧ Fr w w' := by
  have hch := fun W hx => rMayE_c x (x.val t r) W hx ok
  rw [hm] at hch
  have hby : x.bytes = be 1 1 ++ cfgBytes x.cfg := by unfold Ev.bytes Ev.head Ev.tail; rw [if_pos hk, if_pos hk, hk]
  have hcm : cfgMay x.cfg = true := by have := kindOf hm; simpa [Ev.kindMay, hk] using this
  unfold cfgMay at hcm
  simp only [Bool.and_eq_true, decide_eq_true_eq] at hcm
  obtain ⟨⟨⟨hm1, hm2, hm3⟩, hm4, hm5⟩, hm6, hm7⟩ := hcm
  have hB0 := BoxAt.new w (x.cells t r) 32
  have hx' := hx.keep ((Fr.refl w).alloc (.cells (x.cells t r) 32))
  unfold Ev.cells at hB0 hx'
  unfold Ev.val at hch hx' ⊢
  rw [hby]
  unfold cfgBytes
  obtain ⟨xk, xc, xi, xo, xrk, xrv, xt, xr, ⟨m, o1, o2, o3, pa, cu, me⟩⟩ := x
  simp only at hm1 hm2 hm3 hm4 hm5 hm6 hm7 hk hch hB0 hx' ⊢
  subst hk
  obtain ⟨n1, rfl⟩ := Int.eq_ofNat_of_zero_le (show 0 ≤ o1 by omega)
  obtain ⟨n2, rfl⟩ := Int.eq_ofNat_of_zero_le (show 0 ≤ o2 by omega)
  obtain ⟨n3, rfl⟩ := Int.eq_ofNat_of_zero_le (show 0 ≤ o3 by omega)
  have hbits : bitsOf pa cu me = b2n pa 1 + b2n cu 2 + b2n me 4 := by cases pa <;> cases cu <;> cases me <;> rfl
  rw [hbits]
  have hp1 : b2n pa 1 ≤ 1 := by cases pa <;> simp [b2n]
  have hp2 : b2n cu 2 ≤ 2 := by cases cu <;> simp [b2n]
  have hp4 : b2n me 4 ≤ 4 := by cases me <;> simp [b2n]
  have h1 : ∀ W : World, Calls Tryd.prog 27 #[.bool pa, .int .i64 1] W fun e w' => e = .returned (.int .i64 (b2n pa 1 : Nat)) ∧ W = w' := fun W => bit_n _ 1 W
  have H1 := Lib.hid h1
  clear h1
  have h2 : ∀ W : World, Calls Tryd.prog 27 #[.bool cu, .int .i64 2] W fun e w' => e = .returned (.int .i64 (b2n cu 2 : Nat)) ∧ W = w' := fun W => bit_n _ 2 W
  have H2 := Lib.hid h2
  clear h2
  have h4 : ∀ W : World, Calls Tryd.prog 27 #[.bool me, .int .i64 4] W fun e w' => e = .returned (.int .i64 (b2n me 4 : Nat)) ∧ W = w' := fun W => bit_n _ 4 W
  have H4 := Lib.hid h4
  clear h4
  generalize b2n pa 1 = p1 at hp1 H1 ⊢
  generalize b2n cu 2 = p2 at hp2 H2 ⊢
  generalize b2n me 4 = p4 at hp4 H4 ⊢
  have HC := Lib.hid hch
  clear hch hm hx hby hbits ok
  go_enter Tryd.func11, Tryd.ntmps11
  go_wp2_with ((with_reducible refine wpList_here (.load 32 (.tmp 1)) rfl ?_); refine wpList_load_box 32 (.tmp 1) rfl _ rfl _ hB0 _ Tryd.underlying32 rfl Tryd.infoEv rfl ?_)
  refine (HC.out _ hx').mono ?_
  rintro e w1 ⟨rfl, hb⟩
  have hB1 := hB0.fr hb
  have hf1 : Fr w w1 := ((Fr.refl w).alloc _).trans hb
  have d0 := hB1.at 0 rfl
  have d12 := hB1.at 12 rfl
  have d13 := hB1.at 13 rfl
  have d14 := hB1.at 14 rfl
  have d15 := hB1.at 15 rfl
  have d16 := hB1.at 16 rfl
  have d17 := hB1.at 17 rfl
  have d18 := hB1.at 18 rfl
  have hz1 := hB1.lt
  clear hB0 hb hx' HC
  go_wp2_with ((with_reducible refine wpList_here (.store 30 (.tmp 4) (.tmp 22)) rfl ?_); refine wpList_store_new 30 (.tmp 4) (.tmp 22) rfl _ _ _ rfl rfl rfl Tryd.infoCfg rfl (Cfg.oneCell m n1 n2 n3 pa cu me) rfl rfl ?_)
  have hBc := BoxAt.new w1 #[.int .u8 m, .int .i64 n1, .int .i64 n2, .int .i64 n3, .bool pa, .bool cu, .bool me] 30
  have e0 := FrW.cell (hBc.at 0 rfl)
  have e1 := FrW.cell (hBc.at 1 rfl)
  have e2 := FrW.cell (hBc.at 2 rfl)
  have e3 := FrW.cell (hBc.at 3 rfl)
  have e4 := FrW.cell (hBc.at 4 rfl)
  have e5 := FrW.cell (hBc.at 5 rfl)
  have e6 := FrW.cell (hBc.at 6 rfl)
  clear d0 d12 d13 d14 d15 d16 d17 d18 hB1
  have hbl := be_len
  refine wp_region_fr (by kernel_rfl) (by kernel_rfl) ?_
  repeat (go_big_quiet_step ((first | (go_at_call_of 27 (Value.bool pa); exact frq' (H1.out _)) | (go_at_call_of 27 (Value.bool cu); exact frq' (H2.out _)) | (go_at_call_of 27 (Value.bool me); exact frq' (H4.out _)) | (go_at_call_of 26 (Value.int IntKind.i64 m); exact frq (n1_e m _ _ rfl (by omega))) | (go_at_call_of 26 (Value.int IntKind.i64 n1); exact frq (n1_e n1 _ _ rfl (by omega))) | (go_at_call_of 26 (Value.int IntKind.i64 n2); exact frq (n2_e n2 _ _ rfl (by omega))) | (go_at_call_of 26 (Value.int IntKind.i64 n3); exact frq (n4_e n3 _ _ rfl (by omega))) | (go_at_call 26; exact frq (n1_e (p1 + p2 + p4) _ _ (by omega) (by omega))))))
  refine wpQuiet_nil ?_
  rintro _ ⟨⟨w2, hf2⟩, rfl⟩
  go_wp2_with fail
  go_ret2
  exact ⟨ret_str0 (by simp [be_one, List.append_assoc]), (hf1.alloc _).trans hf2⟩
end Go.Proofs.YtgbaanioppblhaaDoor
