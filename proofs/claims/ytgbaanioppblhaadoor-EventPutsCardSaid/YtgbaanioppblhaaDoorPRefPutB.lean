/- umpireref05.Put of kinds 2, 3, 4, 7. Of events that may be. -/
import Derived.Test.YtgbaanioppblhaaDoorPRefPutA
import Derived.Test.YtgbaanioppblhaaDoorPOpTake
import Derived.Test.YtgbaanioppblhaaDoorPEvPutK
import Derived.Test.YtgbaanioppblhaaDoorPRefMay
set_option linter.all false
set_option linter.unusedVariables false
set_option linter.unusedSimpArgs false
set_option linter.unnecessarySimpa false
/- umpireref05.Put of kinds 2, 3, 4, 7. Of events that may be. -/
namespace Go.Proofs.YtgbaanioppblhaaDoor
open Go.RowKit

set_option maxRecDepth 100000 in
set_option maxHeartbeats 2000000 in
theorem rPut_4 (x : Ev) (t r : Value) (w : World) (hx : EvAt w (x.val t r) x) (ht : RdM w t x.txn) (hr : RdR w r x.reads) (ok : x.Ok) (hm : x.may = true) (hk : x.kind = 4) :
    Calls Tryd.prog 11 #[x.val t r] w fun e w' => e = .returned (.tuple #[.string ⟨x.bytes.toArray⟩, .int .i64 0]) ∧ Fr w w' := by
  have hch := fun W hx => rMayE_c x (x.val t r) W hx ok
  rw [hm] at hch
  have hkm := kindOf hm
  have hby : x.bytes = be 4 1 ++ be x.client 1 ++ be x.id 2 ++ [] := by simp [Ev.bytes, Ev.head, Ev.tail, hk]
  simp only [Ev.kindMay, hk] at hkm
  have hcl := ok.client
  have hid := ok.id
  have hB0 := BoxAt.new w (x.cells t r) 32
  have hx' := hx.keep ((Fr.refl w).alloc (.cells (x.cells t r) 32))
  unfold Ev.cells at hB0 hx'
  unfold Ev.val at hch hx' ⊢
  rw [hby]
  obtain ⟨xk, xc, xi, ⟨oF, oO, oK, oA, oB⟩, xrk, xrv, xt, xr, ⟨m, o1, o2, o3, pa, cu, me⟩⟩ := x
  simp only at *
  subst hk
  have HC := Lib.hid hch
  have hbl := be_len
  clear hch hm hx hby ok
  go_enter Tryd.func11, Tryd.ntmps11
  go_wp2_with ((with_reducible refine wpList_here (.load 32 (.tmp 1)) rfl ?_); refine wpList_load_box 32 (.tmp 1) rfl _ rfl _ hB0 _ Tryd.underlying32 rfl Tryd.infoEv rfl ?_)
  refine (HC.out _ hx').mono ?_
  rintro e w1 ⟨rfl, hb⟩
  have hB1 := hB0.fr hb
  have hf1 : Fr w w1 := ((Fr.refl w).alloc _).trans hb
  have d0 := hB1.at 0 rfl
  have hz1 := hB1.lt
  clear hB0 hb hx' HC
  go_wp2_with fail
  have e0 := FrW.cell (hB1.at 0 rfl)
  have e1 := FrW.cell (hB1.at 1 rfl)
  have e2 := FrW.cell (hB1.at 2 rfl)
  clear d0
  refine wp_region_fr (by kernel_rfl) (by kernel_rfl) ?_
  repeat (go_big_quiet_step ((first | (go_at_call_of 26 (Value.int IntKind.i64 xc); exact frq (n1_e xc _ _ rfl (by omega))) | (go_at_call_of 26 (Value.int IntKind.i64 xi); exact frq (n2_e xi _ _ rfl (by omega))) | (go_at_call 26; exact frq (n1_e 4 _ _ rfl (by omega))))))
  refine wpQuiet_nil ?_
  rintro w2 ⟨⟨_, hf2'⟩, rfl⟩
  have hB2 := hB1.fr hf2'
  have hf2 : Fr w w2 := hf1.trans hf2'
  have d0 := hB2.at 0 rfl
  have hz2 := hB2.lt
  clear hB1 hf1 e0 e1 e2 hz1 hf2'
  go_wp2_with fail
  go_ret2
  exact ⟨ret_str0 (by simp [List.append_assoc]), hf2⟩
set_option maxRecDepth 100000 in
set_option maxHeartbeats 2000000 in
theorem rPut_7 (x : Ev) (t r : Value) (w : World) (hx : EvAt w (x.val t r) x) (ht : RdM w t x.txn) (hr : RdR w r x.reads) (ok : x.Ok) (hm : x.may = true) (hk : x.kind = 7) :
    Calls Tryd.prog 11 #[x.val t r] w fun e w' => e = .returned (.tuple #[.string ⟨x.bytes.toArray⟩, .int .i64 0]) ∧ Fr w w' := by
  have hch := fun W hx => rMayE_c x (x.val t r) W hx ok
  rw [hm] at hch
  have hkm := kindOf hm
  have hby : x.bytes = be 7 1 ++ be x.client 1 ++ be x.id 2 ++ [] := by simp [Ev.bytes, Ev.head, Ev.tail, hk]
  simp only [Ev.kindMay, hk] at hkm
  have hcl := ok.client
  have hid := ok.id
  have hB0 := BoxAt.new w (x.cells t r) 32
  have hx' := hx.keep ((Fr.refl w).alloc (.cells (x.cells t r) 32))
  unfold Ev.cells at hB0 hx'
  unfold Ev.val at hch hx' ⊢
  rw [hby]
  obtain ⟨xk, xc, xi, ⟨oF, oO, oK, oA, oB⟩, xrk, xrv, xt, xr, ⟨m, o1, o2, o3, pa, cu, me⟩⟩ := x
  simp only at *
  subst hk
  have HC := Lib.hid hch
  have hbl := be_len
  clear hch hm hx hby ok
  go_enter Tryd.func11, Tryd.ntmps11
  go_wp2_with ((with_reducible refine wpList_here (.load 32 (.tmp 1)) rfl ?_); refine wpList_load_box 32 (.tmp 1) rfl _ rfl _ hB0 _ Tryd.underlying32 rfl Tryd.infoEv rfl ?_)
  refine (HC.out _ hx').mono ?_
  rintro e w1 ⟨rfl, hb⟩
  have hB1 := hB0.fr hb
  have hf1 : Fr w w1 := ((Fr.refl w).alloc _).trans hb
  have d0 := hB1.at 0 rfl
  have hz1 := hB1.lt
  clear hB0 hb hx' HC
  go_wp2_with fail
  have e0 := FrW.cell (hB1.at 0 rfl)
  have e1 := FrW.cell (hB1.at 1 rfl)
  have e2 := FrW.cell (hB1.at 2 rfl)
  clear d0
  refine wp_region_fr (by kernel_rfl) (by kernel_rfl) ?_
  repeat (go_big_quiet_step ((first | (go_at_call_of 26 (Value.int IntKind.i64 xc); exact frq (n1_e xc _ _ rfl (by omega))) | (go_at_call_of 26 (Value.int IntKind.i64 xi); exact frq (n2_e xi _ _ rfl (by omega))) | (go_at_call 26; exact frq (n1_e 7 _ _ rfl (by omega))))))
  refine wpQuiet_nil ?_
  rintro w2 ⟨⟨_, hf2'⟩, rfl⟩
  have hB2 := hB1.fr hf2'
  have hf2 : Fr w w2 := hf1.trans hf2'
  have d0 := hB2.at 0 rfl
  have hz2 := hB2.lt
  clear hB1 hf1 e0 e1 e2 hz1 hf2'
  go_wp2_with fail
  go_ret2
  exact ⟨ret_str0 (by simp [List.append_assoc]), hf2⟩
set_option maxRecDepth 100000 in
set_option maxHeartbeats 2000000 in
theorem rPut_2 (x : Ev) (t r : Value) (w : World) (hx : EvAt w (x.val t r) x) (ht : RdM w t x.txn) (hr : RdR w r x.reads) (ok : x.Ok) (hm : x.may = true) (hk : x.kind = 2) :
    Calls Tryd.prog 11 #[x.val t r] w fun e w' => e = .returned (.tuple #[.string ⟨x.bytes.toArray⟩, .int .i64 0]) ∧ Fr w w' := by
  have hch := fun W hx => rMayE_c x (x.val t r) W hx ok
  rw [hm] at hch
  have hkm := kindOf hm
  have hby : x.bytes = be 2 1 ++ be x.client 1 ++ be x.id 2 ++ opBytes x.op.F x.op.O x.op.K x.op.A x.op.B := by simp [Ev.bytes, Ev.head, Ev.tail, hk]
  simp only [Ev.kindMay, hk] at hkm
  have hcl := ok.client
  have hid := ok.id
  have h1 := fun W => rPut_c x.op.F x.op.O x.op.K x.op.A x.op.B W (by have := ok.F; omega) ok.A ok.B
  have h2 : putOp x.op.F x.op.O x.op.K x.op.A x.op.B = (opBytes x.op.F x.op.O x.op.K x.op.A x.op.B, 0) := if_pos (show x.op.may = true by simpa using hkm)
  rw [h2] at h1
  have H1 := Lib.hid h1
  have hlo : (opBytes x.op.F x.op.O x.op.K x.op.A x.op.B).length ≤ 7 := by
    unfold opBytes
    simp only [List.length_append, List.length_cons, List.length_nil]
    have a1 : (if hasK x.op.F then [UInt8.ofNat x.op.K] else []).length ≤ 1 := by split <;> simp
    have a2 : (if hasA x.op.F then be x.op.A 2 else []).length ≤ 2 := by split <;> simp [be_len]
    have a3 : (if hasB x.op.F then be x.op.B 2 else []).length ≤ 2 := by split <;> simp [be_len]
    omega
  clear h1 h2 hkm
  have hB0 := BoxAt.new w (x.cells t r) 32
  have hx' := hx.keep ((Fr.refl w).alloc (.cells (x.cells t r) 32))
  unfold Ev.cells at hB0 hx'
  unfold Ev.val at hch hx' ⊢
  rw [hby]
  obtain ⟨xk, xc, xi, ⟨oF, oO, oK, oA, oB⟩, xrk, xrv, xt, xr, ⟨m, o1, o2, o3, pa, cu, me⟩⟩ := x
  simp only at *
  subst hk
  have HC := Lib.hid hch
  have hbl := be_len
  clear hch hm hx hby ok
  go_enter Tryd.func11, Tryd.ntmps11
  go_wp2_with ((with_reducible refine wpList_here (.load 32 (.tmp 1)) rfl ?_); refine wpList_load_box 32 (.tmp 1) rfl _ rfl _ hB0 _ Tryd.underlying32 rfl Tryd.infoEv rfl ?_)
  refine (HC.out _ hx').mono ?_
  rintro e w1 ⟨rfl, hb⟩
  have hB1 := hB0.fr hb
  have hf1 : Fr w w1 := ((Fr.refl w).alloc _).trans hb
  have d0 := hB1.at 0 rfl
  have hz1 := hB1.lt
  clear hB0 hb hx' HC
  go_wp2_with fail
  have e0 := FrW.cell (hB1.at 0 rfl)
  have e1 := FrW.cell (hB1.at 1 rfl)
  have e2 := FrW.cell (hB1.at 2 rfl)
  clear d0
  refine wp_region_fr (by kernel_rfl) (by kernel_rfl) ?_
  repeat (go_big_quiet_step ((first | (go_at_call_of 26 (Value.int IntKind.i64 xc); exact frq (n1_e xc _ _ rfl (by omega))) | (go_at_call_of 26 (Value.int IntKind.i64 xi); exact frq (n2_e xi _ _ rfl (by omega))) | (go_at_call 26; exact frq (n1_e 2 _ _ rfl (by omega))))))
  refine wpQuiet_nil ?_
  rintro w2 ⟨⟨_, hf2'⟩, rfl⟩
  have hB2 := hB1.fr hf2'
  have hf2 : Fr w w2 := hf1.trans hf2'
  have d0 := hB2.at 0 rfl
  have hz2 := hB2.lt
  clear hB1 hf1 e0 e1 e2 hz1 hf2'
  have d3 := hB2.at 3 rfl
  have d4 := hB2.at 4 rfl
  have d5 := hB2.at 5 rfl
  have d6 := hB2.at 6 rfl
  have d7 := hB2.at 7 rfl
  go_wp2_with fail
  refine (H1.out _).mono ?_
  rintro e w3 ⟨rfl, hb3⟩
  have hf3 := hf2.trans hb3
  go_wp2_with fail
  go_ret2
  exact ⟨ret_str0 (by simp [List.append_assoc]), hf3⟩
set_option maxRecDepth 100000 in
set_option maxHeartbeats 2000000 in
theorem rPut_3 (x : Ev) (t r : Value) (w : World) (hx : EvAt w (x.val t r) x) (ht : RdM w t x.txn) (hr : RdR w r x.reads) (ok : x.Ok) (hm : x.may = true) (hk : x.kind = 3) :
    Calls Tryd.prog 11 #[x.val t r] w fun e w' => e = .returned (.tuple #[.string ⟨x.bytes.toArray⟩, .int .i64 0]) ∧ Fr w w' := by
  have hch := fun W hx => rMayE_c x (x.val t r) W hx ok
  rw [hm] at hch
  have hkm := kindOf hm
  have hby : x.bytes = be 3 1 ++ be x.client 1 ++ be x.id 2 ++ resBytes x.rk x.rv := by simp [Ev.bytes, Ev.head, Ev.tail, hk]
  simp only [Ev.kindMay, hk] at hkm
  have hcl := ok.client
  have hid := ok.id
  have h1 := fun W => rResPut_c x.rk x.rv W ok.rk ok.rv
  have h2 : putRes x.rk x.rv = (resBytes x.rk x.rv, 0) := if_pos (by simpa using hkm)
  rw [h2] at h1
  have H1 := Lib.hid h1
  have hlo : (resBytes x.rk x.rv).length ≤ 3 := by unfold resBytes; split <;> simp [be_len]
  clear h1 h2 hkm
  have hB0 := BoxAt.new w (x.cells t r) 32
  have hx' := hx.keep ((Fr.refl w).alloc (.cells (x.cells t r) 32))
  unfold Ev.cells at hB0 hx'
  unfold Ev.val at hch hx' ⊢
  rw [hby]
  obtain ⟨xk, xc, xi, ⟨oF, oO, oK, oA, oB⟩, xrk, xrv, xt, xr, ⟨m, o1, o2, o3, pa, cu, me⟩⟩ := x
  simp only at *
  subst hk
  have HC := Lib.hid hch
  have hbl := be_len
  clear hch hm hx hby ok
  go_enter Tryd.func11, Tryd.ntmps11
  go_wp2_with ((with_reducible refine wpList_here (.load 32 (.tmp 1)) rfl ?_); refine wpList_load_box 32 (.tmp 1) rfl _ rfl _ hB0 _ Tryd.underlying32 rfl Tryd.infoEv rfl ?_)
  refine (HC.out _ hx').mono ?_
  rintro e w1 ⟨rfl, hb⟩
  have hB1 := hB0.fr hb
  have hf1 : Fr w w1 := ((Fr.refl w).alloc _).trans hb
  have d0 := hB1.at 0 rfl
  have hz1 := hB1.lt
  clear hB0 hb hx' HC
  go_wp2_with fail
  have e0 := FrW.cell (hB1.at 0 rfl)
  have e1 := FrW.cell (hB1.at 1 rfl)
  have e2 := FrW.cell (hB1.at 2 rfl)
  clear d0
  refine wp_region_fr (by kernel_rfl) (by kernel_rfl) ?_
  repeat (go_big_quiet_step ((first | (go_at_call_of 26 (Value.int IntKind.i64 xc); exact frq (n1_e xc _ _ rfl (by omega))) | (go_at_call_of 26 (Value.int IntKind.i64 xi); exact frq (n2_e xi _ _ rfl (by omega))) | (go_at_call 26; exact frq (n1_e 3 _ _ rfl (by omega))))))
  refine wpQuiet_nil ?_
  rintro w2 ⟨⟨_, hf2'⟩, rfl⟩
  have hB2 := hB1.fr hf2'
  have hf2 : Fr w w2 := hf1.trans hf2'
  have d0 := hB2.at 0 rfl
  have hz2 := hB2.lt
  clear hB1 hf1 e0 e1 e2 hz1 hf2'
  have d8 := hB2.at 8 rfl
  have d9 := hB2.at 9 rfl
  go_wp2_with fail
  refine (H1.out _).mono ?_
  rintro e w3 ⟨rfl, hb3⟩
  have hf3 := hf2.trans hb3
  go_wp2_with fail
  go_ret2
  exact ⟨ret_str0 (by simp [List.append_assoc]), hf3⟩
end Go.Proofs.YtgbaanioppblhaaDoor

/- umpireref05.Put of kind 5. Of events that may be. -/
namespace Go.Proofs.YtgbaanioppblhaaDoor
open Go.RowKit

set_option maxRecDepth 100000 in
set_option maxHeartbeats 2000000 in
theorem rPut_5 (x : Ev) (t r : Value) (w : World) (hx : EvAt w (x.val t r) x) (ht : RdM w t x.txn) (hr : RdR w r x.reads) (ok : x.Ok) (hm : x.may = true) (hk : x.kind = 5) :
    Calls Tryd.prog 11 #[x.val t r] w fun e w' => e = .returned (.tuple #[.string ⟨x.bytes.toArray⟩, .int .i64 0]) ∧ Fr w w' := by
  have hch := fun W hx => rMayE_c x (x.val t r) W hx ok
  rw [hm] at hch
  have hkm := kindOf hm
  have hby : x.bytes = be 5 1 ++ be x.client 1 ++ be x.id 2 ++ (be x.txn.length 1 ++ x.txn.flatMap micBytes) := by simp [Ev.bytes, Ev.head, Ev.tail, hk]
  simp only [Ev.kindMay, hk] at hkm
  have hcl := ok.client
  have hid := ok.id
  unfold txnMay at hkm
  simp only [Nat.reduceEqDiff, if_false, if_true, Bool.and_eq_true, decide_eq_true_eq, Bool.not_eq_true', reduceIte] at hkm
  obtain ⟨⟨hk1, hk2⟩, hk3⟩ := hkm
  have hok := ok.txn
  have hM3 := Lib.hid hk3
  have hH := Lib.hid hok
  clear hk3 hok
  obtain ⟨ta, tc, rfl, htc, htm, htx⟩ := ht.lo
  unfold maxLen at htm
  obtain ⟨tb, to, rfl, _, htl, hcc⟩ := htx.resolve_left (mic_ne_nil (k := 0) (by omega))
  have hC := Lib.hid hcc
  clear htx hcc ht
  have hB0 := BoxAt.new w (x.cells (.slice (some ⟨tb, to, none⟩) x.txn.length tc) r) 32
  have hx' := hx.keep ((Fr.refl w).alloc (.cells (x.cells (.slice (some ⟨tb, to, none⟩) x.txn.length tc) r) 32))
  unfold Ev.cells at hB0 hx'
  unfold Ev.val at hch hx' ⊢
  rw [hby]
  obtain ⟨xk, xc, xi, ⟨oF, oO, oK, oA, oB⟩, xrk, xrv, xt, xr, ⟨m, o1, o2, o3, pa, cu, me⟩⟩ := x
  simp only at *
  subst hk
  have HC := Lib.hid hch
  have hbl := be_len
  clear hch hm hx hby ok
  go_enter Tryd.func11, Tryd.ntmps11
  go_wp2_with ((with_reducible refine wpList_here (.load 32 (.tmp 1)) rfl ?_); refine wpList_load_box 32 (.tmp 1) rfl _ rfl _ hB0 _ Tryd.underlying32 rfl Tryd.infoEv rfl ?_)
  refine (HC.out _ hx').mono ?_
  rintro e w1 ⟨rfl, hb⟩
  have hB1 := hB0.fr hb
  have hf1 : Fr w w1 := ((Fr.refl w).alloc _).trans hb
  have d0 := hB1.at 0 rfl
  have hz1 := hB1.lt
  clear hB0 hb hx' HC
  go_wp2_with fail
  have e0 := FrW.cell (hB1.at 0 rfl)
  have e1 := FrW.cell (hB1.at 1 rfl)
  have e2 := FrW.cell (hB1.at 2 rfl)
  clear d0
  refine wp_region_fr (by kernel_rfl) (by kernel_rfl) ?_
  repeat (go_big_quiet_step ((first | (go_at_call_of 26 (Value.int IntKind.i64 xc); exact frq (n1_e xc _ _ rfl (by omega))) | (go_at_call_of 26 (Value.int IntKind.i64 xi); exact frq (n2_e xi _ _ rfl (by omega))) | (go_at_call 26; exact frq (n1_e 5 _ _ rfl (by omega))))))
  refine wpQuiet_nil ?_
  rintro w2 ⟨⟨_, hf2'⟩, rfl⟩
  have hB2 := hB1.fr hf2'
  have hf2 : Fr w w2 := hf1.trans hf2'
  have d0 := hB2.at 0 rfl
  have hz2 := hB2.lt
  clear hB1 hf1 e0 e1 e2 hz1 hf2'
  have d10 := hB2.at 10 rfl
  go_wp2_with fail
  refine (n1_e xt.length _ _ rfl (by omega)).mono ?_
  rintro e w3 ⟨rfl, hb3⟩
  have hB3 := hB2.fr hb3
  have hf3 : Fr w w3 := hf2.trans hb3
  have d10 := hB3.at 10 rfl
  have hz3 := hB3.lt
  clear hB2 hf2 d0 hz2 hb3
  go_wp2_with fail
  go_loopw [5, 10] (fun sv i wr => ∃ (k : Nat) (S : ByteArray), k ≤ xt.length ∧ i = .int .i64 k ∧ sv = .string S ∧ S.data.toList = be 5 1 ++ be xc 1 ++ be xi 2 ++ be xt.length 1 ++ (xt.take k).flatMap micBytes ∧ Fr w3 wr) (fun _ i _ => xt.length - (intOf i).toNat)
  case atStart => exact ⟨0, _, Nat.zero_le _, rfl, rfl, by simp [List.append_assoc], Fr.refl _⟩
  case round =>
    obtain ⟨k, S, hk, rfl, rfl, hS, hfr⟩ := hrel
    have d10 := (hB3.fr hfr).at 10 rfl
    have hz4 := (hB3.fr hfr).lt
    have hsz : S.size ≤ 1000 := by
      have h1 : S.size = S.data.toList.length := rfl
      have h2 := flatMic_len (xt.take k)
      rw [h1, hS]
      simp only [List.length_append, be_len, List.length_take] at h2 ⊢
      omega
    by_cases hlt : k < xt.length
    · obtain ⟨c0, c1, c2⟩ := micCells_at xt k hlt
      have hfw := hf3.trans hfr
      have c0 := hfw.keep (hC.out _ _ c0)
      have c1 := hfw.keep (hC.out _ _ c1)
      have c2 := hfw.keep (hC.out _ _ c2)
      simp only [← Nat.add_assoc] at c1 c2
      have hkc : k < tc := by omega
      have hgk := goodMic hM3.out hlt
      have hok1 := (hH.out _ (List.getElem_mem hlt)).2
      have hT := Lib.hid (List.take_succ_eq_append_getElem hlt)
      generalize xt[k] = mm at c0 c1 c2 hgk hok1 hT
      obtain ⟨rd, key, mv⟩ := mm
      simp only at c0 c1 c2 hgk hok1
      have HS := Lib.hid hS
      clear hS
      have hBm := BoxAt.new wr #[.bool rd, .int .u8 key, .int .u16 mv] 48
      have e0 := FrW.cell (hBm.at 0 rfl)
      have e1 := FrW.cell (hBm.at 1 rfl)
      cases rd
      · have h1 : ∀ W : World, Calls Tryd.prog 27 #[.bool false, .int .i64 128] W fun e w' => e = .returned (.int .i64 0) ∧ W = w' := fun W => bit_c false 128 W
        have H1 := Lib.hid h1
        clear h1
        go_wp2_with fail
        refine wp_region_fr (by kernel_rfl) (by kernel_rfl) ?_
        repeat (go_big_quiet_step ((first | (go_at_call 27; exact frq' (H1.out _)) | (go_at_call 26; exact frq (n1_e key _ _ (by omega) (by omega))))))
        refine wpQuiet_nil ?_
        rintro w4 ⟨⟨_, hf4⟩, rfl⟩
        have e0 := (hBm.fr hf4).at 0 rfl
        have e2 := (hBm.fr hf4).at 2 rfl
        have hz5 := (hBm.fr hf4).lt
        go_wp2_with fail
        refine (n2_e mv _ _ rfl (by omega)).mono ?_
        rintro e w5 ⟨rfl, hb5⟩
        go_wp2_with fail
        go_roundw
        case rel => exact ⟨k + 1, _, by omega, by go_num, rfl, by rw [hT.out, List.flatMap_append, ← List.append_assoc, ← HS.out]; simp [micBytes, List.append_assoc], (hfr.alloc _).trans (hf4.trans hb5)⟩
        case measure => simp [intOf]; omega
      · have h1 : ∀ W : World, Calls Tryd.prog 27 #[.bool true, .int .i64 128] W fun e w' => e = .returned (.int .i64 128) ∧ W = w' := fun W => bit_c true 128 W
        have H1 := Lib.hid h1
        clear h1
        go_wp2_with fail
        refine wp_region_fr (by kernel_rfl) (by kernel_rfl) ?_
        repeat (go_big_quiet_step ((first | (go_at_call 27; exact frq' (H1.out _)) | (go_at_call 26; exact frq (n1_e (key + 128) _ _ (by omega) (by omega))))))
        refine wpQuiet_nil ?_
        rintro w4 ⟨⟨_, hf4⟩, rfl⟩
        have e0 := (hBm.fr hf4).at 0 rfl
        have hz5 := (hBm.fr hf4).lt
        go_wp2_with fail
        go_roundw
        case rel => exact ⟨k + 1, _, by omega, by go_num, rfl, by rw [hT.out, List.flatMap_append, ← List.append_assoc, ← HS.out]; simp [micBytes], (hfr.alloc _).trans hf4⟩
        case measure => simp [intOf]; omega
    · have HS := Lib.hid hS
      clear hS
      go_wp2_with fail
      go_ret2
      exact ⟨ret_str0 (by rw [HS.out, List.take_of_length_le (by omega)]; simp [List.append_assoc]), hf3.trans hfr⟩
end Go.Proofs.YtgbaanioppblhaaDoor

/- umpireref05.Put of kind 6. Of events that may be. -/
namespace Go.Proofs.YtgbaanioppblhaaDoor
open Go.RowKit

set_option maxRecDepth 100000 in
set_option maxHeartbeats 2000000 in
theorem rPut_6 (x : Ev) (t r : Value) (w : World) (hx : EvAt w (x.val t r) x) (ht : RdM w t x.txn) (hr : RdR w r x.reads) (ok : x.Ok) (hm : x.may = true) (hk : x.kind = 6) :
    Calls Tryd.prog 11 #[x.val t r] w fun e w' => e = .returned (.tuple #[.string ⟨x.bytes.toArray⟩, .int .i64 0]) ∧ Fr w w' := by
  have hch := fun W hx => rMayE_c x (x.val t r) W hx ok
  rw [hm] at hch
  have hkm := kindOf hm
  have hby : x.bytes = be 6 1 ++ be x.client 1 ++ be x.id 2 ++ (be x.reads.length 1 ++ x.reads.flatMap listBytes) := by simp [Ev.bytes, Ev.head, Ev.tail, hk]
  simp only [Ev.kindMay, hk] at hkm
  have hcl := ok.client
  have hid := ok.id
  unfold readsMay at hkm
  simp only [Nat.reduceEqDiff, if_false, if_true, Bool.and_eq_true, decide_eq_true_eq, Bool.not_eq_true', reduceIte] at hkm
  obtain ⟨hk2, hk3⟩ := hkm
  have hok := ok.reads
  have hM3 := Lib.hid hk3
  have hM4 := Lib.hid (fun k => flatList_len _ (any_takeL hk3 k))
  have hH := Lib.hid hok
  clear hk3 hok
  have hsl : ∃ ra rc, r = .slice ra x.reads.length rc := by obtain ⟨_, _, ⟨a, c, h, _⟩, _⟩ := hr; exact ⟨a, c, h⟩
  obtain ⟨ra, rc, rfl⟩ := hsl
  have hB0 := BoxAt.new w (x.cells t (.slice ra x.reads.length rc)) 32
  have hx' := hx.keep ((Fr.refl w).alloc (.cells (x.cells t (.slice ra x.reads.length rc)) 32))
  unfold Ev.cells at hB0 hx'
  unfold Ev.val at hch hx' ⊢
  rw [hby]
  obtain ⟨xk, xc, xi, ⟨oF, oO, oK, oA, oB⟩, xrk, xrv, xt, xr, ⟨m, o1, o2, o3, pa, cu, me⟩⟩ := x
  simp only at *
  subst hk
  have HC := Lib.hid hch
  have hbl := be_len
  clear hch hm hx hby ok
  go_enter Tryd.func11, Tryd.ntmps11
  go_wp2_with ((with_reducible refine wpList_here (.load 32 (.tmp 1)) rfl ?_); refine wpList_load_box 32 (.tmp 1) rfl _ rfl _ hB0 _ Tryd.underlying32 rfl Tryd.infoEv rfl ?_)
  refine (HC.out _ hx').mono ?_
  rintro e w1 ⟨rfl, hb⟩
  have hB1 := hB0.fr hb
  have hf1 : Fr w w1 := ((Fr.refl w).alloc _).trans hb
  have d0 := hB1.at 0 rfl
  have hz1 := hB1.lt
  clear hB0 hb hx' HC
  go_wp2_with fail
  have e0 := FrW.cell (hB1.at 0 rfl)
  have e1 := FrW.cell (hB1.at 1 rfl)
  have e2 := FrW.cell (hB1.at 2 rfl)
  clear d0
  refine wp_region_fr (by kernel_rfl) (by kernel_rfl) ?_
  repeat (go_big_quiet_step ((first | (go_at_call_of 26 (Value.int IntKind.i64 xc); exact frq (n1_e xc _ _ rfl (by omega))) | (go_at_call_of 26 (Value.int IntKind.i64 xi); exact frq (n2_e xi _ _ rfl (by omega))) | (go_at_call 26; exact frq (n1_e 6 _ _ rfl (by omega))))))
  refine wpQuiet_nil ?_
  rintro w2 ⟨⟨_, hf2'⟩, rfl⟩
  have hB2 := hB1.fr hf2'
  have hf2 : Fr w w2 := hf1.trans hf2'
  have d0 := hB2.at 0 rfl
  have hz2 := hB2.lt
  clear hB1 hf1 e0 e1 e2 hz1 hf2'
  have d11 := hB2.at 11 rfl
  go_wp2_with fail
  refine (n1_e xr.length _ _ rfl (by omega)).mono ?_
  rintro e w3 ⟨rfl, hb3⟩
  have hB3 := hB2.fr hb3
  have hf3 : Fr w w3 := hf2.trans hb3
  have d11 := hB3.at 11 rfl
  have hz3 := hB3.lt
  clear hB2 hf2 d0 hz2 hb3
  go_wp2_with fail
  go_loopw [5, 12] (fun sv i wr => ∃ (k : Nat) (S : ByteArray), k ≤ xr.length ∧ i = .int .i64 k ∧ sv = .string S ∧ S.data.toList = be 6 1 ++ be xc 1 ++ be xi 2 ++ be xr.length 1 ++ (xr.take k).flatMap listBytes ∧ Fr w3 wr) (fun _ i _ => xr.length - (intOf i).toNat)
  case atStart => exact ⟨0, _, Nat.zero_le _, rfl, rfl, by simp [List.append_assoc], Fr.refl _⟩
  case round =>
    obtain ⟨k, S, hk, rfl, rfl, hS, hfr⟩ := hrel
    have d11 := (hB3.fr hfr).at 11 rfl
    have hz4 := (hB3.fr hfr).lt
    have hsz : S.size ≤ 1000 := by
      have h1 : S.size = S.data.toList.length := rfl
      have h2 := hM4.out k
      rw [h1, hS]
      simp only [List.length_append, be_len, List.length_take] at h2 ⊢
      omega
    by_cases hlt : k < xr.length
    · have hfw := hf3.trans hfr
      obtain ⟨b, o, rc', u, hre, hcap, hmx, hbl2, hc, hu⟩ := RdR.at' (hr.keep hfw) hlt
      obtain ⟨rfl, rfl⟩ : ra = some ⟨b, o, none⟩ ∧ rc = rc' := by cases hre; exact ⟨rfl, rfl⟩
      unfold maxLen at hmx
      have hkc : k < rc := by omega
      have hgk := goodList hM3.out hlt
      have hok1 := hH.out _ (List.getElem_mem hlt)
      have hT := Lib.hid (List.take_succ_eq_append_getElem hlt)
      generalize xr[k] = m at hu hgk hok1 hT
      have HS := Lib.hid hS
      have h1 := rListPut_c u m wr hu hok1
      rw [show putList m = (listBytes m, 0) from if_neg (by omega)] at h1
      have H1 := Lib.hid h1
      have hlo : (listBytes m).length ≤ 65 := by rw [listBytes_len]; omega
      clear hS hre h1
      go_wp2_with fail
      refine H1.out.mono ?_
      rintro e w4 ⟨rfl, hb4⟩
      go_wp2_with fail
      go_roundw
      case rel => exact ⟨k + 1, _, by omega, by go_num, rfl, by rw [hT.out, List.flatMap_append, ← List.append_assoc, ← HS.out]; simp [List.append_assoc], hfr.trans hb4⟩
      case measure => simp [intOf]; omega
    · have HS := Lib.hid hS
      clear hS
      go_wp2_with fail
      go_ret2
      exact ⟨ret_str0 (by rw [HS.out, List.take_of_length_le (by omega)]; simp [List.append_assoc]), hf3.trans hfr⟩
end Go.Proofs.YtgbaanioppblhaaDoor

/- umpireref05.Put, whole. No condition but that the event can be read, and its numbers' bounds. -/
namespace Go.Proofs.YtgbaanioppblhaaDoor
open Go.RowKit

theorem rPutE_c (x : Ev) (v : Value) (w : World) (hx : EvAt w v x) (ok : x.Ok) :
    Calls Tryd.prog 11 #[v] w fun e w' => e = .returned (.tuple #[.string ⟨x.put.1.toArray⟩, .int .i64 x.put.2]) ∧ Fr w w' := by
  obtain ⟨⟨t, r, rfl, ht, hr⟩⟩ := hx
  have hx : EvAt w (x.val t r) x := ⟨t, r, rfl, ht, hr⟩
  cases hm : x.may
  · rw [show x.put = ([], 4) by unfold Ev.put; rw [hm]; rfl]
    exact rPut_none x t r w hx ok hm
  · rw [show x.put = (x.bytes, 0) by unfold Ev.put; rw [hm]; rfl]
    have hkm := kindOf hm
    have hk : 1 ≤ x.kind ∧ x.kind ≤ 7 := by
      refine Classical.byContradiction fun h => ?_
      have h1 : x.kind ≠ 1 := by omega
      have h2 : x.kind ≠ 2 := by omega
      have h3 : x.kind ≠ 3 := by omega
      have h4 : x.kind ≠ 4 := by omega
      have h5 : x.kind ≠ 5 := by omega
      have h6 : x.kind ≠ 6 := by omega
      have h7 : x.kind ≠ 7 := by omega
      simp [Ev.kindMay, h1, h2, h3, h4, h5, h6, h7] at hkm
    rcases (show x.kind = 1 ∨ x.kind = 2 ∨ x.kind = 3 ∨ x.kind = 4 ∨ x.kind = 5 ∨ x.kind = 6 ∨ x.kind = 7 by omega) with h | h | h | h | h | h | h
    · exact rPut_1 x t r w hx ok hm h
    · exact rPut_2 x t r w hx ht hr ok hm h
    · exact rPut_3 x t r w hx ht hr ok hm h
    · exact rPut_4 x t r w hx ht hr ok hm h
    · exact rPut_5 x t r w hx ht hr ok hm h
    · exact rPut_6 x t r w hx ht hr ok hm h
    · exact rPut_7 x t r w hx ht hr ok hm h
end Go.Proofs.YtgbaanioppblhaaDoor
