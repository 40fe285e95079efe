/- umpireref05.May, whole. No condition but that the event can be read, and its numbers' bounds. -/
import Derived.Test.YtfklgaeejmeipaaGreatDoorPEvCheck
import Derived.Test.YtfklgaeejmeipaaGreatDoorPRefMayR
import Derived.Test.YtfklgaeejmeipaaGreatDoorPRefMayC
import Derived.Test.YtfklgaeejmeipaaGreatDoorPTxtRefA
import Derived.Test.YtfklgaeejmeipaaGreatDoorPTxtLen
import Derived.Test.YtfklgaeejmeipaaGreatDoorPTxtRefB
import Derived.Test.YtfklgaeejmeipaaGreatDoorPResTextW
import Derived.Deep.Cut
import Derived.Test.YtfklgaeejmeipaaGreatDoorPArms
set_option linter.all false
set_option linter.unusedVariables false
set_option linter.unusedSimpArgs false
set_option linter.unnecessarySimpa false
/- umpireref05.May, whole. No condition but that the event can be read, and its numbers' bounds. -/
namespace Go.Proofs.YtfklgaeejmeipaaGreatDoor
open Go.RowKit

set_option maxRecDepth 100000 in
theorem rMay_none (x : Ev) (t r : Value) (w : World) (h : x.kind < 1 ∨ 7 < x.kind) (hb : x.kind < 256) :
    Calls Tryz.prog 35 #[x.val t r] w fun e w' => e = .returned (.bool false) ∧ Fr w w' := by
  have h1 : ((x.kind : Int) == 1) = false := by simp; omega
  have h2 : ((x.kind : Int) == 2) = false := by simp; omega
  have h3 : ((x.kind : Int) == 3) = false := by simp; omega
  have h4 : ((x.kind : Int) == 4) = false := by simp; omega
  have h5 : ((x.kind : Int) == 5) = false := by simp; omega
  have h6 : ((x.kind : Int) == 6) = false := by simp; omega
  have h7 : ((x.kind : Int) == 7) = false := by simp; omega
  clear h hb
  obtain ⟨xk, xc, xi, xo, xrk, xrv, xtx, xrs, xcf⟩ := x
  unfold Ev.val
  simp only at *
  go_enter Tryz.func35, Tryz.ntmps35
  go_wp2_with ((with_reducible refine wpList_here (.store 32 (.tmp 3) (.tmp 13)) rfl ?_); refine wpList_store_new 32 (.tmp 3) (.tmp 13) rfl _ _ _ (by simp) rfl rfl Tryz.infoEv rfl (Ev.oneCell ⟨xk, xc, xi, .zero, 0, 0, [], [], .zero⟩ none none 0 0 0 0) rfl rfl ?_)
  go_ret
  exact ⟨rfl, ((Fr.refl w).alloc _).alloc _⟩
theorem rMayE_c (x : Ev) (v : Value) (w : World) (hx : EvAt w v x) (ok : x.Ok) :
    Calls Tryz.prog 35 #[v] w fun e w' => e = .returned (.bool x.may) ∧ Fr w w' := by
  obtain ⟨⟨t, r, rfl, ht, hr⟩⟩ := hx
  have hx : EvAt w (x.val t r) x := ⟨t, r, rfl, ht, hr⟩
  by_cases hk : 1 ≤ x.kind ∧ x.kind ≤ 7
  · rcases (show x.kind = 1 ∨ x.kind = 2 ∨ x.kind = 3 ∨ x.kind = 4 ∨ x.kind = 5 ∨ x.kind = 6 ∨ x.kind = 7 by omega) with h | h | h | h | h | h | h
    · exact rMay1_c x t r w h hx ht hr
    · exact rMay2_c x t r w h hx ht hr ok.F
    · exact rMayK3_c x t r w h hx ht hr
    · exact rMay4_c x t r w h hx ht hr
    · exact rMay5_c x t r w h hx ht hr
    · exact rMay6_c x t r w h hx ht hr
    · exact rMay7_c x t r w h hx ht hr
  · have h1 : x.kind ≠ 1 := by omega
    have h2 : x.kind ≠ 2 := by omega
    have h3 : x.kind ≠ 3 := by omega
    have h4 : x.kind ≠ 4 := by omega
    have h5 : x.kind ≠ 5 := by omega
    have h6 : x.kind ≠ 6 := by omega
    have h7 : x.kind ≠ 7 := by omega
    have hm : x.may = false := by simp [Ev.may, Ev.kindMay, h1, h2, h3, h4, h5, h6, h7]
    rw [hm]
    exact rMay_none x t r w (by omega) ok.kind
end Go.Proofs.YtfklgaeejmeipaaGreatDoor

/- The document's Line and list. No condition but the numbers' bounds. Printed by gen_refline.py. -/
namespace Go.Proofs.YtfklgaeejmeipaaGreatDoor
open Go.RowKit
attribute [local go_sem] Oper.semAt_some

theorem wp_genT {P : Program} {c : Code} {Q : Exit → Act → World → Prop} {a : Act} {w : World} (h : ∀ W, W = w → c.wp P Q a W) : c.wp P Q a w := h w rfl
theorem rangeAt_cfg {w : World} {p : Nat} {x : Ev} {t r : Value} (h : BoxAt w p (x.cells t r) 32) : w.rangeAt p 12 x.cfg.cells := fun j u hj => by
  have : j < 7 := by have := (List.getElem?_eq_some_iff.1 hj).1; exact this
  rcases (show j = 0 ∨ j = 1 ∨ j = 2 ∨ j = 3 ∨ j = 4 ∨ j = 5 ∨ j = 6 by omega) with rfl | rfl | rfl | rfl | rfl | rfl | rfl <;> (cases hj; exact h.at _ rfl)
/-- Words, each behind a blank. -/
def tails (ws : List W8) : W8 := ws.flatMap fun w => 32 :: w
theorem tails_cons (w : W8) (ws : List W8) : tails (w :: ws) = 32 :: w ++ tails ws := by unfold tails; rw [List.flatMap_cons]
theorem tails_app (ws vs : List W8) : tails (ws ++ vs) = tails ws ++ tails vs := by unfold tails; rw [List.flatMap_append]
theorem joinS_tails : ∀ (w : W8) (ws : List W8), joinS 32 (w :: ws) = w ++ tails ws
  | w, [] => by simp [joinS, tails]
  | w, v :: ws => by rw [joinS_cons 32 w (by simp), joinS_tails v ws, tails_cons]; simp
theorem line_tails (x : Ev) : x.line = kindW x.kind ++ tails (if x.kind = 1 then cfgWords x.cfg else Lib.decDigits x.client :: Lib.decDigits x.id :: x.tailW) := by
  unfold Ev.line Ev.words
  rw [join_is, joinS_tails]
theorem who_is (a b : W8) : tails [a, b] = [32] ++ a ++ [32] ++ b := by unfold tails; rw [List.flatMap_cons, List.flatMap_cons, List.flatMap_nil]; simp
theorem who_len {a b : W8} (ha : a.length ≤ 5) (hb : b.length ≤ 5) : (tails [a, b]).length ≤ 12 := by
  rw [who_is, List.length_append, List.length_append, List.length_append]
  show 1 + a.length + 1 + b.length ≤ 12
  omega
theorem who_bytes (a b : W8) : (({ data := #[32] } : ByteArray) ++ { data := a.toArray } ++ { data := #[32] } ++ { data := b.toArray }) = { data := (tails [a, b]).toArray } := by
  rw [who_is, ← mk_append, ← mk_append, ← mk_append]
theorem line_who {x : Ev} (h1 : x.kind ≠ 1) : x.line = kindW x.kind ++ (tails [Lib.decDigits x.client, Lib.decDigits x.id] ++ tails x.tailW) := by
  rw [line_tails, if_neg h1, ← tails_app]
  rfl
theorem tails_le {n : Nat} : ∀ {ws : List W8}, (∀ w ∈ ws, w.length ≤ n) → (tails ws).length ≤ ws.length * (n + 1)
  | [], _ => by simp [tails]
  | w :: ws, h => by
    have := tails_le (ws := ws) fun v hv => h v (by simp [hv])
    have hw := h w (by simp)
    rw [tails_cons, List.length_append, List.length_cons, List.length_cons, Nat.add_mul]
    omega
theorem tails_next {L : List W8} {k : Nat} (hk : k < L.length) : tails (L.take (k + 1)) = tails (L.take k) ++ [32] ++ L[k] := by
  rw [List.take_succ_eq_append_getElem hk, tails_app]
  simp [tails]
theorem mics_next {l : List Mic} {k : Nat} (hk : k < l.length) : tails (micsWords (l.take (k + 1))) = tails (micsWords (l.take k)) ++ tails (micWords l[k]) := by
  rw [List.take_succ_eq_append_getElem hk, ← tails_app]
  unfold micsWords
  rw [List.flatMap_append]
  simp
theorem mics_le {l : List Mic} (h : ∀ m ∈ l, m.key < 65536 ∧ m.v < 65536) : (tails (micsWords l)).length ≤ l.length * 24 := by
  induction l with
  | nil => simp [tails, micsWords]
  | cons m l ih =>
    have := ih fun y hy => h y (by simp [hy])
    have hm := h m (by simp)
    have h1 := decDigits_len5 hm.1
    have h2 := decDigits_len5 hm.2
    have e : micsWords (m :: l) = micWords m ++ micsWords l := by unfold micsWords; rw [List.flatMap_cons]
    have h3 : (tails (micWords m)).length ≤ 24 := by
      unfold micWords
      split
      · simp [tails, readW]; omega
      · simp [tails, appendW]; omega
    rw [e, tails_app, List.length_append, List.length_cons]
    omega
set_option maxRecDepth 100000 in
set_option maxHeartbeats 4000000 in
theorem rline_4 (x : Ev) (t r : Value) (w : World) (ht : RdM w t x.txn) (hr : RdR w r x.reads) (ok : x.Ok) (hm : x.may = true) (hk : x.kind = 4) :
    Calls Tryz.prog 12 #[x.val t r] w (StrRet w (x.line, 0)) := by
  have HL : Hid (x.line = kindW 4 ++ tails [Lib.decDigits x.client, Lib.decDigits x.id]) := Lib.hid (by rw [line_tails, if_neg (by omega), hk]; unfold Ev.tailW; rw [if_neg (by omega), if_neg (by omega), if_neg (by omega), if_neg (by omega)])
  obtain ⟨h17a, h17b⟩ := may_k17 hm
  have hci := (may_kind hm).2.1
  have hid := ok.id
  have HM := Lib.hid (fun W (h : EvAt W (x.val t r) x) => rMayE_c x (x.val t r) W h ok)
  have HE := Lib.hid (show EvAt w (x.val t r) x from ⟨t, r, rfl, ht, hr⟩)
  rw [hm] at HM
  have hl1 := decDigits_len5 (v := x.client) (by omega)
  have hl2 := decDigits_len5 (v := x.id) (by omega)
  have HD1 := Lib.hid (fun W => d06_c x.client W (by omega))
  have HD2 := Lib.hid (fun W => d06_c x.id W (by omega))
  have HK := Lib.hid hk
  clear hk
  unfold Ev.val
  go_enter Tryz.func12, Tryz.ntmps12
  go_wp2_with ((with_reducible refine wpList_here (.load 32 (.tmp 1)) rfl ?_); refine wpList_load_box 32 (.tmp 1) rfl _ rfl (x.cells t r) (BoxAt.new w _ _) _ Tryz.underlying32 rfl Tryz.infoEv rfl ?_)
  refine (HM.out _ (HE.out.keep ((Fr.refl w).alloc _))).mono ?_
  rintro e w1 ⟨rfl, f1⟩
  have HB1 : Hid (BoxAt w1 w.heap.size (x.cells t r) 32) := Lib.hid ((BoxAt.new w (x.cells t r) 32).fr f1)
  have F1 := Lib.hid (((Fr.refl w).alloc (.cells (x.cells t r) 32)).trans f1)
  have hrg : w1.rangeAt w.heap.size 12 x.cfg.cells := rangeAt_cfg HB1.out
  have hz1 := HB1.out.lt
  clear f1
  go_upto_region 4 with (first | ((with_reducible refine wpList_here (.load 30 (.tmp 18)) rfl ?_); refine wpList_load_midW 30 (.tmp 18) rfl w.heap.size 12 rfl x.cfg.cells _ hrg Tryz.underlying30 rfl Tryz.infoCfgR rfl ?_) | ((with_reducible refine wpList_here (.store 30 (.tmp 4) (.tmp 19)) rfl ?_); refine wpList_store_new 30 (.tmp 4) (.tmp 19) rfl _ x.cfg.cells.toArray _ rfl rfl rfl Tryz.infoCfgR rfl (cfgT_one _) rfl rfl ?_))
  refine wp_genT fun W hW => ?_
  have HB2 : Hid (BoxAt W w.heap.size (x.cells t r) 32) := Lib.hid (by rw [hW]; exact HB1.out.fr ((Fr.refl w1).alloc _))
  have F2 : Hid (Fr w W) := Lib.hid (by rw [hW]; exact F1.out.alloc _)
  have HC2 : Hid (BoxAt W w1.heap.size x.cfg.rowT 30) := Lib.hid (by rw [hW]; exact BoxAt.new w1 x.cfg.rowT 30)
  clear hW hrg F1 HB1
  have k1 := FrW.cell (HB2.out.at 1 (show (x.cells t r)[1]? = some (.int .u8 x.client) from rfl))
  have k2 := FrW.cell (HB2.out.at 2 (show (x.cells t r)[2]? = some (.int .u16 x.id) from rfl))
  refine wp_region_fr (by kernel_rfl) (by kernel_rfl) ?_
  repeat (go_big_quiet_step ((first | (go_at_call_of 36 (Value.int IntKind.i64 x.client); exact frq (HD1.out _)) | (go_at_call_of 36 (Value.int IntKind.i64 x.id); exact frq (HD2.out _)))))
  refine wpQuiet_nil ?_
  rintro w3 ⟨⟨_, f3⟩, rfl⟩
  have HB3 : Hid (BoxAt w3 w.heap.size (x.cells t r) 32) := Lib.hid (HB2.out.fr f3)
  have HC3 : Hid (BoxAt w3 w1.heap.size x.cfg.rowT 30) := Lib.hid (HC2.out.fr f3)
  have F3 : Hid (Fr w w3) := Lib.hid (F2.out.trans f3)
  have a0 : w3.cell? ⟨w.heap.size, 0, none⟩ = some (.int .u8 x.kind) := HB3.out.at 0 rfl
  clear f3 HB2 HC2 F2 k1 k2 HM HE HD1 HD2
  have hwl := who_len hl1 hl2
  rw [who_bytes]
  clear hl1 hl2
  generalize hW : tails [Lib.decDigits x.client, Lib.decDigits x.id] = who at hwl
  have HW := Lib.hid hW
  clear hW
  have hws := size_mk who
  have hk := HK.out
  have e1 : ((x.kind : Int) == 1) = false := by simp; omega
  have e2 : ((x.kind : Int) == 2) = false := by simp; omega
  have e3 : ((x.kind : Int) == 3) = false := by simp; omega
  have e4 : ((x.kind : Int) == 4) = true := by simp; omega
  have e5 : ((x.kind : Int) == 5) = false := by simp; omega
  have e6 : ((x.kind : Int) == 6) = false := by simp; omega
  rw [HW.out] at HL
  clear hk
  go_wp2_with fail
  go_ret2
  exact ⟨by rw [HL.out]; exact ret_str2e (by rw [mk_append]; rfl), F3.out⟩
set_option maxRecDepth 100000 in
set_option maxHeartbeats 4000000 in
theorem rline_7 (x : Ev) (t r : Value) (w : World) (ht : RdM w t x.txn) (hr : RdR w r x.reads) (ok : x.Ok) (hm : x.may = true) (hk : x.kind = 7) :
    Calls Tryz.prog 12 #[x.val t r] w (StrRet w (x.line, 0)) := by
  have HL : Hid (x.line = kindW 7 ++ tails [Lib.decDigits x.client, Lib.decDigits x.id]) := Lib.hid (by rw [line_tails, if_neg (by omega), hk]; unfold Ev.tailW; rw [if_neg (by omega), if_neg (by omega), if_neg (by omega), if_neg (by omega)])
  obtain ⟨h17a, h17b⟩ := may_k17 hm
  have hci := (may_kind hm).2.1
  have hid := ok.id
  have HM := Lib.hid (fun W (h : EvAt W (x.val t r) x) => rMayE_c x (x.val t r) W h ok)
  have HE := Lib.hid (show EvAt w (x.val t r) x from ⟨t, r, rfl, ht, hr⟩)
  rw [hm] at HM
  have hl1 := decDigits_len5 (v := x.client) (by omega)
  have hl2 := decDigits_len5 (v := x.id) (by omega)
  have HD1 := Lib.hid (fun W => d06_c x.client W (by omega))
  have HD2 := Lib.hid (fun W => d06_c x.id W (by omega))
  have HK := Lib.hid hk
  clear hk
  unfold Ev.val
  go_enter Tryz.func12, Tryz.ntmps12
  go_wp2_with ((with_reducible refine wpList_here (.load 32 (.tmp 1)) rfl ?_); refine wpList_load_box 32 (.tmp 1) rfl _ rfl (x.cells t r) (BoxAt.new w _ _) _ Tryz.underlying32 rfl Tryz.infoEv rfl ?_)
  refine (HM.out _ (HE.out.keep ((Fr.refl w).alloc _))).mono ?_
  rintro e w1 ⟨rfl, f1⟩
  have HB1 : Hid (BoxAt w1 w.heap.size (x.cells t r) 32) := Lib.hid ((BoxAt.new w (x.cells t r) 32).fr f1)
  have F1 := Lib.hid (((Fr.refl w).alloc (.cells (x.cells t r) 32)).trans f1)
  have hrg : w1.rangeAt w.heap.size 12 x.cfg.cells := rangeAt_cfg HB1.out
  have hz1 := HB1.out.lt
  clear f1
  go_upto_region 4 with (first | ((with_reducible refine wpList_here (.load 30 (.tmp 18)) rfl ?_); refine wpList_load_midW 30 (.tmp 18) rfl w.heap.size 12 rfl x.cfg.cells _ hrg Tryz.underlying30 rfl Tryz.infoCfgR rfl ?_) | ((with_reducible refine wpList_here (.store 30 (.tmp 4) (.tmp 19)) rfl ?_); refine wpList_store_new 30 (.tmp 4) (.tmp 19) rfl _ x.cfg.cells.toArray _ rfl rfl rfl Tryz.infoCfgR rfl (cfgT_one _) rfl rfl ?_))
  refine wp_genT fun W hW => ?_
  have HB2 : Hid (BoxAt W w.heap.size (x.cells t r) 32) := Lib.hid (by rw [hW]; exact HB1.out.fr ((Fr.refl w1).alloc _))
  have F2 : Hid (Fr w W) := Lib.hid (by rw [hW]; exact F1.out.alloc _)
  have HC2 : Hid (BoxAt W w1.heap.size x.cfg.rowT 30) := Lib.hid (by rw [hW]; exact BoxAt.new w1 x.cfg.rowT 30)
  clear hW hrg F1 HB1
  have k1 := FrW.cell (HB2.out.at 1 (show (x.cells t r)[1]? = some (.int .u8 x.client) from rfl))
  have k2 := FrW.cell (HB2.out.at 2 (show (x.cells t r)[2]? = some (.int .u16 x.id) from rfl))
  refine wp_region_fr (by kernel_rfl) (by kernel_rfl) ?_
  repeat (go_big_quiet_step ((first | (go_at_call_of 36 (Value.int IntKind.i64 x.client); exact frq (HD1.out _)) | (go_at_call_of 36 (Value.int IntKind.i64 x.id); exact frq (HD2.out _)))))
  refine wpQuiet_nil ?_
  rintro w3 ⟨⟨_, f3⟩, rfl⟩
  have HB3 : Hid (BoxAt w3 w.heap.size (x.cells t r) 32) := Lib.hid (HB2.out.fr f3)
  have HC3 : Hid (BoxAt w3 w1.heap.size x.cfg.rowT 30) := Lib.hid (HC2.out.fr f3)
  have F3 : Hid (Fr w w3) := Lib.hid (F2.out.trans f3)
  have a0 : w3.cell? ⟨w.heap.size, 0, none⟩ = some (.int .u8 x.kind) := HB3.out.at 0 rfl
  clear f3 HB2 HC2 F2 k1 k2 HM HE HD1 HD2
  have hwl := who_len hl1 hl2
  rw [who_bytes]
  clear hl1 hl2
  generalize hW : tails [Lib.decDigits x.client, Lib.decDigits x.id] = who at hwl
  have HW := Lib.hid hW
  clear hW
  have hws := size_mk who
  have hk := HK.out
  have e1 : ((x.kind : Int) == 1) = false := by simp; omega
  have e2 : ((x.kind : Int) == 2) = false := by simp; omega
  have e3 : ((x.kind : Int) == 3) = false := by simp; omega
  have e4 : ((x.kind : Int) == 4) = false := by simp; omega
  have e5 : ((x.kind : Int) == 5) = false := by simp; omega
  have e6 : ((x.kind : Int) == 6) = false := by simp; omega
  rw [HW.out] at HL
  clear hk
  go_wp2_with fail
  go_ret2
  exact ⟨by rw [HL.out]; exact ret_str2e (by rw [mk_append]; rfl), F3.out⟩
set_option maxRecDepth 100000 in
set_option maxHeartbeats 4000000 in
theorem rline_3 (x : Ev) (t r : Value) (w : World) (ht : RdM w t x.txn) (hr : RdR w r x.reads) (ok : x.Ok) (hm : x.may = true) (hk : x.kind = 3) :
    Calls Tryz.prog 12 #[x.val t r] w (StrRet w (x.line, 0)) := by
  have HL : Hid (x.line = kindW 3 ++ (tails [Lib.decDigits x.client, Lib.decDigits x.id] ++ tails [resText x.rk x.rv])) := Lib.hid (by rw [line_who (by omega), hk]; unfold Ev.tailW; rw [if_neg (by omega), if_pos hk])
  have HTX := Lib.hid (fun W => rText_c x.rk x.rv W ok.rv)
  rw [show textRes x.rk x.rv = (resText x.rk x.rv, 0) by
    have h1 := (may_kind hm).1
    unfold Ev.kindMay at h1
    rw [if_neg (by omega), if_neg (by omega), if_pos hk] at h1
    unfold textRes; rw [if_pos h1]] at HTX
  have htl : (resText x.rk x.rv).length ≤ 11 := by
    have h1 := resWord_len x.rk
    have h2 := decDigits_len5 ok.rv
    unfold resText
    split <;> simp <;> omega
  have htz := size_mk (resText x.rk x.rv)
  generalize resText x.rk x.rv = tx at HL HTX htl htz
  obtain ⟨h17a, h17b⟩ := may_k17 hm
  have hci := (may_kind hm).2.1
  have hid := ok.id
  have HM := Lib.hid (fun W (h : EvAt W (x.val t r) x) => rMayE_c x (x.val t r) W h ok)
  have HE := Lib.hid (show EvAt w (x.val t r) x from ⟨t, r, rfl, ht, hr⟩)
  rw [hm] at HM
  have hl1 := decDigits_len5 (v := x.client) (by omega)
  have hl2 := decDigits_len5 (v := x.id) (by omega)
  have HD1 := Lib.hid (fun W => d06_c x.client W (by omega))
  have HD2 := Lib.hid (fun W => d06_c x.id W (by omega))
  have HK := Lib.hid hk
  clear hk
  unfold Ev.val
  go_enter Tryz.func12, Tryz.ntmps12
  go_wp2_with ((with_reducible refine wpList_here (.load 32 (.tmp 1)) rfl ?_); refine wpList_load_box 32 (.tmp 1) rfl _ rfl (x.cells t r) (BoxAt.new w _ _) _ Tryz.underlying32 rfl Tryz.infoEv rfl ?_)
  refine (HM.out _ (HE.out.keep ((Fr.refl w).alloc _))).mono ?_
  rintro e w1 ⟨rfl, f1⟩
  have HB1 : Hid (BoxAt w1 w.heap.size (x.cells t r) 32) := Lib.hid ((BoxAt.new w (x.cells t r) 32).fr f1)
  have F1 := Lib.hid (((Fr.refl w).alloc (.cells (x.cells t r) 32)).trans f1)
  have hrg : w1.rangeAt w.heap.size 12 x.cfg.cells := rangeAt_cfg HB1.out
  have hz1 := HB1.out.lt
  clear f1
  go_upto_region 4 with (first | ((with_reducible refine wpList_here (.load 30 (.tmp 18)) rfl ?_); refine wpList_load_midW 30 (.tmp 18) rfl w.heap.size 12 rfl x.cfg.cells _ hrg Tryz.underlying30 rfl Tryz.infoCfgR rfl ?_) | ((with_reducible refine wpList_here (.store 30 (.tmp 4) (.tmp 19)) rfl ?_); refine wpList_store_new 30 (.tmp 4) (.tmp 19) rfl _ x.cfg.cells.toArray _ rfl rfl rfl Tryz.infoCfgR rfl (cfgT_one _) rfl rfl ?_))
  refine wp_genT fun W hW => ?_
  have HB2 : Hid (BoxAt W w.heap.size (x.cells t r) 32) := Lib.hid (by rw [hW]; exact HB1.out.fr ((Fr.refl w1).alloc _))
  have F2 : Hid (Fr w W) := Lib.hid (by rw [hW]; exact F1.out.alloc _)
  have HC2 : Hid (BoxAt W w1.heap.size x.cfg.rowT 30) := Lib.hid (by rw [hW]; exact BoxAt.new w1 x.cfg.rowT 30)
  clear hW hrg F1 HB1
  have k1 := FrW.cell (HB2.out.at 1 (show (x.cells t r)[1]? = some (.int .u8 x.client) from rfl))
  have k2 := FrW.cell (HB2.out.at 2 (show (x.cells t r)[2]? = some (.int .u16 x.id) from rfl))
  refine wp_region_fr (by kernel_rfl) (by kernel_rfl) ?_
  repeat (go_big_quiet_step ((first | (go_at_call_of 36 (Value.int IntKind.i64 x.client); exact frq (HD1.out _)) | (go_at_call_of 36 (Value.int IntKind.i64 x.id); exact frq (HD2.out _)))))
  refine wpQuiet_nil ?_
  rintro w3 ⟨⟨_, f3⟩, rfl⟩
  have HB3 : Hid (BoxAt w3 w.heap.size (x.cells t r) 32) := Lib.hid (HB2.out.fr f3)
  have HC3 : Hid (BoxAt w3 w1.heap.size x.cfg.rowT 30) := Lib.hid (HC2.out.fr f3)
  have F3 : Hid (Fr w w3) := Lib.hid (F2.out.trans f3)
  have a0 : w3.cell? ⟨w.heap.size, 0, none⟩ = some (.int .u8 x.kind) := HB3.out.at 0 rfl
  clear f3 HB2 HC2 F2 k1 k2 HM HE HD1 HD2
  have hwl := who_len hl1 hl2
  rw [who_bytes]
  clear hl1 hl2
  generalize hW : tails [Lib.decDigits x.client, Lib.decDigits x.id] = who at hwl
  have HW := Lib.hid hW
  clear hW
  have hws := size_mk who
  have hk := HK.out
  have e1 : ((x.kind : Int) == 1) = false := by simp; omega
  have e2 : ((x.kind : Int) == 2) = false := by simp; omega
  have e3 : ((x.kind : Int) == 3) = true := by simp; omega
  have e4 : ((x.kind : Int) == 4) = false := by simp; omega
  have e5 : ((x.kind : Int) == 5) = false := by simp; omega
  have e6 : ((x.kind : Int) == 6) = false := by simp; omega
  rw [HW.out] at HL
  have a8 : w3.cell? ⟨w.heap.size, 8, none⟩ = some (.int .u8 x.rk) := HB3.out.at 8 rfl
  have a9 : w3.cell? ⟨w.heap.size, 9, none⟩ = some (.int .u16 x.rv) := HB3.out.at 9 rfl
  clear hk
  go_wp2_with fail
  refine (HTX.out _).mono ?_
  rintro e w4 ⟨rfl, f4⟩
  have F4 := Lib.hid (F3.out.trans f4)
  clear f4
  go_wp2_with fail
  go_ret2
  exact ⟨by rw [HL.out]; exact ret_str2e (by rw [mk_append, mk_append, mk_append]; simp [kindW, tails]), F4.out⟩
end Go.Proofs.YtfklgaeejmeipaaGreatDoor

/- The document's list. No condition but the numbers' bounds. Printed by gen_refline.py. -/
namespace Go.Proofs.YtfklgaeejmeipaaGreatDoor
open Go.RowKit
attribute [local go_sem] Oper.semAt_some

theorem joinS_snoc (c : UInt8) : ∀ {ws : List W8} (w : W8), ws ≠ [] → joinS c (ws ++ [w]) = joinS c ws ++ c :: w
  | [], w, h => absurd rfl h
  | [v], w, _ => rfl
  | v :: u :: ws, w, _ => by
    rw [List.cons_append, joinS_cons c v (by simp), joinS_snoc c (ws := u :: ws) w (by simp), joinS_cons c v (by simp)]
    simp
def listS (l : List Nat) : W8 := joinS 44 (l.map Lib.decDigits)
theorem listS_next {l : List Nat} {k : Nat} (hk : k < l.length) (h0 : k ≠ 0) : listS (l.take (k + 1)) = listS (l.take k) ++ [44] ++ Lib.decDigits l[k] := by
  unfold listS
  rw [List.take_succ_eq_append_getElem hk, List.map_append, List.map_cons, List.map_nil, joinS_snoc]
  · simp
  · intro e
    have := congrArg List.length e
    rw [List.length_map, List.length_take, Nat.min_eq_left (by omega)] at this
    simp at this
    omega
theorem listS_first {l : List Nat} (hk : 0 < l.length) : listS (l.take (0 + 1)) = listS (l.take 0) ++ Lib.decDigits l[0] := by
  unfold listS
  rw [List.take_succ_eq_append_getElem hk]
  rfl
theorem listS_len {l : List Nat} (hb : ∀ n ∈ l, n < 65536) : (listS l).length ≤ l.length * 6 := by
  have := join_le 44 (l.map Lib.decDigits) 5 (fun x hx => by obtain ⟨n, hn1, rfl⟩ := List.mem_map.1 hx; exact decDigits_short (hb n hn1))
  rw [join_is, List.length_map] at this
  exact this
theorem listS_word {l : List Nat} (h : l ≠ []) : listWord l = listS l := by unfold listWord listS; rw [if_neg h, join_is]
theorem listS_ne {l : List Nat} (h : l ≠ []) : listS l ≠ [] := by
  cases l with
  | nil => exact absurd rfl h
  | cons n l =>
    unfold listS
    have := decDigits_ne n
    cases l with
    | nil => exact this
    | cons m l =>
      rw [List.map_cons, joinS_cons 44 _ (by simp)]
      intro e
      exact this (List.append_eq_nil_iff.1 e).1
set_option maxRecDepth 100000 in
set_option maxHeartbeats 1000000 in
theorem list06_c (v : Value) (l : List Nat) (w : World) (hl : Rd16 w v l) (hn : l.length ≤ 60000) (hb : ∀ n ∈ l, n < 65536) :
    Calls Tryz.prog 41 #[v] w fun e w' => e = .returned (.string ⟨(listWord l).toArray⟩) ∧ Fr w w' := by
  obtain ⟨a, cap, rfl, hc1, hc2, hx⟩ := hl
  by_cases h0 : l = []
  · subst h0
    go_enter Tryz.func41, Tryz.ntmps41
    go_wp2_with fail
    go_loopw [3, 4] (fun s i wr => s = .string ⟨#[]⟩ ∧ i = .int .i64 0 ∧ Fr w wr) (fun _ i _ => 0)
    case atStart => exact ⟨rfl, rfl, Fr.refl _⟩
    case round =>
      obtain ⟨rfl, rfl, hf⟩ := hrel
      go_wp2_with fail
      go_ret
      exact ⟨rfl, hf⟩
  · obtain ⟨b, off, rfl, hlt, hcell⟩ := SlAt.at (n := 0) (cap := 0) hx (by simp [u16Cells]; exact h0)
    have HT := Lib.hid (fun (n : Nat) (hn : n < 65536) W => d06_c n W (by omega))
    have HW := Lib.hid (listS_word h0)
    have HNE := Lib.hid (listS_ne h0)
    have hne : 0 < l.length := List.length_pos_iff.2 h0
    unfold maxLen at hc2
    clear hx h0
    go_enter Tryz.func41, Tryz.ntmps41
    go_wp2_with fail
    go_loopw [3, 4] (fun s i wr => ∃ k : Nat, k ≤ l.length ∧ i = .int .i64 k ∧ s = .string ⟨(listS (l.take k)).toArray⟩ ∧ Fr w wr) (fun _ i _ => l.length - (intOf i).toNat)
    case atStart => exact ⟨0, Nat.zero_le _, rfl, rfl, Fr.refl _⟩
    case round =>
      obtain ⟨k, hk, rfl, rfl, hf⟩ := hrel
      by_cases hlt2 : k < l.length
      · have hbl := listS_len (l := l.take k) fun n hn => hb n (List.mem_of_mem_take hn)
        rw [List.length_take] at hbl
        have hbl2 : (listS (l.take k)).length ≤ 360000 := by omega
        have hsz := size_mk (listS (l.take k))
        have hnk := hb l[k] (List.getElem_mem hlt2)
        have hdl := decDigits_len5 hnk
        have hdz := size_mk (Lib.decDigits l[k])
        have c1 := hf.keep (hcell k (.int .u16 l[k]) (by simp [u16Cells, hlt2]))
        have hk1 : k < cap := by omega
        have HD := Lib.hid (fun W => HT.out l[k] hnk W)
        by_cases hk0 : k = 0
        · subst hk0
          rw [Nat.add_zero] at c1
          have HN := Lib.hid (listS_first hlt2)
          generalize listS (l.take 0) = acc at hbl2 hsz HN
          generalize l[0] = x at c1 HD hdl hdz hnk HN
          have HF := Lib.hid hf
          clear hbl hcell hf
          go_wp2_with fail
          refine (HD.out _).mono ?_
          rintro e w2 ⟨rfl, f2⟩
          go_wp2_with fail
          go_roundw
          case rel => exact ⟨0 + 1, by omega, by go_num, by rw [HN.out, mk_append], HF.out.trans f2⟩
          case measure => simp [intOf]; omega
        · have HN := Lib.hid (listS_next hlt2 hk0)
          have hk2 : (0 : Int) < (k : Int) := by omega
          generalize listS (l.take k) = acc at hbl2 hsz HN
          generalize l[k] = x at c1 HD hdl hdz hnk HN
          have HF := Lib.hid hf
          clear hbl hcell hf hk0
          go_wp2_with fail
          refine (HD.out _).mono ?_
          rintro e w2 ⟨rfl, f2⟩
          go_wp2_with fail
          go_roundw
          case rel => exact ⟨k + 1, by omega, by go_num, by rw [HN.out]; simp [mk_append], HF.out.trans f2⟩
          case measure => simp [intOf]; omega
      · have hkl : l.take k = l := List.take_of_length_le (by omega)
        rw [hkl]
        have n1 : (listS l == []) = false := by simpa using HNE.out
        have n2 : ¬ listS l = [] := HNE.out
        have HF := Lib.hid hf
        clear hkl hcell HNE hf
        generalize listS l = q at n1 n2 HW ⊢
        go_wp2_with fail
        go_ret
        exact ⟨by rw [HW.out]; rfl, HF.out⟩
end Go.Proofs.YtfklgaeejmeipaaGreatDoor
