/- An automaton's step by a transaction that begins. No condition but that the automaton and the event can be read, and the numbers' bounds. -/
import Derived.Test.YtdjjjnoecfbjeaaGreatDoorPHisOpens
import Derived.Laws.Externs
import Derived.MapKept
import GoSem.Extern.MapsClone
import Derived.Great.BuildSlice
import Derived.Test.YtdjjjnoecfbjeaaGreatDoorPArms
set_option linter.all false
set_option linter.unusedVariables false
set_option linter.unusedSimpArgs false
set_option linter.unnecessarySimpa false
/- An automaton's step by a transaction that begins. No condition but that the automaton and the event can be read, and the numbers' bounds. -/
namespace Go.Proofs.YtdjjjnoecfbjeaaGreatDoor
open Go.RowKit
open Go.Maps (Keyed)
open Go.ChangeMaps Go.MapKept
attribute [local go_sem] Oper.semAt_some

theorem any_puts_take {l : List Mic} {k : Nat} (h : k < l.length) (κ v : Nat) : (l.take (k + 1)).any (fun m => m.puts κ v) = ((l.take k).any (fun m => m.puts κ v) || l[k].puts κ v) := by
  rw [List.take_succ_eq_append_getElem h, List.any_append]
  simp
theorem LoopMap.read {M : List Ev} {l : List Mic} {k : Nat} (h : k < l.length) {D : DataW Unit} (hat : ∀ κ v : Nat, κ < 256 → v < 65536 → D.atKey (ekey κ v) (.lit (.bool false)) = .lit (.bool (app M κ v || (l.take k).any fun m => m.puts κ v))) (hr : l[k].read = true) :
    ∀ κ v : Nat, κ < 256 → v < 65536 → D.atKey (ekey κ v) (.lit (.bool false)) = .lit (.bool (app M κ v || (l.take (k + 1)).any fun m => m.puts κ v)) := by
  intro κ v h1 h2
  rw [any_puts_take h, hat κ v h1 h2]
  have : l[k].puts κ v = false := by simp [Mic.puts, hr]
  rw [this, Bool.or_false]
theorem LoopMap.put {M : List Ev} {l : List Mic} {k : Nat} (h : k < l.length) {D : DataW Unit} (hD : Maps.IsMap D) (hat : ∀ κ v : Nat, κ < 256 → v < 65536 → D.atKey (ekey κ v) (.lit (.bool false)) = .lit (.bool (app M κ v || (l.take k).any fun m => m.puts κ v))) (hr : l[k].read = false) (hb : l[k].key < 256 ∧ l[k].v < 65536) :
    ∀ κ v : Nat, κ < 256 → v < 65536 → (D.put (ekey l[k].key l[k].v) (.lit (.bool true))).atKey (ekey κ v) (.lit (.bool false)) = .lit (.bool (app M κ v || (l.take (k + 1)).any fun m => m.puts κ v)) := by
  intro κ v h1 h2
  rw [any_puts_take h]
  by_cases hk : l[k].key = κ ∧ l[k].v = v
  · obtain ⟨rfl, rfl⟩ := hk
    rw [Maps.atKey_put_same hD (by trivial)]
    have : l[k].puts l[k].key l[k].v = true := by simp [Mic.puts, hr]
    rw [this, Bool.or_true, Bool.or_true]
  · rw [Maps.atKey_put_other (fun e => hk ((ekey_inj h1 h2 hb.1 hb.2 e).imp Eq.symm Eq.symm)), hat κ v h1 h2]
    have : l[k].puts κ v = false := by
      unfold Mic.puts
      by_cases h3 : l[k].key = κ
      · have h4 : ¬ l[k].v = v := fun h4 => hk ⟨h3, h4⟩
        simp [h4]
      · simp [h3]
    rw [this, Bool.or_false]
set_option maxRecDepth 100000 in
set_option maxHeartbeats 2000000 in
theorem autStepBegin_c {p : Nat} {cv : Value} {pv : List Value} {bm n : Nat} {D : DataW Unit} {c : Ev} {L : List Ev} (w : World) {x : Ev} {v : Value} (H : StepPre w p cv pv bm n D (c :: L) x v) (hn : n ≤ 1000000000) (hs : stepWhy (c :: L) x = 0) (h5 : x.kind = 5) :
    Calls Tryz.prog 10 #[.pointer (some ⟨p, 0, none⟩), v] w fun e w' => e = .returned (.int .i64 0) ∧ (∃ b n' D', EvNew w w' b x ∧ AutAt w' p cv (pv.set x.client (.pointer (some ⟨b, 0, none⟩))) bm n' D' (c :: L ++ [x]) ∧ n' ≤ n + 8) ∧ Ch2 p bm w w' := by
  obtain ⟨h, hE, hx, ok⟩ := H
  have HX := Lib.hid hx
  obtain ⟨t, r, rfl, ht, hr⟩ := hx
  have hB0 := BoxAt.new w (x.cells t r) 39
  have hF0 : Fr w (w.alloc (.cells (x.cells t r) 39)) := (Fr.refl w).alloc _
  have hmy := fun W (f : Fr w W) => autMay_c W (h.fr f) (hE.keep f) x (x.val t r) (HX.out.keep f) ok
  have his := fun W (f : Fr w W) => autIs_c W (h.fr f)
  obtain ⟨hmay, h1, _, _, _⟩ := stepWhy_more hs
  have hcl := Ev.may_client hmay
  have ho : x.opens = true := kind_opens.2 (.inr h5)
  have hid := lastId_open hs
  rw [ho, if_pos rfl] at hid
  have hl8 := Ev.may_txn hmay
  have e1 : ((x.kind : Int) == 1) = false := by simp; omega
  have e5 : ((x.kind : Int) == 5) = true := by simp; omega
  have how := fun W (hx : EvAt W (x.val t r) x) => own_c x (x.val t r) W hx (by omega)
  have hidl := ok.id
  have hok := ok.txn
  rw [hs] at hmy
  unfold Ev.val at hmy how ⊢
  unfold Ev.cells at hB0 hF0
  have HI := Lib.hid his
  have HM := Lib.hid hmy
  have HH := Lib.hid h
  have HW := Lib.hid how
  have HT := Lib.hid ht
  obtain ⟨a, cap, rfl, hcap, hmax, _⟩ := id ht
  unfold maxLen at hmax
  clear his hmy h hE ht hr hs hmay h1 h5 how
  go_enter Tryz.func10, Tryz.ntmps10
  go_wp2_with fail
  refine (HI.out _ hF0).mono ?_
  rintro e w1 ⟨rfl, hb⟩
  have hB1 := hB0.fr hb
  have hF1 := hF0.trans hb
  clear hb
  go_wp2_with ((with_reducible refine wpList_here (.load 39 (.tmp 3)) rfl ?_); refine wpList_load_box 39 (.tmp 3) rfl _ rfl _ hB1 _ Tryz.underlying39 rfl Tryz.infoEv rfl ?_)
  refine (HM.out _ hF1).mono ?_
  rintro e w2 ⟨rfl, hb⟩
  have hB2 := hB1.fr hb
  have hF2 := hF1.trans hb
  clear hb hB1 hF1
  have k0 : w2.cell? ⟨w.heap.size, 0, none⟩ = some (.int .u8 x.kind) := hB2.at 0 rfl
  have k10 : w2.cell? ⟨w.heap.size, 10, none⟩ = some (.slice a x.txn.length cap) := hB2.at 10 rfl
  have hz := hB2.lt
  have hA := HH.out.fr hF2
  have hpm := hA.ne hA.map
  have hbm : bm < w2.heap.size := hA.map.own.lt
  have hxm : w.heap.size ≠ bm := by have := HH.out.map.own.lt; omega
  have hxp : p ≠ w.heap.size := by have := HH.out.box.lt; omega
  have hT2 : RdM w2 (.slice a x.txn.length cap) x.txn := HT.out.keep hF2
  have HA := Lib.hid hA
  have HB := Lib.hid hB2
  have HT2 := Lib.hid hT2
  clear hA hB2 hT2 HT
  go_wp2_with fail
  go_loopw [35] (fun i wr => ∃ (k N : Nat) (D' : DataW Unit), k ≤ x.txn.length ∧ i = .int .i64 k ∧ N ≤ n + k ∧ Ch2 bm bm w2 wr ∧ wr.ownsMap Tryz.prog 60 (plainElem Tryz.prog 4) bm N D' ∧ ∀ κ v : Nat, κ < 256 → v < 65536 → D'.atKey (ekey κ v) (.lit (.bool false)) = .lit (.bool (app (c :: L) κ v || (x.txn.take k).any fun m => m.puts κ v))) (fun i _ => x.txn.length - (intOf i).toNat)
  case atStart => exact ⟨0, n, D, Nat.zero_le _, rfl, Nat.le_refl _, Ch2.refl _ _ _, HA.out.map.own, fun κ v h1 h2 => by rw [HA.out.map.at_ κ v h1 h2]; simp⟩
  case round =>
    obtain ⟨k, N1, D1, hk, rfl, hN1, hch, hown, hat⟩ := hrel
    by_cases hlt : k < x.txn.length
    · obtain ⟨a', cap', he, _, _, hcs⟩ := HT2.out.ch2 HA.out.map.shut HA.out.map.shut hch
      cases he
      obtain ⟨b1, o1, rfl, hb1, d0, d1, d2⟩ := micSl hcs (Fr.refl wr) hlt
      have hk1 : k < cap := by omega
      have hkb := hok _ (List.getElem_mem hlt)
      have hRd := LoopMap.read hlt hat
      have hPt := LoopMap.put hlt hown.isMap hat
      have HO := Lib.hid hown
      have c18 := hch.keep hpm hpm HA.out.mapc
      have hlp := lt_of_cell c18
      simp only at hlp
      generalize hm : x.txn[k] = m at d0 d1 d2 hkb hRd hPt
      obtain ⟨rd, key, mv⟩ := m
      simp only at d0 d1 d2 hkb hRd hPt
      have HR := Lib.hid hRd
      have HP := Lib.hid hPt
      clear hRd hPt hat hown hcs k0 k10
      cases rd
      · go_wp2_with fail
        refine gen_w fun W2 hW2 => ?_
        have hfW : Fr wr W2 := by rw [hW2]; exact (Fr.refl _).alloc _
        have hE : BoxAt W2 wr.heap.size #[.bool false, .int .u8 key, .int .u16 mv] 58 := by rw [hW2]; exact BoxAt.new _ _ _
        clear hW2
        have q1 : W2.cell? ⟨wr.heap.size, 1, none⟩ = some (.int .u8 key) := hE.at 1 rfl
        have q2 : W2.cell? ⟨wr.heap.size, 2, none⟩ = some (.int .u16 mv) := hE.at 2 rfl
        have hzq := hE.lt
        have c18' := hfW.keep c18
        have hlp' := lt_of_cell c18'
        simp only at hlp'
        have hown2 : W2.drew.ownsMap Tryz.prog 60 (plainElem Tryz.prog 4) bm N1 D1 := ownsMap_fr HO.out hfW.drew
        obtain ⟨w4, hup, hown4, hturn⟩ := hown2.store elemKeyed Tryz.underlying51 (by unfold maxLen; omega) (keyOf_elem hkb.1 hkb.2) (plainElem_bool Tryz.underlying4 true)
        have hch4 : Ch2 bm bm w2 w4 := (hch.trans (hfW.drew.ch2)).trans (turned_ch2 hturn)
        have HO4 := Lib.hid hown4
        clear hown2 hown4 hturn hE
        go_region
        all_goals
          go_wp2_with fail
          go_roundw
          case rel => exact ⟨k + 1, N1 + 1, _, by omega, by go_num, by omega, hch4, HO4.out, HP.out (by trivial) hkb⟩
          case measure => simp [intOf]; omega
      · go_wp2_with fail
        go_roundw
        case rel => exact ⟨k + 1, N1, D1, by omega, by go_num, by omega, hch.alloc _, ownsMap_fr HO.out ((Fr.refl _).alloc _), HR.out (by trivial)⟩
        case measure => simp [intOf]; omega
    · have hkl : x.txn.take k = x.txn := List.take_of_length_le (by omega)
      rw [hkl] at hat
      have hA := HA.out
      have hBr := HB.out.ch2 hxm hxm hch
      have k0 : wr.cell? ⟨w.heap.size, 0, none⟩ = some (.int .u8 x.kind) := hBr.at 0 rfl
      have hzr := hBr.lt
      have hLo : AutLoose wr p cv pv bm N1 D1 (c :: L) (c :: L ++ [x]) := ⟨hA.box.ch2 hpm hpm hch, hA.len, hA.cfg.ch2 hA.map.shut hA.map.shut hch, fun c u hc => (hA.pend c u hc).ch2 hA.map.shut hA.map.shut hch, hown, fun κ v h1 h2 => by rw [app_snoc (L := c :: L) (by simp)]; exact hat κ v h1 h2⟩
      have hXr := (HX.out.keep hF2).ch2 hA.map.shut hA.map.shut hch
      have hCh : Ch2 p bm w wr := (hF2.ch2).trans hch.le1
      have HL := Lib.hid hLo
      have hN8 : N1 ≤ n + 8 := by omega
      clear hA hat hown hkl hk hLo
      unfold Ev.val at hXr
      go_wp2_with ((with_reducible refine wpList_here (.load 39 (.tmp 3)) rfl ?_); refine wpList_load_box 39 (.tmp 3) rfl _ rfl _ hBr _ Tryz.underlying39 rfl Tryz.infoEv rfl ?_)
      refine (HW.out _ hXr).mono ?_
      rintro e w3 ⟨ta, tn, tc, ra, rn, rc, rfl, hm3, hr3, hb3⟩
      have hB3 := hBr.fr hb3
      clear hBr k0
      go_wp2_with ((with_reducible refine wpList_here (.store 39 (.tmp 9) (.tmp 53)) rfl ?_); refine wpList_store_new 39 (.tmp 9) (.tmp 53) rfl _ _ _ rfl rfl rfl Tryz.infoEv rfl (Ev.oneCell x ta ra tn tc rn rc) rfl rfl ?_)
      refine gen_w fun W5 hW5 => ?_
      have hN5 : BoxAt W5 w3.heap.size (x.cells (.slice ta tn tc) (.slice ra rn rc)) 39 := by rw [hW5]; exact BoxAt.new _ _ _
      have hb5 : Fr w3 W5 := by rw [hW5]; exact (Fr.refl _).alloc _
      clear hW5
      have hF5 := hb3.trans hb5
      have hLo := HL.out
      have hl5 : AutLoose W5 p cv pv bm N1 D1 (c :: L) (c :: L ++ [x]) := ⟨hLo.box.fr hF5, hLo.len, hLo.cfg.fr hF5, fun c v hc => (hLo.pend c v hc).fr hF5, hLo.map.fr hF5⟩
      have hcp : x.client < pv.length := by rw [hl5.len]; exact hcl
      have cp : W5.cell? ⟨p, 1 + x.client, none⟩ = some pv[x.client] := hl5.box.at (1 + x.client) (by rw [aut_p hcp]; simp [hcp])
      have fp := hl5.box.free (1 + x.client)
      have c17 := hl5.box.at 17 (aut_17 hl5.len)
      have f17 := hl5.box.free 17
      have hl := hl5.box.lt
      have hB5 := hB3.fr hb5
      have k1 : W5.cell? ⟨w.heap.size, 1, none⟩ = some (.int .u8 x.client) := hB5.at 1 rfl
      have k2 : W5.cell? ⟨w.heap.size, 2, none⟩ = some (.int .u16 x.id) := hB5.at 2 rfl
      have hz5 := hB5.lt
      have HL5 := Lib.hid hl5
      clear hl5 hLo hB5 hB3 HL
      go_region
      all_goals
        go_wp2_with fail
        go_ret
        have hm5 := hm3.fr hb5
        have hp0 := HH.out.box.lt
        have hle2 := hCh.size
        have hle3 := hb3.size
        have hSS : Ch2 p p W5 (((W5.setCell ⟨p, 1 + x.client, none⟩ (.pointer (some ⟨w3.heap.size, 0, none⟩))).setCell ⟨p, 17, none⟩ (.int .i64 x.id)).drew) := (((Ch2.refl p p W5).set (1 + x.client) _).set 17 _).drew
        refine ⟨rfl, ⟨w3.heap.size, _, _, ⟨by omega, _, _, hN5.ch2 (by omega) (by omega) hSS, (hm5.keep hSS.size fun k hk hlt => hSS.block k hlt (by omega) (by omega)).mono fun k hk => by omega, (hr3.keep hb5).ch2 HL5.out.shut HL5.out.shut hSS⟩, HL5.out.opened (by simp) hcl hid ho (b := w3.heap.size) ⟨_, _, hN5, hm5.mono fun _ _ => trivial, hr3.keep hb5⟩, hN8⟩, ?_⟩
        exact ((((hCh.trans hF5.ch2)).setP _ _).setP _ _).drew
end Go.Proofs.YtdjjjnoecfbjeaaGreatDoor

/- An automaton's step, whole. No condition but that the automaton and the event can be read, and the numbers' bounds. -/
namespace Go.Proofs.YtdjjjnoecfbjeaaGreatDoor
open Go.RowKit

/-- An automaton that has taken these events. -/
def Aut (w : World) (p bm : Nat) (L : List Ev) : Prop := ∃ cv pv n D, AutAt w p cv pv bm n D L ∧ n ≤ 8 * L.length ∧ ∀ x ∈ L, x.may = true ∧ x.Ok
theorem Aut.fr {a w : World} {p bm : Nat} {L : List Ev} (h : Aut a p bm L) (f : Fr a w) : Aut w p bm L := by
  obtain ⟨cv, pv, n, D, h1, h2⟩ := h
  exact ⟨cv, pv, n, D, h1.fr f, h2⟩
theorem Aut.ch2 {w w' : World} {p q bm bq : Nat} {L M : List Ev} (h : Aut w p bm L) (k : Aut w q bq M) (hpq : p ≠ q) (hb : bm ≠ bq) (f : Ch2 q bq w w') : Aut w' p bm L := by
  obtain ⟨cv, pv, n, D, h1, h2⟩ := h
  obtain ⟨_, _, _, _, k1, _⟩ := k
  exact ⟨cv, pv, n, D, h1.ch2 k1 hpq hb f, h2⟩
theorem Aut.shut {w : World} {p bm : Nat} {L : List Ev} (h : Aut w p bm L) : Shut w p := by
  obtain ⟨_, _, _, _, h1, _⟩ := h
  exact h1.shut
theorem Aut.mapShut {w : World} {p bm : Nat} {L : List Ev} (h : Aut w p bm L) : Shut w bm := by
  obtain ⟨_, _, _, _, h1, _⟩ := h
  exact h1.map.shut
theorem Aut.lt {w : World} {p bm : Nat} {L : List Ev} (h : Aut w p bm L) : p < w.heap.size ∧ bm < w.heap.size := by
  obtain ⟨_, _, _, _, h1, _⟩ := h
  exact ⟨h1.box.lt, h1.map.own.lt⟩
theorem Aut.all {w : World} {p bm : Nat} {L : List Ev} (h : Aut w p bm L) : ∀ x ∈ L, x.may = true ∧ x.Ok := by
  obtain ⟨_, _, _, _, _, _, h1⟩ := h
  exact h1
theorem stepTo_no {L : List Ev} {x : Ev} (h : stepWhy L x ≠ 0) : stepTo L x = L := if_neg h
theorem stepTo_yes {L : List Ev} {x : Ev} (h : stepWhy L x = 0) : stepTo L x = L ++ [x] := if_pos h
theorem stepWhy_may {L : List Ev} {x : Ev} (h : stepWhy L x = 0) : x.may = true := by
  unfold stepWhy at h
  split at h
  · cases h
  · rename_i h1; simpa using h1
/-- What the automaton uses lies in these blocks. -/
def CfgIn (Z : Nat → Prop) (v : Value) : Prop := v = .pointer none ∨ ∃ b, v = .pointer (some ⟨b, 0, none⟩) ∧ Z b
def PendIn (Z : Nat → Prop) (w : World) (v : Value) (o : Option Ev) : Prop := ∀ x, o = some x → ∃ b t r, v = .pointer (some ⟨b, 0, none⟩) ∧ Z b ∧ BoxAt w b (x.cells t r) 39 ∧ SlAt w Z t x.txn.length (micCells x.txn) ∧ x.reads = [] ∧ RdR w r x.reads
/-- An automaton that has taken these events, and uses these blocks alone. -/
def AutIn (Z : Nat → Prop) (w : World) (p bm : Nat) (L : List Ev) : Prop := ∃ cv pv n D, AutAt w p cv pv bm n D L ∧ (n ≤ 8 * L.length ∧ ∀ x ∈ L, x.may = true ∧ x.Ok) ∧ Z p ∧ Z bm ∧ CfgIn Z cv ∧ ∀ c v, pv[c]? = some v → PendIn Z w v (pend L c)
theorem AutIn.aut {Z : Nat → Prop} {w : World} {p bm : Nat} {L : List Ev} (h : AutIn Z w p bm L) : Aut w p bm L := by
  obtain ⟨cv, pv, n, D, h1, h2, _⟩ := h
  exact ⟨cv, pv, n, D, h1, h2⟩
theorem PendIn.ch2 {Z : Nat → Prop} {w w' : World} {p q : Nat} {v : Value} {o : Option Ev} (h : PendIn Z w v o) (hp : Shut w p) (hq : Shut w q) (f : Ch2 p q w w') : PendIn Z w' v o := by
  intro x hx
  obtain ⟨b, t, r, h1, h2, h3, h4, h5, h6⟩ := h x hx
  refine ⟨b, t, r, h1, h2, h3.ch2 (h3.shut hp 0 rfl) (h3.shut hq 0 rfl) f, ?_, h5, h6.ch2 hp hq f⟩
  obtain ⟨a, cap, rfl, g1, g2, g3⟩ := h4
  refine ⟨a, cap, rfl, g1, g2, ?_⟩
  rcases g3 with g3 | ⟨b1, off, rfl, hz, hlt, hc⟩
  · exact .inl g3
  · by_cases hn : micCells x.txn = []
    · exact .inl hn
    · have hne : b1 ≠ p ∧ b1 ≠ q := by
        cases htx : x.txn with
        | nil => exact absurd (by rw [htx]; rfl) hn
        | cons m l =>
          have hc0 := hc 0 (.bool m.read) (by rw [htx]; rfl)
          exact ⟨fun e => hp _ _ (e ▸ hc0), fun e => hq _ _ (e ▸ hc0)⟩
      exact .inr ⟨b1, off, rfl, hz, Nat.lt_of_lt_of_le hlt f.size, fun j u hj => (World.cell?_of_block (a := ⟨b1, off + j, none⟩) (f.block b1 hlt hne.1 hne.2)).trans (hc j u hj)⟩
theorem reads_of {x : Ev} (hm : x.may = true) (ho : x.opens = true) : x.reads = [] := by
  unfold Ev.may at hm
  simp only [Bool.and_eq_true, decide_eq_true_eq] at hm
  rw [hm.2]
  rcases kind_opens.1 ho with h | h <;> simp [Ev.needed, h, Ev.zero]
theorem PendIn.new {Z : Nat → Prop} {w w' : World} {b : Nat} {x : Ev} (h : EvNew w w' b x) (hZ : ∀ k, w.heap.size ≤ k → Z k) (hr : x.reads = []) : PendIn Z w' (.pointer (some ⟨b, 0, none⟩)) (some x) := by
  intro y hy
  cases hy
  obtain ⟨h1, t, r, h2, h3, h4⟩ := h
  exact ⟨b, t, r, rfl, hZ b h1, h2, h3.mono hZ, hr, h4⟩
theorem stepIn_c {Z : Nat → Prop} {p bm : Nat} {L : List Ev} (w : World) (hZ : ∀ k, w.heap.size ≤ k → Z k) (h : AutIn Z w p bm L) (hE : Env w) {x : Ev} {v : Value} (hx : EvAt w v x) (ok : x.Ok) (hL : L.length ≤ 100000000) :
    Calls Tryz.prog 10 #[.pointer (some ⟨p, 0, none⟩), v] w fun e w' => e = .returned (.int .i64 (stepWhy L x : Nat)) ∧ AutIn Z w' p bm (stepTo L x) ∧ Ch2 p bm w w' := by
  obtain ⟨cv, pv, n, D, h1, ⟨h2, h3⟩, zp, zb, zc, zv⟩ := h
  have H : StepPre w p cv pv bm n D L x v := ⟨h1, hE, hx, ok⟩
  have sp := h1.shut
  have sb := h1.map.shut
  by_cases hs : stepWhy L x = 0
  · have hm := stepWhy_may hs
    have h4 : ∀ y ∈ L ++ [x], y.may = true ∧ y.Ok := fun y hy => by
      rcases List.mem_append.1 hy with hy | hy
      · exact h3 y hy
      · obtain rfl := List.mem_singleton.1 hy
        exact ⟨hm, ok⟩
    rw [hs, stepTo_yes hs]
    cases L with
    | nil =>
      refine (autStepCfg_c w H hs).mono fun e w' ⟨he, ⟨b, hle, hb⟩, hc⟩ => ⟨he, ⟨_, _, n, D, hb, ⟨?_, h4⟩, zp, zb, .inr ⟨b, rfl, hZ b hle⟩, fun c v hv x hx => by cases hx⟩, hc⟩
      simp at h2
      omega
    | cons c L =>
      have hcl : x.client < pv.length := by rw [h1.len]; exact Ev.may_client hm
      have old : ∀ {w' : World} {u : Value}, Ch2 p bm w w' → PendIn Z w' u (if x.opens then some x else none) → ∀ k v, (pv.set x.client u)[k]? = some v → PendIn Z w' v (pend (c :: L ++ [x]) k) := fun {w' u} hc hu k v hv => by
        rw [pend_snoc (L := c :: L) (by simp)]
        by_cases hk : x.client = k
        · subst hk
          rw [if_pos rfl]
          rw [List.getElem?_set_self hcl] at hv
          cases hv
          exact hu
        · rw [if_neg hk]
          rw [List.getElem?_set_ne hk] at hv
          exact (zv k v hv).ch2 sp sb hc
      by_cases ho : x.opens = true
      · have hr := reads_of hm ho
        rcases kind_opens.1 ho with hk | hk
        · refine (autStepInv_c w H hs hk).mono fun e w' ⟨he, ⟨b, hn, hb⟩, hc⟩ => ⟨he, ⟨_, _, n, D, hb, ⟨?_, h4⟩, zp, zb, zc, old hc (by rw [if_pos ho]; exact PendIn.new hn hZ hr)⟩, hc⟩
          simp at h2 ⊢
          omega
        · refine (autStepBegin_c w H ?_ hs hk).mono fun e w' ⟨he, ⟨b, n', D', hnw, hb, hn⟩, hc⟩ => ⟨he, ⟨_, _, n', D', hb, ⟨?_, h4⟩, zp, zb, zc, old hc (by rw [if_pos ho]; exact PendIn.new hnw hZ hr)⟩, hc⟩
          · omega
          · simp at h2 ⊢
            omega
      · refine (autStepEnd_c w H hs (by simpa using ho)).mono fun e w' ⟨he, hb, hc⟩ => ⟨he, ⟨_, _, n, D, hb, ⟨?_, h4⟩, zp, zb, zc, old hc (by rw [if_neg ho]; intro x hx; cases hx)⟩, hc⟩
        simp at h2 ⊢
        omega
  · rw [stepTo_no hs]
    exact (autStepNo_c w H hs).mono fun e w' ⟨he, hf⟩ => ⟨he, ⟨cv, pv, n, D, h1.fr hf, ⟨h2, h3⟩, zp, zb, zc, fun c v hv => (zv c v hv).ch2 sp sb hf.ch2⟩, hf.ch2⟩
theorem PendAt.pin {w : World} {v : Value} {L : List Ev} {c : Nat} (h : PendAt w v (pend L c)) (hm : ∀ x ∈ L, x.may = true ∧ x.Ok) : PendIn (· < w.heap.size) w v (pend L c) := by
  intro x hx
  rw [hx] at h
  obtain ⟨b, h1, t, r, h2, h3, h4⟩ := h
  have hp := pend_client hx
  refine ⟨b, t, r, h1, h2.lt, h2, ?_, reads_of (hm x (List.mem_of_mem_drop hp.2.2)).1 hp.2.1, h4⟩
  obtain ⟨a, cap, rfl, g1, g2, g3⟩ := h3
  refine ⟨a, cap, rfl, g1, g2, ?_⟩
  rcases g3 with g3 | ⟨b1, off, rfl, _, hlt, hc⟩
  · exact .inl g3
  · exact .inr ⟨b1, off, rfl, hlt, hlt, hc⟩
theorem Aut.inn {w : World} {p bm : Nat} {L : List Ev} (h : Aut w p bm L) : AutIn (· < w.heap.size) w p bm L := by
  obtain ⟨cv, pv, n, D, h1, h2, h3⟩ := h
  refine ⟨cv, pv, n, D, h1, ⟨h2, h3⟩, h1.box.lt, h1.map.own.lt, ?_, fun c v hv => (h1.pend c v hv).pin h3⟩
  have hc := h1.cfg
  cases L with
  | nil => exact .inl hc
  | cons x l => obtain ⟨b, hb, hB⟩ := hc; exact .inr ⟨b, hb, hB.lt⟩
theorem PendIn.mono {Z Z' : Nat → Prop} {w : World} {v : Value} {o : Option Ev} (h : PendIn Z w v o) (hZ : ∀ k, Z k → Z' k) : PendIn Z' w v o := fun x hx => by
  obtain ⟨b, t, r, h1, h2, h3, h4, h5⟩ := h x hx
  exact ⟨b, t, r, h1, hZ b h2, h3, h4.mono hZ, h5⟩
theorem AutIn.mono {Z Z' : Nat → Prop} {w : World} {p bm : Nat} {L : List Ev} (h : AutIn Z w p bm L) (hZ : ∀ k, Z k → Z' k) : AutIn Z' w p bm L := by
  obtain ⟨cv, pv, n, D, h1, h2, zp, zb, zc, zv⟩ := h
  exact ⟨cv, pv, n, D, h1, h2, hZ p zp, hZ bm zb, zc.imp id fun ⟨b, h, hz⟩ => ⟨b, h, hZ b hz⟩, fun c v hv => (zv c v hv).mono hZ⟩
theorem RdR.nilAny {w w' : World} {v : Value} {ls : List (List Nat)} (h : RdR w v ls) (hl : ls = []) : RdR w' v ls := by
  subst hl
  obtain ⟨vs, h1, ⟨a, cap, rfl, g1, g2, _⟩, _⟩ := h
  exact ⟨[], rfl, ⟨a, cap, rfl, g1, g2, .inl rfl⟩, fun i l u hl => by simp at hl⟩
/-- It stays where its blocks stay. -/
theorem AutIn.keep {Z : Nat → Prop} {w w' : World} {p bm : Nat} {L : List Ev} (h : AutIn Z w p bm L) (hs : w.heap.size ≤ w'.heap.size) (hk : ∀ k, Z k → k < w.heap.size → w'.heap[k]? = w.heap[k]?) : AutIn Z w' p bm L := by
  obtain ⟨cv, pv, n, D, h1, h2, zp, zb, zc, zv⟩ := h
  have kb : ∀ {b : Nat} {c : Array Value} {t : TypeId}, Z b → BoxAt w b c t → BoxAt w' b c t := fun hz hB => (hk _ hz hB.lt).trans hB
  have kp : ∀ c v, pv[c]? = some v → PendIn Z w' v (pend L c) := fun c v hv x hx => by
    obtain ⟨b, t, r, g1, g2, g3, g4, g5, g6⟩ := zv c v hv x hx
    exact ⟨b, t, r, g1, g2, kb g2 g3, g4.keep hs hk, g5, g6.nilAny g5⟩
  refine ⟨cv, pv, n, D, ⟨kb zp h1.box, h1.len, ?_, fun c v hv => ?_, ?_⟩, h2, zp, zb, zc, kp⟩
  · have hc := h1.cfg
    cases L with
    | nil => exact hc
    | cons x l =>
      obtain ⟨b, hb, hB⟩ := hc
      rcases zc with zc | ⟨b', hb', hz⟩
      · rw [zc] at hb; cases hb
      · rw [hb'] at hb
        cases hb
        exact ⟨_, hb', kb hz hB⟩
  · cases hp : pend L c with
    | none => have := h1.pend c v hv; rw [hp] at this; exact this
    | some x =>
      obtain ⟨b, t, r, g1, g2, g3, g4, _, g6⟩ := kp c v hv x hp
      exact ⟨b, g1, t, r, g3, g4.mono fun _ _ => trivial, g6⟩
  · obtain ⟨es, clock, hb, F, hs', hD⟩ := h1.map.own
    exact ⟨⟨es, clock, (hk _ zb h1.map.own.lt).trans hb, F, hs', hD⟩, h1.map.at_⟩
theorem step_c {p bm : Nat} {L : List Ev} (w : World) (h : Aut w p bm L) (hE : Env w) {x : Ev} {v : Value} (hx : EvAt w v x) (ok : x.Ok) (hL : L.length ≤ 100000000) :
    Calls Tryz.prog 10 #[.pointer (some ⟨p, 0, none⟩), v] w fun e w' => e = .returned (.int .i64 (stepWhy L x : Nat)) ∧ Aut w' p bm (stepTo L x) ∧ Ch2 p bm w w' :=
  (stepIn_c (Z := fun _ => True) w (fun _ _ => trivial) (h.inn.mono fun _ _ => trivial) hE hx ok hL).mono fun _ _ ⟨h1, h2, h3⟩ => ⟨h1, h2.aut, h3⟩
theorem new_c (w : World) : Calls Tryz.prog 9 #[] w fun e w' => (∃ p bm, e = .returned (.pointer (some ⟨p, 0, none⟩)) ∧ w.heap.size ≤ p ∧ w.heap.size ≤ bm ∧ Aut w' p bm []) ∧ Fr w w' := by
  have hmm := @run_makeMap Tryz.prog
  go_enter Tryz.func9, Tryz.ntmps9
  go_wp2
  go_ret
  refine ⟨⟨_, w.heap.size, rfl, ?_, Nat.le_refl _, .pointer none, List.replicate 16 (.pointer none), 0, .map [], ⟨?_, rfl, rfl, ?_, ?_⟩, by simp, by simp⟩, ?_⟩
  · simp
  · exact BoxAt.new' _ (autCells (.pointer none) (List.replicate 16 (.pointer none)) (lastId []) w.heap.size) 56 _ (by simp)
  · intro c v hc
    have := List.mem_of_getElem? hc
    exact List.eq_of_mem_replicate this
  · exact (MapAt.made w).fr ((Fr.refl _).alloc _)
  · exact ((Fr.refl _).alloc _).alloc _
theorem last_c {p bm : Nat} {L : List Ev} (w : World) (h : Aut w p bm L) : Calls Tryz.prog 23 #[.pointer (some ⟨p, 0, none⟩)] w fun e w' => e = .returned (.int .i64 (lastId L)) ∧ Fr w w' := by
  obtain ⟨_, _, _, _, h1, _⟩ := h
  exact autLast_c w h1
end Go.Proofs.YtdjjjnoecfbjeaaGreatDoor

/- What a client has open; how many have; a copy. No condition but that the automaton can be read. -/
namespace Go.Proofs.YtdjjjnoecfbjeaaGreatDoor
open Go.RowKit
open Go.ChangeMaps Go.MapKept
attribute [local go_sem] Oper.semAt_some

theorem run_eql_mnil {P : Program} {t k e : TypeId} (h : P.underlying t = some (.map k e)) (b : Nat) (W : World) : (binOp .eql t (.map (some b)) (.map none)).run P W = .ok (.bool false) W := by
  have e1 : (binOp .eql t (.map (some b)) (.map none)).run P W = ((Op.equalIn 10000 t (.map (some b)) (.map none)).run P W).andThen fun b w' => .ok (.bool b) w' := by
    simp only [binOp]
    simp [Op.equal, Op.maxDepth]
  rw [e1, run_equalIn_mnil 9999 h]
  rfl
theorem run_typeAssert_map {P : Program} {W : World} (t xT k e : TypeId) (v : Value) (h : P.underlying t = some (.map k e)) : (Instr.typeAssert (.iface t v) xT t false).run P W = .ok v W := by
  simp [Instr.typeAssert, run_underlying h, go_sem, Result.andThen]
theorem run_maps_clone {P : Program} {W : World} {r : Nat} {es : Array MapEntry} {clock : Nat} (t : TypeId) (hb : W.heap[r]? = some (.map es clock)) :
    (Extern.MapsClone.clone #[.iface t (.map (some r))]).run P W = .ok (.iface t (.map (some W.heap.size))) (W.alloc (.map es clock)) := by
  have e : Extern.MapsClone.clone #[.iface t (.map (some r))] = (getObj r >>= fun o => match o with
      | .map entries clock => (newObj (.map entries clock) >>= fun n => pure (.iface t (.map (some n))))
      | _ => stuck "maps.clone: a map expected") := rfl
  rw [e]
  simp [MapKept.run_getObj_map hb, Result.andThen, go_sem]
theorem Tryz.infoAut : (Tryz.prog.info? 56).map (·.size) = some 19 := by kernel_rfl
theorem aut_one {w : World} {p : Nat} {cv : Value} {pv : List Value} {bm n : Nat} {D : DataW Unit} {L : List Ev} (h : AutAt w p cv pv bm n D L) : (autCells cv pv (lastId L) bm).all (·.oneCell') = true := by
  rw [Array.all_eq_true]
  intro i hi
  have hl := h.len
  obtain ⟨a, ha⟩ := h.cfg.ptr
  have hg : (autCells cv pv (lastId L) bm)[i]? = some (autCells cv pv (lastId L) bm)[i] := by simp [hi]
  have hs : (autCells cv pv (lastId L) bm).size = 19 := by simp [autCells, hl]
  generalize (autCells cv pv (lastId L) bm)[i] = u at hg ⊢
  by_cases h0 : i = 0
  · subst h0; rw [aut_0] at hg; cases hg; rw [ha]; rfl
  · by_cases h1 : i < 17
    · have e : i = 1 + (i - 1) := by omega
      rw [e, aut_p (by omega)] at hg
      obtain ⟨b, hb⟩ := (h.pend _ _ hg).ptr
      rw [hb]; rfl
    · by_cases h17 : i = 17
      · subst h17; rw [aut_17 hl] at hg; cases hg; rfl
      · obtain rfl : i = 18 := by omega
        rw [aut_18 hl] at hg; cases hg; rfl
theorem aut_set18 (cv : Value) (pv : List Value) (n : Int) (bm bq : Nat) (h : pv.length = 16) : (autCells cv pv n bm).setIfInBounds 18 (.map (some bq)) = autCells cv pv n bq := by
  apply Array.ext'
  simp only [autCells, Array.toList_setIfInBounds, List.set_cons_succ]
  congr 1
  rw [List.set_append_right _ _ (by omega), h]
  rfl
theorem pend_may {L : List Ev} (h : ∀ x ∈ L, x.may = true ∧ x.Ok) {c : Nat} {q : Ev} (hp : pend L c = some q) : q.may = true ∧ q.Ok := h q (List.mem_of_mem_drop (pend_client hp).2.2)
theorem results_evb {fn : Func} {p q : Tmp} (h : fn.results = #[.cell p 39, .tmp q]) (tmps : Array Value) (w : World) (g : Nat) (c : Array Value) (u : Value) (hp : tmps.getD p undef = .pointer (some ⟨g, 0, none⟩)) (hq : tmps.getD q undef = u) (hB : BoxAt w g c 39) (hc : c.size = 19) :
    (results fn tmps).run Tryz.prog w = .ok (.tuple #[.agg c, u]) w := by
  have hp' : tmps[p]?.getD undef = .pointer (some ⟨g, 0, none⟩) := by simpa using hp
  have hr' : tmps[q]?.getD undef = u := by simpa using hq
  have hl := run_loadVar_row (P := Tryz.prog) w g 39 39 c (0, 0) _ hB Tryz.underlying39 rfl (by rw [hc]; exact Tryz.infoEv)
  simp [results, h, hp', hr', asAddr, hl]
theorem zero_one : (Ev.zero.cells nil0 nil0).all (·.oneCell') = true := Ev.oneCell Ev.zero none none 0 0 0 0
set_option maxRecDepth 100000 in
set_option maxHeartbeats 2000000 in
theorem pendingNo_c {p bm : Nat} {L : List Ev} (w : World) (h : Aut w p bm L) (k : Nat) (hk : k < 16 → pend L k = none) (hkb : k < 256) : Calls Tryz.prog 25 #[.pointer (some ⟨p, 0, none⟩), .int .u8 k] w fun e w' => e = .returned (.tuple #[Ev.zero.val nil0 nil0, .bool false]) ∧ Fr w w' := by
  obtain ⟨cv, pv, n, D, h1, h2, h3⟩ := h
  have his := fun W (f : Fr w W) => autIs_c W (h1.fr f)
  have hZ := BoxAt.new w (Ev.zero.cells nil0 nil0) 39
  have hF0 := (Fr.refl w).alloc (.cells (Ev.zero.cells nil0 nil0) 39)
  have HI := Lib.hid his
  have hlt := h1.box.lt
  by_cases h16 : k < 16
  · have hi16 : ¬ (16 : Int) ≤ k := by omega
    obtain ⟨v, _, hv, hP⟩ := aut_client h1 h16
    rw [hk h16] at hP
    change v = _ at hP
    subst hP
    clear his h1 h3
    go_enter Tryz.func25, Tryz.ntmps25
    go_wp2_with fail
    refine (HI.out _ hF0).mono ?_
    rintro e w1 ⟨rfl, hb⟩
    have hF1 := hF0.trans hb
    have hZ1 := hZ.fr hb
    have hv1 := hF1.keep hv
    have hl1 := lt_of_cell hv1
    simp only at hl1
    clear hb hZ
    go_wp2_with ((with_reducible refine wpList_here (.store 39 (.tmp 4) (.tmp 22)) rfl ?_); refine wpList_store_old 39 (.tmp 4) (.tmp 22) rfl w.heap.size _ (Ev.zero.cells nil0 nil0) rfl rfl hZ1 Tryz.infoEv rfl zero_one rfl rfl ?_; intro w2 hw2)
    exact bodyPost_ret (v := .tuple #[.agg (Ev.zero.cells nil0 nil0), .bool false]) (results_evb rfl _ _ w.heap.size _ _ rfl rfl hw2.box rfl) rfl ⟨rfl, hw2.fr hF1 (Nat.le_refl _)⟩
  · have hi16 : (16 : Int) ≤ k := by omega
    clear his h1 h3
    go_enter Tryz.func25, Tryz.ntmps25
    go_wp2_with fail
    refine (HI.out _ hF0).mono ?_
    rintro e w1 ⟨rfl, hb⟩
    have hF1 := hF0.trans hb
    have hZ1 := hZ.fr hb
    clear hb hZ
    go_wp2_with ((with_reducible refine wpList_here (.store 39 (.tmp 4) (.tmp 22)) rfl ?_); refine wpList_store_old 39 (.tmp 4) (.tmp 22) rfl w.heap.size _ (Ev.zero.cells nil0 nil0) rfl rfl hZ1 Tryz.infoEv rfl zero_one rfl rfl ?_; intro w2 hw2)
    exact bodyPost_ret (v := .tuple #[.agg (Ev.zero.cells nil0 nil0), .bool false]) (results_evb rfl _ _ w.heap.size _ _ rfl rfl hw2.box rfl) rfl ⟨rfl, hw2.fr hF1 (Nat.le_refl _)⟩
set_option maxRecDepth 100000 in
set_option maxHeartbeats 2000000 in
theorem pendingYes_c {p bm : Nat} {L : List Ev} (w : World) (h : Aut w p bm L) (k : Nat) (h16 : k < 16) {q : Ev} (hq : pend L k = some q) : Calls Tryz.prog 25 #[.pointer (some ⟨p, 0, none⟩), .int .u8 k] w fun e w' => (∃ ta tn tc ra rn rc, e = .returned (.tuple #[q.val (.slice ta tn tc) (.slice ra rn rc), .bool true]) ∧ RdM w' (.slice ta tn tc) q.txn ∧ RdR w' (.slice ra rn rc) q.reads) ∧ Fr w w' := by
  obtain ⟨cv, pv, n, D, h1, h2, h3⟩ := h
  have his := fun W (f : Fr w W) => autIs_c W (h1.fr f)
  have hZ := BoxAt.new w (Ev.zero.cells nil0 nil0) 39
  have hF0 := (Fr.refl w).alloc (.cells (Ev.zero.cells nil0 nil0) 39)
  have HI := Lib.hid his
  have hlt := h1.box.lt
  have hi16 : ¬ (16 : Int) ≤ k := by omega
  have hl8 := Ev.may_txn (pend_may h3 hq).1
  obtain ⟨v, _, hv, hP⟩ := aut_client h1 h16
  rw [hq] at hP
  obtain ⟨b, hb, hE⟩ := hP
  subst hb
  obtain ⟨t, r, hB, ht, hr⟩ := hE
  obtain ⟨ra, rn, rc, rfl⟩ := hr.slice
  have how := fun W (f : Fr w W) => own2_c q t (.slice ra rn rc) W (ht.keep f) (hr.keep f) (by omega)
  unfold Ev.val at how
  have HW := Lib.hid how
  have HR := Lib.hid hr
  clear his h1 h3 ht hr how
  go_enter Tryz.func25, Tryz.ntmps25
  go_wp2_with fail
  refine (HI.out _ hF0).mono ?_
  rintro e w1 ⟨rfl, hb⟩
  have hF1 := hF0.trans hb
  have hZ1 := hZ.fr hb
  have hv1 := hF1.keep hv
  have hl1 := lt_of_cell hv1
  have hB1 := hB.fr hF1
  simp only at hl1
  clear hb hZ hB
  go_wp2_with ((with_reducible refine wpList_here (.load 39 (.tmp 29)) rfl ?_); refine wpList_load_box 39 (.tmp 29) rfl _ rfl _ hB1 _ Tryz.underlying39 rfl Tryz.infoEv rfl ?_)
  refine (HW.out _ hF1).mono ?_
  rintro e w2 ⟨ta, tn, tc, rfl, hm2, hb2⟩
  have hZ2 := hZ1.fr hb2
  have hF2 := hF1.trans hb2
  have hz1 : w.heap.size < w1.heap.size := hZ1.lt
  clear hZ1 hB1
  go_wp2_with ((with_reducible refine wpList_here (.store 39 (.tmp 4) (.tmp 31)) rfl ?_); refine wpList_store_old 39 (.tmp 4) (.tmp 31) rfl w.heap.size _ _ rfl rfl hZ2 Tryz.infoEv rfl (Ev.oneCell q ta ra tn tc rn rc) rfl rfl ?_; intro w3 hw3)
  have hm3 : SlAt w3 (w1.heap.size ≤ ·) (.slice ta tn tc) q.txn.length (micCells q.txn) := hm2.keep (by rw [hw3.size]; exact Nat.le_refl _) fun k hk _ => hw3.other k (by omega)
  have hF3 := hw3.fr hF2 (Nat.le_refl _)
  exact bodyPost_ret (v := .tuple #[q.val (.slice ta tn tc) (.slice ra rn rc), .bool true]) (results_evb rfl _ _ w.heap.size _ _ rfl rfl hw3.box rfl) rfl ⟨⟨ta, tn, tc, ra, rn, rc, rfl, hm3.mono fun _ _ => trivial, HR.out.keep hF3⟩, hF3⟩
theorem pending_c {p bm : Nat} {L : List Ev} (w : World) (h : Aut w p bm L) (k : Nat) (h16 : k < 16) : Calls Tryz.prog 25 #[.pointer (some ⟨p, 0, none⟩), .int .u8 k] w fun e w' => (∃ y ta tn tc ra rn rc, e = .returned (.tuple #[Ev.val y (.slice ta tn tc) (.slice ra rn rc), .bool (pend L k).isSome])) ∧ Fr w w' := by
  cases hp : pend L k with
  | none => exact (pendingNo_c w h k (fun _ => hp) (by omega)).mono fun e w' ⟨he, hf⟩ => ⟨⟨Ev.zero, none, 0, 0, none, 0, 0, he⟩, hf⟩
  | some q => exact (pendingYes_c w h k h16 hp).mono fun e w' ⟨⟨ta, tn, tc, ra, rn, rc, he, _⟩, hf⟩ => ⟨⟨q, ta, tn, tc, ra, rn, rc, he⟩, hf⟩
/-- How many clients have something open, of the first. -/
def openTo (L : List Ev) (k : Nat) : Nat := ((List.range k).filter fun c => (pend L c).isSome).length
theorem openTo_succ (L : List Ev) (k : Nat) : openTo L (k + 1) = openTo L k + if (pend L k).isSome then 1 else 0 := by
  unfold openTo
  rw [List.range_succ, List.filter_append, List.length_append]
  congr 1
  cases h : (pend L k).isSome <;> simp [h]
theorem openTo_le (L : List Ev) (k : Nat) : openTo L k ≤ k := by
  unfold openTo
  have := List.length_filter_le (fun c => (pend L c).isSome) (List.range k)
  simpa using this
set_option maxRecDepth 100000 in
set_option maxHeartbeats 2000000 in
theorem open_c {p bm : Nat} {L : List Ev} (w : World) (h : Aut w p bm L) : Calls Tryz.prog 21 #[.pointer (some ⟨p, 0, none⟩)] w fun e w' => e = .returned (.int .i64 (openTo L 16)) ∧ Fr w w' := by
  have hpd := fun k (hk : k < 16) W (f : Fr w W) => pending_c W (h.fr f) k hk
  have HP := Lib.hid hpd
  clear hpd h
  go_enter Tryz.func21, Tryz.ntmps21
  go_wp2_with fail
  go_loopw [3, 7] (fun n i wr => ∃ k : Nat, k ≤ 16 ∧ i = .int .u8 k ∧ n = .int .i64 (openTo L k) ∧ Fr w wr) (fun _ i _ => 16 - (intOf i).toNat)
  case atStart => exact ⟨0, Nat.zero_le _, rfl, rfl, Fr.refl _⟩
  case round =>
    obtain ⟨k, hk, rfl, rfl, hfr⟩ := hrel
    have hs := openTo_succ L k
    have hle := openTo_le L k
    by_cases h16 : k < 16
    · generalize openTo L k = R at hs hle
      have HS := Lib.hid hs
      clear hs
      go_wp2_with fail
      refine (HP.out k h16 _ hfr).mono ?_
      cases hb : (pend L k).isSome
      · rintro e w1 ⟨⟨y, ta, tn, tc, ra, rn, rc, rfl⟩, hf1⟩
        go_wp2_with ((with_reducible refine wpList_here (.store 39 (.tmp 5) (.tmp 14)) rfl ?_); refine wpList_store_new 39 (.tmp 5) (.tmp 14) rfl _ (y.cells (.slice ta tn tc) (.slice ra rn rc)) _ rfl rfl rfl Tryz.infoEv rfl (Ev.oneCell y ta ra tn tc rn rc) rfl rfl ?_)
        go_roundw
        case rel => exact ⟨k + 1, by omega, by go_num, by rw [HS.out, hb]; simp, (hfr.trans hf1).alloc _⟩
        case measure => simp [intOf]; omega
      · rintro e w1 ⟨⟨y, ta, tn, tc, ra, rn, rc, rfl⟩, hf1⟩
        go_wp2_with ((with_reducible refine wpList_here (.store 39 (.tmp 5) (.tmp 14)) rfl ?_); refine wpList_store_new 39 (.tmp 5) (.tmp 14) rfl _ (y.cells (.slice ta tn tc) (.slice ra rn rc)) _ rfl rfl rfl Tryz.infoEv rfl (Ev.oneCell y ta ra tn tc rn rc) rfl rfl ?_)
        go_roundw
        case rel => exact ⟨k + 1, by omega, by go_num, by rw [HS.out, hb]; simp, (hfr.trans hf1).alloc _⟩
        case measure => simp [intOf]; omega
    · obtain rfl : k = 16 := by omega
      clear hs
      go_wp2_with fail
      go_ret
      exact ⟨rfl, hfr⟩
end Go.Proofs.YtdjjjnoecfbjeaaGreatDoor

/- Lists of events; how many of them are taken. No condition but that they can be read, and the numbers' bounds. -/
namespace Go.Proofs.YtdjjjnoecfbjeaaGreatDoor
open Go.RowKit
attribute [local go_sem] Oper.semAt_some

/-- A list of events that can be read. -/
structure RdE (w : World) (v : Value) (l : List Ev) : Prop where
  is : ∃ a cap, v = .slice a l.length cap ∧ l.length ≤ cap ∧ cap ≤ maxLen ∧ (l = [] ∨ ∃ b off, a = some ⟨b, off, none⟩ ∧ b < w.heap.size ∧ ∀ i (h : i < l.length), ∃ t r, w.rangeAt b (off + i * 19) (l[i].cells t r).toList ∧ RdM w t l[i].txn ∧ RdR w r l[i].reads)
theorem rangeAt_keep {w w' : World} {b o : Nat} {cs : List Value} (h : w.rangeAt b o cs) (hb : w'.heap[b]? = w.heap[b]?) : w'.rangeAt b o cs := fun j v hj =>
  (World.cell?_of_block (a := ⟨b, o + j, none⟩) hb).trans (h j v hj)
theorem RdE.keep {w w' : World} {v : Value} {l : List Ev} (h : RdE w v l) (f : Fr w w') : RdE w' v l := by
  obtain ⟨a, cap, rfl, h1, h2, h3⟩ := h
  refine ⟨a, cap, rfl, h1, h2, ?_⟩
  rcases h3 with h3 | ⟨b, off, rfl, hb, hx⟩
  · exact .inl h3
  · refine .inr ⟨b, off, rfl, Nat.lt_of_lt_of_le hb f.size, fun i hi => ?_⟩
    obtain ⟨t, r, g1, g2, g3⟩ := hx i hi
    exact ⟨t, r, rangeAt_keep g1 (f.block hb), g2.keep f, g3.keep f⟩
theorem RdE.ch2 {w w' : World} {p q : Nat} {v : Value} {l : List Ev} (h : RdE w v l) (hp : Shut w p) (hq : Shut w q) (f : Ch2 p q w w') : RdE w' v l := by
  obtain ⟨a, cap, rfl, h1, h2, h3⟩ := h
  refine ⟨a, cap, rfl, h1, h2, ?_⟩
  rcases h3 with h3 | ⟨b, off, rfl, hb, hx⟩
  · exact .inl h3
  · cases l with
    | nil => exact .inl rfl
    | cons y l =>
      have hne : b ≠ p ∧ b ≠ q := by
        obtain ⟨t, r, g1, _⟩ := hx 0 (by simp)
        have hc := g1 0 (.int .u8 y.kind) rfl
        exact ⟨fun e => hp _ _ (e ▸ hc), fun e => hq _ _ (e ▸ hc)⟩
      refine .inr ⟨b, off, rfl, Nat.lt_of_lt_of_le hb f.size, fun i hi => ?_⟩
      obtain ⟨t, r, g1, g2, g3⟩ := hx i hi
      exact ⟨t, r, rangeAt_keep g1 (f.block b hb hne.1 hne.2), g2.ch2 hp hq f, g3.ch2 hp hq f⟩
/-- One of them. -/
theorem RdE.at {w : World} {a : Option Addr} {n cap : Nat} {l : List Ev} (h : RdE w (.slice a n cap) l) {k : Nat} (hk : k < l.length) : ∃ b off t r, a = some ⟨b, off, none⟩ ∧ b < w.heap.size ∧ w.rangeAt b (off + k * 19) (l[k].cells t r).toList ∧ RdM w t l[k].txn ∧ RdR w r l[k].reads := by
  obtain ⟨a', cap', he, _, _, h3⟩ := h
  cases he
  rcases h3 with h3 | ⟨b, off, h4, hb, hx⟩
  · subst h3; simp at hk
  · obtain ⟨t, r, g⟩ := hx k hk
    exact ⟨b, off, t, r, h4, hb, g⟩
theorem takeAll_cons (L : List Ev) (x : Ev) (l : List Ev) : takeAll L (x :: l) = if stepWhy L x = 0 then ((takeAll (L ++ [x]) l).1 + 1, (takeAll (L ++ [x]) l).2) else (0, stepWhy L x) := rfl
theorem takeAll_take {l : List Ev} : ∀ k, k ≤ l.length → (∀ i (h : i < k) (h2 : i < l.length), stepWhy (l.take i) l[i] = 0) → takeAll [] l = ((takeAll (l.take k) (l.drop k)).1 + k, (takeAll (l.take k) (l.drop k)).2)
  | 0, _, _ => by simp
  | k + 1, hk, hall => by
    rw [takeAll_take k (by omega) fun i h h2 => hall i (by omega) h2]
    have hlt : k < l.length := by omega
    have h0 := hall k (by omega) hlt
    rw [List.drop_eq_getElem_cons hlt, List.take_succ_eq_append_getElem hlt, takeAll_cons, if_pos h0]
    simp [Nat.add_assoc, Nat.add_comm]
set_option maxRecDepth 100000 in
set_option maxHeartbeats 2000000 in
theorem all_c (l : List Ev) (v : Value) (w : World) (hE : Env w) (hl : RdE w v l) (hok : ∀ x ∈ l, x.Ok) (hn : l.length ≤ 1000) :
    Calls Tryz.prog 8 #[v] w fun e w' => e = .returned (.tuple #[.int .i64 (takeAll [] l).1, .int .i64 (takeAll [] l).2]) ∧ Fr w w' := by
  obtain ⟨a, cap, rfl, hcap, hmax, _⟩ := id hl
  unfold maxLen at hmax
  have HL := Lib.hid hl
  have HE := Lib.hid hE
  clear hl hE
  generalize hT : takeAll [] l = T
  have HT := Lib.hid hT
  clear hT
  go_enter Tryz.func8, Tryz.ntmps8
  go_wp2_with fail
  refine (new_c _).mono ?_
  rintro e w1 ⟨⟨p, bm, rfl, hp, hb, hA⟩, hf1⟩
  go_wp2_with fail
  go_loopw [2, 11] (fun n i wr => ∃ k : Nat, k ≤ l.length ∧ i = .int .i64 k ∧ n = .int .i64 k ∧ Fr w wr ∧ Aut wr p bm (l.take k) ∧ ∀ i (h : i < k) (h2 : i < l.length), stepWhy (l.take i) l[i] = 0) (fun _ i _ => l.length - (intOf i).toNat)
  case atStart => exact ⟨0, Nat.zero_le _, rfl, rfl, hf1, hA, fun i h => absurd h (Nat.not_lt_zero _)⟩
  case round =>
    clear hA hf1
    obtain ⟨k, hk, rfl, rfl, hfr, hA, hpre⟩ := hrel
    by_cases hlt : k < l.length
    · obtain ⟨b1, o1, t, r, rfl, hb1, hx, ht, hr⟩ := RdE.at (HL.out.keep hfr) hlt
      have hok1 := hok _ (List.getElem_mem hlt)
      have hk1 : k < cap := by omega
      have hTT := takeAll_take (l := l) k (by omega) hpre
      rw [List.drop_eq_getElem_cons hlt] at hTT
      have hpre2 : stepWhy (l.take k) l[k] = 0 → ∀ i (h : i < k + 1) (h2 : i < l.length), stepWhy (l.take i) l[i] = 0 := fun h0 i h h2 => by
        by_cases he : i < k
        · exact hpre i he h2
        · obtain rfl : i = k := by omega
          exact h0
      have hst : stepWhy (l.take k) l[k] = 0 → stepTo (l.take k) l[k] = l.take (k + 1) := fun h0 => by rw [stepTo_yes h0, List.take_succ_eq_append_getElem hlt]
      have hlen : (l.take k).length ≤ 100000000 := by simp; omega
      have hstep := fun W (hA : Aut W p bm (l.take k)) (hE : Env W) (hx : EvAt W (l[k].val t r) l[k]) => step_c W hA hE hx hok1 hlen
      generalize l[k] = x at hx ht hr hTT hpre2 hst hstep
      obtain ⟨ta, tn, tc, rfl⟩ := ht.slice
      obtain ⟨ra, rn, rc, rfl⟩ := hr.slice
      have HX : Hid (∀ W, Fr wr W → EvAt W (x.val (.slice ta tn tc) (.slice ra rn rc)) x) := fun W f => ⟨_, _, rfl, ht.keep f, hr.keep f⟩
      have HA := Lib.hid hA
      have HS := Lib.hid hstep
      have HP := Lib.hid hpre2
      have HQ := Lib.hid hst
      have HTT := Lib.hid hTT
      clear hA hpre hpre2 hst hTT ht hr hstep
      unfold Ev.val at HS HX
      go_wp2_with (first | ((with_reducible refine wpList_here (.load 39 (.tmp 13)) rfl ?_); refine wpList_load_mid rfl 39 (.tmp 13) rfl b1 (o1 + k * 19) rfl (x.cells (.slice ta tn tc) (.slice ra rn rc)).toList _ hx Tryz.underlying39 rfl Tryz.infoEv ?_) | ((with_reducible refine wpList_here (.store 39 (.tmp 6) (.tmp 14)) rfl ?_); refine wpList_store_new 39 (.tmp 6) (.tmp 14) rfl _ (x.cells (.slice ta tn tc) (.slice ra rn rc)) _ rfl rfl rfl Tryz.infoEv rfl (Ev.oneCell x ta ra tn tc rn rc) rfl rfl ?_) | ((with_reducible refine wpList_here (.load 39 (.tmp 6)) rfl ?_); refine wpList_load_box 39 (.tmp 6) rfl _ rfl _ (BoxAt.new _ _ _) _ Tryz.underlying39 rfl Tryz.infoEv rfl ?_))
      have hfA := (Fr.refl wr).alloc (.cells (x.cells (.slice ta tn tc) (.slice ra rn rc)) 39)
      refine (HS.out _ (HA.out.fr hfA) (HE.out.keep (hfr.trans hfA)) (HX _ hfA)).mono ?_
      rintro e w2 ⟨rfl, hA2, hch2⟩
      have hF2 : Fr w w2 := Ch2.fr (hfr.trans hfA) hch2 hp hb
      have HA2 := Lib.hid hA2
      clear hx hA2 hch2 HX hfA
      by_cases h0 : stepWhy (l.take k) x = 0
      · have hE0 : ((stepWhy (l.take k) x : Int) != 0) = false := by simp; omega
        have h1 := HQ.out h0
        have h2 := HP.out h0
        have HA3 : Hid (Aut w2 p bm (l.take (k + 1))) := by have := HA2.out; rwa [h1] at this
        generalize stepWhy (l.take k) x = S at hE0
        clear h0 h1
        go_wp2_with fail
        go_roundw
        case rel => exact ⟨k + 1, by omega, by go_num, by go_num, hF2, HA3.out, h2⟩
        case measure => simp [intOf]; omega
      · have hE0 : ((stepWhy (l.take k) x : Int) != 0) = true := by simp; omega
        have hT := HTT.out
        rw [HT.out, takeAll_cons, if_neg h0] at hT
        simp only [Nat.zero_add] at hT
        subst hT
        clear h0 HT HTT
        go_wp2_with fail
        go_ret2
        exact ⟨rfl, hF2⟩
    · have hkk : k = l.length := by omega
      subst hkk
      have hT := takeAll_take (l := l) l.length (Nat.le_refl _) hpre
      rw [HT.out] at hT
      simp [takeAll] at hT
      subst hT
      clear HT hpre
      go_wp2_with fail
      go_ret2
      exact ⟨rfl, hfr⟩
end Go.Proofs.YtdjjjnoecfbjeaaGreatDoor

/- Events that are written out, and lists of them. No condition but that what they hold can be read. -/
namespace Go.Proofs.YtdjjjnoecfbjeaaGreatDoor
open Go.RowKit
attribute [local go_sem] Oper.semAt_some

theorem Tryz.infoEvH : (Tryz.prog.info? 39).map (fun i => (i.zero, i.size)) = some (some (Ev.zero.val nil0 nil0), 19) := by kernel_rfl
theorem evs_cells (evs : List (Ev × Value × Value)) : ((evs.map fun e => e.1.val e.2.1 e.2.2).flatMap fun v => v.cells.toList) = evs.flatMap fun e => (e.1.cells e.2.1 e.2.2).toList := by
  induction evs with
  | nil => rfl
  | cons e l ih => rw [List.map_cons, List.flatMap_cons, List.flatMap_cons, ih]; rfl
theorem flat19 {α : Type} {g : α → List Value} (hg : ∀ x, (g x).length = 19) : ∀ (l : List α) (i j : Nat) (h : i < l.length) (u : Value), (g l[i])[j]? = some u → (l.flatMap g)[i * 19 + j]? = some u
  | [], i, j, h, u, _ => by simp at h
  | x :: l, 0, j, h, u, hu => by
    rw [List.flatMap_cons, List.getElem?_append_left]
    · simpa using hu
    · have := (List.getElem?_eq_some_iff.1 hu).1
      simp at this ⊢
      exact this
  | x :: l, i + 1, j, h, u, hu => by
    have e : (i + 1) * 19 + j = 19 + (i * 19 + j) := by omega
    rw [List.flatMap_cons, e, List.getElem?_append_right (by rw [hg]; omega), hg, Nat.add_sub_cancel_left]
    exact flat19 hg l i j (by simpa using h) u (by simpa using hu)
/-- A slice literal of events. -/
theorem wpList_buildEvs {ops : Array Oper} {rest : List Oper} {o : Oper} {a : Act} {w : World} {Q : Exit → Act → World → Prop} (len : Nat) (parts : Array (Nat × Operand)) (ho : o.op = .buildSlice 22 len parts) (evs : List (Ev × Value × Value))
    (hev : (parts.map fun (i, x) => (i, a.eval x)).toList = ((evs.map fun e => e.1.val e.2.1 e.2.2).zipIdx 0).map fun x => (x.2, x.1)) (hlen : len = evs.length) (hpos : 0 < len) (hsm : len ≤ 1000)
    (hr : ∀ e ∈ evs, RdM w e.2.1 e.1.txn ∧ RdR w e.2.2 e.1.reads) (hw : Region.wanted o (yielded ops a.tmps) = true)
    (h : ∀ w', Fr w w' → w'.heap.size = w.heap.size + 1 → RdE w' (.slice (some ⟨w.heap.size, 0, none⟩) len len) (evs.map (·.1)) → wpList Tryz.prog ops Q rest (a.put o.dst (.slice (some ⟨w.heap.size, 0, none⟩) len len)) w') : wpList Tryz.prog ops Q (o :: rest) a w := by
  refine wpList_step fun K hK => ?_
  simp only [hw, if_true]
  have hi := Tryz.infoEvH
  cases hie : Tryz.prog.info? 39 with
  | none => rw [hie] at hi; cases hi
  | some ie =>
    rw [hie] at hi
    simp only [Option.map_some, Option.some.injEq, Prod.mk.injEq] at hi
    obtain ⟨hz, hs⟩ := hi
    refine Go.wp_buildSlice 22 39 len parts ho (evs.flatMap fun e => (e.1.cells e.2.1 e.2.2).toList).toArray ie _ Tryz.underlying22 hie hz (by rw [hs]; omega) (by rw [hs]; omega) ?_ (hK _ _ (h _ ((Fr.refl w).alloc _) (by simp) ⟨_, len, by simp [hlen], by simp [hlen], by unfold maxLen; omega, .inr ⟨w.heap.size, 0, rfl, by simp, fun i hi => ?_⟩⟩))
    · rw [hev, hs, Great.fill_whole (by omega) _ _ (fun v hv => by obtain ⟨e, _, rfl⟩ := List.mem_map.1 hv; rfl) (by simp [hlen]), evs_cells]
    · have hi2 : i < evs.length := by simpa using hi
      refine ⟨evs[i].2.1, evs[i].2.2, fun j u hj => ?_, ?_⟩
      · have h1 : (evs.map (·.1))[i] = evs[i].1 := by simp
        rw [h1] at hj
        have := flat19 (g := fun e : Ev × Value × Value => (e.1.cells e.2.1 e.2.2).toList) (fun _ => rfl) evs i j hi2 u hj
        rw [(BoxAt.new w _ _).cell, Nat.zero_add]
        simpa using this
      · have h1 : (evs.map (·.1))[i] = evs[i].1 := by simp
        rw [h1]
        have := hr _ (List.getElem_mem hi2)
        exact ⟨this.1.keep ((Fr.refl w).alloc _), this.2.keep ((Fr.refl w).alloc _)⟩
def invEv (c i f v : Nat) : Ev := { Ev.zero with kind := 2, client := c, id := i, op := ⟨f, 0, 0, v, 0⟩ }
def retEv (c i k v : Nat) : Ev := { Ev.zero with kind := 3, client := c, id := i, rk := k, rv := v }
def plainEv (k c i : Nat) : Ev := { Ev.zero with kind := k, client := c, id := i }
def beginEv (c i : Nat) (l : List Mic) : Ev := { Ev.zero with kind := 5, client := c, id := i, txn := l }
def cfgEv (m : Nat) : Ev := { Ev.zero with kind := 1, cfg := ⟨m, 8, 10, 100, false, false, false⟩ }
set_option maxRecDepth 100000 in
theorem invoke_c (c i f v : Nat) (w : World) : Calls Tryz.prog 13 #[.int .u8 c, .int .u16 i, .int .u8 f, .int .u16 v] w fun e w' => e = .returned ((invEv c i f v).val nil0 nil0) ∧ Fr w w' := by
  go_enter Tryz.func13, Tryz.ntmps13
  go_wp2_with ((with_reducible refine wpList_here (.store 39 (.tmp 8) (.tmp 14)) rfl ?_); refine wpList_store_new 39 (.tmp 8) (.tmp 14) rfl _ ((invEv c i f v).cells nil0 nil0) _ rfl rfl rfl Tryz.infoEv rfl (Ev.oneCell _ _ _ _ _ _ _) rfl rfl ?_)
  exact bodyPost_ret (v := (invEv c i f v).val nil0 nil0) (results_evg rfl _ _ w.heap.size _ rfl (BoxAt.new _ _ _) rfl) rfl ⟨rfl, (Fr.refl _).alloc _⟩
set_option maxRecDepth 100000 in
theorem ret_c (c i f v : Nat) (w : World) : Calls Tryz.prog 15 #[.int .u8 c, .int .u16 i, .int .u8 f, .int .u16 v] w fun e w' => e = .returned ((retEv c i f v).val nil0 nil0) ∧ Fr w w' := by
  go_enter Tryz.func15, Tryz.ntmps15
  go_wp2_with ((with_reducible refine wpList_here (.store 39 (.tmp 8) (.tmp 14)) rfl ?_); refine wpList_store_new 39 (.tmp 8) (.tmp 14) rfl _ ((retEv c i f v).cells nil0 nil0) _ rfl rfl rfl Tryz.infoEv rfl (Ev.oneCell _ _ _ _ _ _ _) rfl rfl ?_)
  exact bodyPost_ret (v := (retEv c i f v).val nil0 nil0) (results_evg rfl _ _ w.heap.size _ rfl (BoxAt.new _ _ _) rfl) rfl ⟨rfl, (Fr.refl _).alloc _⟩
set_option maxRecDepth 100000 in
theorem config_c (m : Nat) (w : World) : Calls Tryz.prog 14 #[.int .u8 m] w fun e w' => e = .returned ((cfgEv m).val nil0 nil0) ∧ Fr w w' := by
  go_enter Tryz.func14, Tryz.ntmps14
  go_wp2_with ((with_reducible refine wpList_here (.store 39 (.tmp 2) (.tmp 5)) rfl ?_); refine wpList_store_new 39 (.tmp 2) (.tmp 5) rfl _ ((cfgEv m).cells nil0 nil0) _ rfl rfl rfl Tryz.infoEv rfl (Ev.oneCell _ _ _ _ _ _ _) rfl rfl ?_)
  exact bodyPost_ret (v := (cfgEv m).val nil0 nil0) (results_evg rfl _ _ w.heap.size _ rfl (BoxAt.new _ _ _) rfl) rfl ⟨rfl, (Fr.refl _).alloc _⟩
end Go.Proofs.YtdjjjnoecfbjeaaGreatDoor

/- Events, one behind the other, answered as they should be. No condition but that they can be read. -/
namespace Go.Proofs.YtdjjjnoecfbjeaaGreatDoor
open Go.RowKit
attribute [local go_sem] Oper.semAt_some

/-- The events that are taken of some. -/
def runTo (l : List Ev) : List Ev := l.foldl stepTo []
theorem runTo_take {l : List Ev} {k : Nat} (h : k < l.length) : runTo (l.take (k + 1)) = stepTo (runTo (l.take k)) l[k] := by
  unfold runTo
  rw [List.take_succ_eq_append_getElem h, List.foldl_append]
  rfl
theorem stepTo_len (L : List Ev) (x : Ev) : (stepTo L x).length ≤ L.length + 1 := by
  unfold stepTo
  split <;> simp
theorem foldl_len (l : List Ev) : ∀ L : List Ev, (l.foldl stepTo L).length ≤ L.length + l.length := by
  induction l with
  | nil => intro L; simp
  | cons x l ih =>
    intro L
    have h1 := ih (stepTo L x)
    have h2 := stepTo_len L x
    simp only [List.foldl_cons, List.length_cons]
    omega
theorem runTo_len (l : List Ev) : (runTo l).length ≤ l.length := by
  have := foldl_len l []
  simpa [runTo] using this
/-- Are they answered so? -/
def answers (l : List Ev) (want : List Nat) : Prop := want.length = l.length ∧ ∀ i (h : i < l.length) (h2 : i < want.length), want[i] = stepWhy (runTo (l.take i)) l[i]
/-- A list of numbers that can be read. -/
def RdI (w : World) (v : Value) (l : List Nat) : Prop := SlAt w Any v l.length (l.map fun n : Nat => Value.int .i64 (n : Int))
theorem Tryz.infoErr : (Tryz.prog.info? 40).map (·.size) = some 1 := by kernel_rfl
set_option maxRecDepth 100000 in
set_option maxHeartbeats 4000000 in
theorem steps_c (l : List Ev) (want : List Nat) (v u : Value) (w : World) (hE : Env w) (hl : RdE w v l) (hu : RdI w u want) (hok : ∀ x ∈ l, x.Ok) (hn : l.length ≤ 1000) (ha : answers l want) :
    Calls Tryz.prog 12 #[v, u] w fun e w' => e = .returned (.bool true) ∧ Fr w w' := by
  obtain ⟨hlen, hans⟩ := ha
  obtain ⟨a, cap, rfl, hcap, hmax, _⟩ := id hl
  obtain ⟨c, cap2, rfl, hcap2, hmax2, hus⟩ := hu
  unfold maxLen at hmax hmax2
  have hlI : ((l.length : Int) != (want.length : Int)) = false := by simp; omega
  have HL := Lib.hid hl
  have HE := Lib.hid hE
  have HN := Lib.hid hlen
  clear hl hE hlen
  go_enter Tryz.func12, Tryz.ntmps12
  go_wp2_with fail
  refine (new_c _).mono ?_
  rintro e w1 ⟨⟨p, bm, rfl, hp, hb, hA⟩, hf1⟩
  go_wp2_with fail
  go_loopw [6] (fun i wr => ∃ k : Nat, k ≤ l.length ∧ i = .int .i64 k ∧ Fr w wr ∧ Aut wr p bm (runTo (l.take k))) (fun i _ => l.length - (intOf i).toNat)
  case atStart => exact ⟨0, Nat.zero_le _, rfl, hf1, hA⟩
  case round =>
    clear hA hf1
    obtain ⟨k, hk, rfl, hfr, hA⟩ := hrel
    by_cases hlt : k < l.length
    · obtain ⟨b1, o1, t, r, rfl, hb1, hx0, ht0, hr0⟩ := RdE.at HL.out hlt
      have hx := rangeAt_keep hx0 (hfr.block hb1)
      have ht := ht0.keep hfr
      have hr := hr0.keep hfr
      have hc20 := hb1
      clear ht0 hr0 hc20
      have hltw : k < want.length := by rw [HN.out]; exact hlt
      obtain ⟨b2, o2, rfl, _, hb2, hcell⟩ := hus.resolve_left (by intro h; have := congrArg List.length h; simp at this; rw [this] at hltw; simp at hltw)
      have hc0 := hcell k _ (by rw [List.getElem?_map, List.getElem?_eq_getElem hltw]; rfl)
      have hc2 := hfr.keep hc0
      have hwk := hans k hlt hltw
      have hok1 := hok _ (List.getElem_mem hlt)
      have hrt := runTo_take hlt
      have hlen1 : (runTo (l.take k)).length ≤ 100000000 := by have := runTo_len (l.take k); simp at this; omega
      generalize want[k] = wk at hc0 hc2 hwk
      have hstep := fun W (hA : Aut W p bm (runTo (l.take k))) (hE : Env W) (hx : EvAt W (l[k].val t r) l[k]) => step_c W hA hE hx hok1 hlen1
      rw [← hwk] at hstep
      rw [← hrt] at hstep
      generalize l[k] = x at hx0 hx ht hr hwk hstep hrt
      obtain ⟨ta, tn, tc, rfl⟩ := ht.slice
      obtain ⟨ra, rn, rc, rfl⟩ := hr.slice
      have hk1 : k < cap := by omega
      have hk2 : k < cap2 := by omega
      have HA := Lib.hid hA
      have HX : Hid (EvAt wr (x.val (.slice ta tn tc) (.slice ra rn rc)) x) := ⟨_, _, rfl, ht, hr⟩
      have HS := Lib.hid hstep
      clear hA hstep hwk hrt hans hus ht hr hcell
      unfold Ev.val at HS HX
      go_wp2_with fail
      have HSS : wr.rangeAt b1 (o1 + k * 19) (x.cells (.slice ta tn tc) (.slice ra rn rc)).toList ∧ wr.cell? ⟨b2, o2 + k * 1, none⟩ = some (.int .i64 wk) := ⟨hx, by rw [Nat.mul_one]; exact hc2⟩
      refine wp_region_held (S := fun W' => W'.rangeAt b1 (o1 + k * 19) (x.cells (.slice ta tn tc) (.slice ra rn rc)).toList ∧ W'.cell? ⟨b2, o2 + k * 1, none⟩ = some (.int .i64 wk)) (by kernel_rfl) ?_
      refine takeD 0 23 (v := .pointer (some ⟨p, 0, none⟩)) rfl rfl (by kernel_rfl) (by kernel_rfl) (by kernel_rfl) (fun _ _ _ h => h) (yRun rfl fun _ _ => rfl) HSS ?_
      simp only [List.setIfInBounds_toArray, List.set_cons_succ, List.set_cons_zero]
      refine takeD 1 24 (v := .slice (some ⟨b1, o1, none⟩) l.length cap) rfl rfl (by kernel_rfl) (by kernel_rfl) (by kernel_rfl) (fun _ _ _ h => h) (yRun rfl fun _ _ => rfl) HSS ?_
      simp only [List.setIfInBounds_toArray, List.set_cons_succ, List.set_cons_zero]
      refine takeD 2 25 (v := .int .i64 k) rfl rfl (by kernel_rfl) (by kernel_rfl) (by kernel_rfl) (fun _ _ _ h => h) (yRun rfl fun _ _ => rfl) HSS ?_
      simp only [List.setIfInBounds_toArray, List.set_cons_succ, List.set_cons_zero]
      refine takeD 3 26 (v := .pointer (some ⟨b1, o1 + k * 19, none⟩)) rfl rfl (by kernel_rfl) (by kernel_rfl) (by kernel_rfl) (fun _ _ _ h => h) (yRun rfl fun _ _ => run_idx 22 39 (.tmp 24) (.tmp 25) rfl b1 o1 l.length cap k 19 .i64 rfl rfl Tryz.underlying22 Tryz.infoEv hlt) HSS ?_
      simp only [List.setIfInBounds_toArray, List.set_cons_succ, List.set_cons_zero]
      refine takeD 4 27 (v := .agg (x.cells (.slice ta tn tc) (.slice ra rn rc)).toList.toArray) rfl rfl (by kernel_rfl) (by kernel_rfl) (by kernel_rfl) (fun _ _ _ h => h) (yRun rfl fun _ hS => run_ld_mid 39 (.tmp 26) rfl b1 (o1 + k * 19) rfl _ _ hS.1 Tryz.underlying39 rfl Tryz.infoEv) HSS ?_
      simp only [List.setIfInBounds_toArray, List.set_cons_succ, List.set_cons_zero]
      refine takeD 6 29 (v := .slice (some ⟨b2, o2, none⟩) want.length cap2) rfl rfl (by kernel_rfl) (by kernel_rfl) (by kernel_rfl) (fun _ _ _ h => h) (yRun rfl fun _ _ => rfl) HSS ?_
      simp only [List.setIfInBounds_toArray, List.set_cons_succ, List.set_cons_zero]
      refine takeD 7 30 (v := .int .i64 k) rfl rfl (by kernel_rfl) (by kernel_rfl) (by kernel_rfl) (fun _ _ _ h => h) (yRun rfl fun _ _ => rfl) HSS ?_
      simp only [List.setIfInBounds_toArray, List.set_cons_succ, List.set_cons_zero]
      refine takeD 8 31 (v := .pointer (some ⟨b2, o2 + k * 1, none⟩)) rfl rfl (by kernel_rfl) (by kernel_rfl) (by kernel_rfl) (fun _ _ _ h => h) (yRun rfl fun _ _ => run_idx 68 40 (.tmp 29) (.tmp 30) rfl b2 o2 want.length cap2 k 1 .i64 rfl rfl Tryz.underlying68 Tryz.infoErr hltw) HSS ?_
      simp only [List.setIfInBounds_toArray, List.set_cons_succ, List.set_cons_zero]
      refine takeD 9 32 (v := .int .i64 wk) rfl rfl (by kernel_rfl) (by kernel_rfl) (by kernel_rfl) (fun _ _ _ h => h) (yRun rfl fun W hS => run_ld 40 (.tmp 31) rfl _ rfl _ (by have := hS.2; rw [Nat.mul_one] at this; simp [go_sem, Instr.loadAt, this, Tryz.underlying40])) HSS ?_
      simp only [List.setIfInBounds_toArray, List.set_cons_succ, List.set_cons_zero]
      refine wpAnyH_all (rs := [5]) (by kernel_rfl) (by simp) (fun i hi => ?_)
      obtain rfl : i = 5 := by simpa using hi
      refine wpOp_enter rfl rfl 10 #[.pointer (some ⟨p, 0, none⟩), x.val (.slice ta tn tc) (.slice ra rn rc)] (run_call Tryz.func10 (by kernel_rfl) rfl _ _ rfl _ (by simp [Act.eval]; rfl)) (.int .i64 wk) ?_
      refine (HS.out _ (HA.out.fr ((Fr.refl _).drew)) (HE.out.keep hfr.drew) (HX.out.keep ((Fr.refl _).drew))).mono ?_
      rintro e w2 ⟨rfl, hA2, hch2⟩
      have hF2 : Fr w w2 := Ch2.fr hfr.drew hch2 hp hb
      have hS2 : w2.rangeAt b1 (o1 + k * 19) (x.cells (.slice ta tn tc) (.slice ra rn rc)).toList ∧ w2.cell? ⟨b2, o2 + k * 1, none⟩ = some (.int .i64 wk) := ⟨rangeAt_keep hx0 (hF2.block hb1), by rw [Nat.mul_one]; exact hF2.keep hc0⟩
      refine ⟨rfl, hS2, ?_⟩
      refine wpAnyH_all (rs := [10]) (by kernel_rfl) (by simp) (fun i hi => ?_)
      obtain rfl : i = 10 := by simpa using hi
      refine wpOp_run rfl rfl (.bool false) w2 ?_ ?_
      · unfold execOp
        simp [go_sem, Act.eval, Act.put, Tryz.underlying40]
      refine ⟨hS2, wpAnyH_done (by kernel_rfl) ?_ _⟩
      have HA2 := Lib.hid hA2
      clear hA2 hch2 hS2 HSS hx hx0 hc0 hc2 HS HX HA
      simp only [Act.put, List.setIfInBounds_toArray, List.set_cons_succ, List.set_cons_zero]
      go_wp2_with fail
      go_roundw
      case rel => exact ⟨k + 1, by omega, by go_num, hF2, HA2.out⟩
      case measure => simp [intOf]; omega
    · clear hA hus hans
      go_wp2_with fail
      go_ret
      exact ⟨rfl, hfr⟩
end Go.Proofs.YtdjjjnoecfbjeaaGreatDoor
