/- (*words).commit: the walk. No condition but what each says. Printed by gen_txtcommit.py. -/
import Derived.Test.YtfklgaeejmeipaaGreatDoorPTxtWdI
import Derived.Defers
import Derived.Recover
set_option linter.all false
set_option linter.unusedVariables false
set_option linter.unusedSimpArgs false
set_option linter.unnecessarySimpa false
/- (*words).commit: the walk. No condition but what each says. Printed by gen_txtcommit.py. -/
namespace Go.Proofs.YtfklgaeejmeipaaGreatDoor
open Go.RowKit

/-- It gives up, or the event has these lists, and no word is left. -/
def ComOut (w0 w : World) (B : Nat) (t : Value) (x : Ev) (o : Option (List (List Nat))) (e : Ending) (w' : World) : Prop := match o with | none => GaveUp w0 e w' | some y => ∃ rv, WdRet w0 w B [] { x with reads := y } t rv e w' ∧ RdRZ (w.heap.size ≤ ·) w' rv y
/-- A row of numbers of a call's own since w0. -/
structure RowN (w0 w : World) (v : Value) (l : List Nat) : Prop where
  frm : Fr w0 w
  own : w.ownsRow w0.heap.size 22 1 v l.length (u16Cells l)
theorem RowN.fr {w0 w w' : World} {v : Value} {l : List Nat} (h : RowN w0 w v l) (f : Fr w w') : RowN w0 w' v l := ⟨h.frm.trans f, ownsRow_fr h.own f⟩
theorem u16_app (l : List Nat) (n : Nat) : u16Cells (l ++ [n]) = u16Cells l ++ [.int .u16 n] := by simp [u16Cells]
set_option maxRecDepth 100000 in
set_option maxHeartbeats 1000000 in
theorem commit_c {w0 w : World} {B : Nat} {v t : Value} {l : List W8} {x : Ev} (h : WdAt w0 w B v l x t (.slice none 0 0)) (hx : x.reads = []) (hE : Env0 w0) (hs : ∀ s ∈ l, s.length < 100000) (hn : l.length < 1000000) :
    Calls Tryz.prog 80 #[.pointer (some ⟨B, 0, none⟩)] w (ComOut w0 w B t x (listsN l)) := by
  have hlt := h.box.lt
  have hst0 : ComSt w0 w B x t v (.slice none 0 0) [] l [] w := ⟨by rw [show ({ x with reads := [] } : Ev) = x by rw [← hx]]; exact h, World.ownsRow_nil _ _ _ _, rfl, fun i l u hl => by simp at hl, Oth.refl _ _, hlt⟩
  generalize hO : listsN l = O
  have H0 := Lib.hid hst0
  have HO := Lib.hid hO
  have HE := Lib.hid hE
  obtain ⟨i0, hi0, hz0, hz1, hz2'⟩ := info_parts Tryz.infoL16T
  obtain ⟨i1, hj0, hy0, hy1, hy2'⟩ := info_parts Tryz.infoU16T
  clear h hst0 hO hE
  go_enter Tryz.func80, Tryz.ntmps80
  go_wp2_with fail
  go_loopw [2] (fun _ wr => ∃ (v rv : Value) (vs : List Value) (lw : List W8) (acc : List (List Nat)), ComSt w0 w B x t v rv vs lw acc wr ∧ Hid (O = (listsN lw).map (acc ++ ·)) ∧ acc.length + lw.length < 1000000 ∧ Hid (∀ s ∈ lw, s.length < 100000)) (fun _ wr => left B wr)
  case atStart => exact ⟨v, _, [], l, [], H0.out, by show O = _; rw [← HO.out]; cases listsN l <;> rfl, by simpa using hn, hs⟩
  case round =>
    clear H0 HO hs hn
    obtain ⟨v, rv, vs, lw, acc, hst, HO, hlen, HS⟩ := hrel
    have HST := Lib.hid hst
    have hleft := hst.wd.left
    cases lw with
    | nil =>
      obtain ⟨a, cap, rfl, _, _⟩ := hst.wd.rd.form
      have c0 : wr.cell? ⟨B, 0, none⟩ = some (.slice a 0 cap) := hst.wd.box.at 0 rfl
      clear hst hleft
      go_wp2_with fail
      go_end0
      have hz : O = some acc := by rw [HO.out]; simp [listsN]
      rw [hz]
      exact ⟨rv, ⟨rfl, _, HST.out.wd, HST.out.oth⟩, HST.out.done⟩
    | cons s0 l0 =>
      obtain ⟨a0, cap, rfl, _, _⟩ := hst.wd.rd.form
      have c0 : wr.cell? ⟨B, 0, none⟩ = some (.slice a0 (s0 :: l0).length cap) := hst.wd.box.at 0 rfl
      have hpos : (0 : Int) < (((s0 :: l0).length : Nat) : Int) := by simp only [List.length_cons]; omega
      have HC1 := Lib.hid (take_c hst.wd)
      have HS0 : Hid (∀ s ∈ l0, s.length < 100000) := Lib.hid (fun s hm => HS.out s (by simp [hm]))
      have hs0 := HS.out s0 (by simp)
      have hlt := hst.lt
      have HLS := Lib.hid (listsN_cons s0 l0)
      simp only [List.length_cons] at hlen hleft
      clear hst
      go_wp2_with fail
      refine HC1.out.mono ?_
      rintro e w1 ⟨rfl, v1, W1, O1⟩
      have HST1 := Lib.hid (HST.out.call W1 O1)
      clear W1 O1 HC1 HST c0
      obtain ⟨wo, rfl⟩ : ∃ wo, wo = wr := ⟨_, rfl⟩
      by_cases hm : s0 = [45]
      · have HNX : Hid (O = (listsN l0).map ((acc ++ [[]]) ++ ·)) := Lib.hid (by rw [HO.out, HLS.out, listN, if_pos hm]; simp [Option.map_map, Function.comp_def])
        subst hm
        have HSTW := HST1
        have HU : Hid (SlAt w1 (fun b => some b ≠ rv.ownBlock ∧ w.heap.size ≤ b) (.slice none 0 0) ([] : List Nat).length (u16Cells [])) := Lib.hid ⟨none, 0, rfl, Nat.le_refl _, by decide, .inl rfl⟩
        clear HST1
        generalize w1 = W at HSTW HU ⊢
        have hown := HSTW.out.own
        have hbW := HSTW.out.wd.box
        have k12 : W.cell? ⟨B, 12, none⟩ = some rv := hbW.at 12 rfl
        have kf12 := hbW.free 12
        have hqW := hbW.lt
        have hvq : rv.ownBlock ≠ some B := fun e => by have := (hown.lt B e).1; omega
        have hle := HSTW.out.oth.size
        clear hbW
        go_wp2_with (at_builtin; refine wpList_append_lies _ rfl (.tmp 35) (.tmp 37) 28 rfl w.heap.size 64 i0 _ 1 24 Tryz.underlying28 hi0 hz0 hz1 hz2' rfl (by omega) rv acc.length vs rfl (hown.alloc _) ⟨W.heap.size, 0, none⟩ 1 1 [.slice none 0 0] rfl rfl ?c1 ?c2 (by omega) ?c4 ?c5 ?c6 (W.heap.size + 1) (by simp) ?_)
        case c1 => intro j u hj; match j, hj with | 0, hj => simp at hj; subst hj; simp [Addr.add]
        case c2 => intro u hu; simp at hu; subst hu; rfl
        case c4 => unfold maxLen; omega
        case c5 => omega
        case c6 => simp; omega
        intro gg cap3 w3 hown3 hgrow hat hlt3
        have kf3 : w3.frozen? ⟨B, 12, none⟩ = false := (hgrow.frozen_far ⟨B, 12, none⟩ (by simp; omega) (Ne.symm hvq)).trans ((World.frozen?_alloc_past _ _ _ hqW).trans kf12)
        have kc3 : w3.cell? ⟨B, 12, none⟩ = some rv := (hgrow.cell_far ⟨B, 12, none⟩ (by simp; omega) (Ne.symm hvq)).trans ((World.cell?_alloc_past _ _ _ hqW).trans k12)
        have hst4 := Lib.hid ((HSTW.out.fr ((Fr.refl W).alloc _)).push (l := []) hgrow hown3 (by rcases hat with h | h; exact .inl h; exact .inr (by simpa using h)) (HU.out.fr ((Fr.refl W).alloc _)))
        clear hown hgrow hown3 hat k12 kf12 hvq
        go_wp2_with fail
        go_roundw
        case rel => exact ⟨_, _, _, l0, acc ++ [[]], hst4.out, HNX, by simp at hlen ⊢; omega, HS0⟩
        case measure => rw [hleft, hst4.out.wd.left]; simp
      · have hne : (s0 == [45]) = false := by simpa using hm
        have hls : listN s0 = digsW 65535 (splitS 44 s0) := by rw [listN, if_neg hm]
        rw [hls] at HLS
        clear hls
        have HSP := Lib.hid (SplitC_c 44 s0 w1 (HE.out.keep HST1.out.wd.frm) (by omega))
        have hpl := splitS_len 44 s0
        have hpc : s0.count 44 ≤ s0.length := List.count_le_length
        have HPS : Hid (∀ q ∈ splitS 44 s0, q.length < 1000000) := Lib.hid (fun q hq => by have := splitS_short hq; omega)
        clear hm
        go_wp2_with fail
        refine HSP.out.mono ?_
        rintro e w2 ⟨vp, rfl, hrow⟩
        generalize splitS 44 s0 = ps at hrow HLS hpl HPS
        have HST2 := Lib.hid (HST1.out.fr hrow.frm)
        have hpl2 : ps.length ≤ 200000 := by omega
        obtain ⟨pa, pc, rfl, hpc1, hpc2⟩ := hrow.form
        have HROW := Lib.hid hrow.rd
        clear hrow HSP HST1 hpl hpc
        have HI0 : Hid (digsW 65535 (ps.take 0) = some [] ∧ RowN w2 w2 (.slice none 0 0) []) := Lib.hid ⟨rfl, Fr.refl _, World.ownsRow_nil _ _ _ _⟩
        go_wp2_with fail
        go_loopw [2, 19] (fun sv i wr => ∃ (k : Nat) (aa : List Nat), k ≤ ps.length ∧ i = .int .i64 k ∧ Hid (digsW 65535 (ps.take k) = some aa ∧ RowN w2 wr sv aa) ∧ aa.length ≤ k) (fun _ i _ => ps.length - (intOf i).toNat)
        case atStart => exact ⟨0, [], Nat.zero_le _, rfl, HI0, Nat.le_refl _⟩
        case round =>
          clear HI0
          obtain ⟨k, aa, hk, rfl, HI, hask⟩ := hrel
          have hsv := HI.out.2
          by_cases hkl : k < ps.length
          · obtain ⟨pb, po, pcap, hpe, _, _, hpb, hpcell⟩ := HROW.out.at hkl
            cases hpe
            have c1 := hsv.frm.keep (hpcell k ps[k] (by simp [hkl]))
            have hk1 : k < pc := by omega
            have hq1 := HPS.out ps[k] (List.getElem_mem hkl)
            rcases hd : digW 65535 ps[k] with _ | n
            · have HN := Lib.hid (show O = none by rw [HO.out, HLS.out, digsW_none hkl hd]; rfl)
              have HC := Lib.hid (digits_no wr (HE.out.keep (HST2.out.wd.frm.trans hsv.frm)) hq1 hd)
              have HF := Lib.hid (HST2.out.wd.frm.trans hsv.frm)
              clear hd hpcell hq1
              generalize ps[k] = q at c1 HC
              go_wp2_with fail
              refine HC.out.mono ?_
              rintro e w9 ⟨rfl, f9⟩
              have hz : ComOut w0 w B t x O (.panicked wrongP) w9 := by rw [HN.out]; exact ⟨rfl, HF.out.trans f9⟩
              exact ⟨rfl, hz⟩
            · have HDT := Lib.hid (digsW_take hkl HI.out.1 hd)
              have hn16 := digW_le hd
              have HC := Lib.hid (digits_c wr hq1 hd)
              have hkw : IntKind.u16.wrap (n : Int) = n := by simp [IntKind.wrap, IntKind.bits, IntKind.signed]; omega
              clear hd hpcell hq1
              generalize ps[k] = q at c1 HC
              have HSV := Lib.hid hsv
              clear hsv HI
              go_wp2_with fail
              refine HC.out.mono ?_
              rintro e w4 ⟨rfl, f4⟩
              have hr4 := HSV.out.fr f4
              have hwn := hr4.own
              have hf4 := hr4.frm
              have hsz4 := hf4.size
              clear f4 HC
              go_wp2_with (at_builtin; refine wpList_append_own _ rfl (.tmp 23) (.tmp 27) 64 rfl w2.heap.size 22 i1 (.int .u16 0) 1 2 Tryz.underlying64 hj0 hy0 hy1 hy2' rfl (by omega) _ aa.length (u16Cells aa) rfl (hwn.alloc _) ⟨w4.heap.size, 0, none⟩ 1 1 [.int .u16 (n : Nat)] rfl rfl ?c1 ?c2 ?c3 ?c4 ?c5 ?_)
              case c1 => intro j u hj; match j, hj with | 0, hj => simp at hj; subst hj; simp [Addr.add]
              case c2 => intro u hu; simp at hu; subst hu; rfl
              case c3 => unfold maxLen; omega
              case c4 => omega
              case c5 => simp; omega
              intro v6 w6 hown6 hgrow6 _
              have HR6 : Hid (digsW 65535 (ps.take (k + 1)) = some (aa ++ [n]) ∧ RowN w2 w6 v6 (aa ++ [n])) := Lib.hid ⟨HDT.out, Below.grown (hf4.alloc _) hgrow6 (by simp; omega) (fun g hg => (hwn.lt g hg).1), by rw [List.length_append, u16_app]; exact hown6⟩
              clear hown6 hgrow6 hwn hr4 hf4
              go_wp2_with fail
              go_roundw
              case rel => exact ⟨k + 1, aa ++ [n], by omega, by go_num, HR6, by simp; omega⟩
              case measure => simp [intOf]; omega
          · have hkl2 : ps.take k = ps := List.take_of_length_le (by omega)
            have hda := HI.out.1
            rw [hkl2] at hda
            have HNX : Hid (O = (listsN l0).map ((acc ++ [aa]) ++ ·)) := Lib.hid (by rw [HO.out, HLS.out, hda]; simp [Option.map_map, Function.comp_def])
            have HSTW := Lib.hid (HST2.out.fr hsv.frm)
            obtain ⟨ua, uc, rfl, _, _⟩ := str_form hsv.own
            have HU : Hid (SlAt wr (fun b => some b ≠ rv.ownBlock ∧ w.heap.size ≤ b) (.slice ua aa.length uc) aa.length (u16Cells aa)) := Lib.hid ((SlAt.own hsv.own).mono fun b hb => ⟨fun e => by have := (HST2.out.own.lt b e.symm).2; omega, by have := HST2.out.oth.size; omega⟩)
            clear hsv HI hda hkl2 HST2 HROW
            generalize wr = W at HSTW HU ⊢
            have hown := HSTW.out.own
            have hbW := HSTW.out.wd.box
            have k12 : W.cell? ⟨B, 12, none⟩ = some rv := hbW.at 12 rfl
            have kf12 := hbW.free 12
            have hqW := hbW.lt
            have hvq : rv.ownBlock ≠ some B := fun e => by have := (hown.lt B e).1; omega
            have hle := HSTW.out.oth.size
            clear hbW
            go_wp2_with (at_builtin; refine wpList_append_lies _ rfl (.tmp 35) (.tmp 37) 28 rfl w.heap.size 64 i0 _ 1 24 Tryz.underlying28 hi0 hz0 hz1 hz2' rfl (by omega) rv acc.length vs rfl (hown.alloc _) ⟨W.heap.size, 0, none⟩ 1 1 [.slice ua aa.length uc] rfl rfl ?c1 ?c2 (by omega) ?c4 ?c5 ?c6 (W.heap.size + 1) (by simp) ?_)
            case c1 => intro j u hj; match j, hj with | 0, hj => simp at hj; subst hj; simp [Addr.add]
            case c2 => intro u hu; simp at hu; subst hu; rfl
            case c4 => unfold maxLen; omega
            case c5 => omega
            case c6 => simp; omega
            intro gg cap3 w3 hown3 hgrow hat hlt3
            have kf3 : w3.frozen? ⟨B, 12, none⟩ = false := (hgrow.frozen_far ⟨B, 12, none⟩ (by simp; omega) (Ne.symm hvq)).trans ((World.frozen?_alloc_past _ _ _ hqW).trans kf12)
            have kc3 : w3.cell? ⟨B, 12, none⟩ = some rv := (hgrow.cell_far ⟨B, 12, none⟩ (by simp; omega) (Ne.symm hvq)).trans ((World.cell?_alloc_past _ _ _ hqW).trans k12)
            have hst4 := Lib.hid ((HSTW.out.fr ((Fr.refl W).alloc _)).push (l := aa) hgrow hown3 (by rcases hat with h | h; exact .inl h; exact .inr (by simpa using h)) (HU.out.fr ((Fr.refl W).alloc _)))
            clear hown hgrow hown3 hat k12 kf12 hvq
            go_wp2_with fail
            go_roundw
            case rel => exact ⟨_, _, _, l0, acc ++ [aa], hst4.out, HNX, by simp at hlen ⊢; omega, HS0⟩
            case measure => rw [hleft, hst4.out.wd.left]; simp
end Go.Proofs.YtfklgaeejmeipaaGreatDoor

/- (*words).rest: what each kind's method makes of the words. No condition but what each says. -/
namespace Go.Proofs.YtfklgaeejmeipaaGreatDoor
open Go.RowKit

/-- It gives up, or the event is now this one, and can be read. -/
def RestOut (w0 : World) (B : Nat) (o : Option Ev) (e : Ending) (w' : World) : Prop := match o with | none => GaveUp w0 e w' | some y => e = .returned (.tuple #[]) ∧ ∃ v' l' t r, WdAt w0 w' B v' l' y t r ∧ RdMZ (w0.heap.size ≤ ·) w' t y.txn ∧ RdRZ (w0.heap.size ≤ ·) w' r y.reads
/-- An event of which just kind, client and ID are laid. -/
structure Bare (y : Ev) : Prop where
  txn : y.txn = []
  reads : y.reads = []
  cfg : y.cfg = Cfg.zero
theorem RestOut.of {w0 w w' : World} {B : Nat} {l : List W8} {y : Ev} {t r : Value} {e : Ending} (h : WdRet w0 w B l y t r e w') (ht : RdMZ (w0.heap.size ≤ ·) w' t y.txn) (hr : RdRZ (w0.heap.size ≤ ·) w' r y.reads) : RestOut w0 B (some y) e w' := by
  obtain ⟨he, v', hw, _⟩ := h
  exact ⟨he, v', l, t, r, hw, ht, hr⟩
section
variable {w0 w : World} {B : Nat} {v : Value} {l : List W8} {y : Ev}
theorem body2_c (h : WdAt w0 w B v l y nil0 nil0) (hb : Bare y) (hk : y.kind = 2) (hE : EnvT w0) (hs : ∀ s ∈ l, s.length < 100000) : Calls Tryz.prog 76 #[.pointer (some ⟨B, 0, none⟩)] w (RestOut w0 B (bodyN y l)) := by
  have e : bodyN y l = if (parseOp l).2 = 0 then some { y with op := (parseOp l).1 } else none := by simp [bodyN, hk]
  rw [e]
  by_cases hp : (parseOp l).2 = 0
  · rw [if_pos hp]
    exact (invoke_yes h hE (fun s hm => by have := hs s hm; omega) hp).mono fun e w' k => RestOut.of k (by rw [show ({ y with op := (parseOp l).1 } : Ev).txn = [] from hb.txn]; exact RdMZ.nil _ _) (by rw [show ({ y with op := (parseOp l).1 } : Ev).reads = [] from hb.reads]; exact RdRZ.nil _ _)
  · rw [if_neg hp]
    exact invoke_no h hE (fun s hm => by have := hs s hm; omega) hp
theorem body3_c (h : WdAt w0 w B v l y nil0 nil0) (hb : Bare y) (hk : y.kind = 3) (hE : EnvT w0) (hj : (Lib.join l [32]).length < 1000000) (hn : l.length < 1000000) : Calls Tryz.prog 77 #[.pointer (some ⟨B, 0, none⟩)] w (RestOut w0 B (bodyN y l)) := by
  have e : bodyN y l = if (parseRes (Lib.join l [32])).2.2 = 0 then some { y with rk := (parseRes (Lib.join l [32])).1, rv := (parseRes (Lib.join l [32])).2.1 } else none := by simp [bodyN, hk]
  rw [e]
  by_cases hp : (parseRes (Lib.join l [32])).2.2 = 0
  · rw [if_pos hp]
    exact (answer_yes h hE hj hn hp).mono fun e w' k => RestOut.of k (by rw [show ({ y with rk := (parseRes (Lib.join l [32])).1, rv := (parseRes (Lib.join l [32])).2.1 } : Ev).txn = [] from hb.txn]; exact RdMZ.nil _ _) (by rw [show ({ y with rk := (parseRes (Lib.join l [32])).1, rv := (parseRes (Lib.join l [32])).2.1 } : Ev).reads = [] from hb.reads]; exact RdRZ.nil _ _)
  · rw [if_neg hp]
    exact answer_no h hE hj hn hp
theorem body4_c (h : WdAt w0 w B v l y nil0 nil0) (hb : Bare y) (hk : y.kind = 4 ∨ y.kind = 7) : Calls Tryz.prog 78 #[.pointer (some ⟨B, 0, none⟩)] w (RestOut w0 B (bodyN y l)) := by
  have e : bodyN y l = some y := by rcases hk with hk | hk <;> simp [bodyN, hk]
  rw [e]
  exact (none_c h).mono fun e w' k => RestOut.of k (by rw [hb.txn]; exact RdMZ.nil _ _) (by rw [hb.reads]; exact RdRZ.nil _ _)
theorem body5_c (h : WdAt w0 w B v l y nil0 nil0) (hb : Bare y) (hk : y.kind = 5) (hE : EnvT w0) (hs : ∀ s ∈ l, s.length < 100000) (hn : l.length < 1000000) : Calls Tryz.prog 79 #[.pointer (some ⟨B, 0, none⟩)] w (RestOut w0 B (bodyN y l)) := by
  have e : bodyN y l = (micsN l).map fun t => { y with txn := t } := by simp [bodyN, hk]
  rw [e]
  refine (begin_c h hb.txn hE.toEnv0 (fun s hm => by have := hs s hm; omega) hn).mono fun e w' k => ?_
  cases hm : micsN l with
  | none => rw [hm] at k; exact k
  | some z =>
    rw [hm] at k
    obtain ⟨tv, k1, k2⟩ := k
    exact RestOut.of k1 ((SlAt.own k2).mono fun _ hz => Nat.le_trans h.frm.size hz) (by rw [show ({ y with txn := z } : Ev).reads = [] from hb.reads]; exact RdRZ.nil _ _)
theorem body6_c (h : WdAt w0 w B v l y nil0 nil0) (hb : Bare y) (hk : y.kind = 6) (hE : EnvT w0) (hs : ∀ s ∈ l, s.length < 100000) (hn : l.length < 1000000) : Calls Tryz.prog 80 #[.pointer (some ⟨B, 0, none⟩)] w (RestOut w0 B (bodyN y l)) := by
  have e : bodyN y l = (listsN l).map fun t => { y with reads := t } := by simp [bodyN, hk]
  rw [e]
  refine (commit_c h hb.reads hE.toEnv0 hs hn).mono fun e w' k => ?_
  cases hm : listsN l with
  | none => rw [hm] at k; exact k
  | some z =>
    rw [hm] at k
    obtain ⟨rv, k1, k2⟩ := k
    exact RestOut.of k1 (by rw [show ({ y with reads := z } : Ev).txn = [] from hb.txn]; exact RdMZ.nil _ _) (k2.mono fun _ hz => Nat.le_trans h.frm.size hz)
theorem body1_c (h : WdAt w0 w B v l y nil0 nil0) (hb : Bare y) (hk : y.kind = 1) (hE : EnvT w0) (hs : ∀ s ∈ l, s.length < 100000) : Calls Tryz.prog 75 #[.pointer (some ⟨B, 0, none⟩)] w (RestOut w0 B (bodyN y l)) := by
  have e : bodyN y l = (cfgN l).map fun c => { y with cfg := c.1 } := by simp [bodyN, hk]
  rw [e]
  refine (wconfig_c h hb.cfg hE (fun s hm => by have := hs s hm; omega)).mono fun e w' k => ?_
  cases hm : cfgN l with
  | none => rw [hm] at k; exact k
  | some z =>
    rw [hm] at k
    exact RestOut.of k (by rw [show ({ y with cfg := z.1 } : Ev).txn = [] from hb.txn]; exact RdMZ.nil _ _) (by rw [show ({ y with cfg := z.1 } : Ev).reads = [] from hb.reads]; exact RdRZ.nil _ _)
end
end Go.Proofs.YtfklgaeejmeipaaGreatDoor

/- (*words).rest: the walk. No condition but what each says. Printed by gen_txtrest.py. -/
namespace Go.Proofs.YtfklgaeejmeipaaGreatDoor
open Go.RowKit

/-- What the method of a kind does. -/
def Body (q : Nat) (w0 : World) (B : Nat) (l : List W8) (k : Nat) : Prop := ∀ (W : World) (v : Value) (p m : List W8) (y : Ev), l = p ++ m → WdAt w0 W B v m y nil0 nil0 → Bare y → y.kind = k → Calls Tryz.prog q #[.pointer (some ⟨B, 0, none⟩)] W (RestOut w0 B (bodyN y m))
set_option maxRecDepth 100000 in
set_option maxHeartbeats 1000000 in
theorem rest_1 {w0 w : World} {B : Nat} {v : Value} {l : List W8} (h : WdAt w0 w B v l { Ev.zero with kind := 1 } nil0 nil0) (hE : Env0 w0) (hs : ∀ s ∈ l, s.length < 100000) (hbd : Body 75 w0 B l 1) :
    Calls Tryz.prog 45 #[.pointer (some ⟨B, 0, none⟩)] w (RestOut w0 B (restN 1 l)) := by
  have hs6 : ∀ s ∈ l, s.length < 1000000 := fun s hm => by have := hs s hm; omega
  have hfn : IsFn 75 := isFn Tryz.func75 (by kernel_rfl) rfl
  unfold IsFn at hfn
  generalize hO : restN 1 l = O
  have HO := Lib.hid hO
  have HBD := Lib.hid hbd
  have HE := Lib.hid hE
  have d1 : w.cell? ⟨B, 1, none⟩ = some (.int .u8 1) := h.box.at 1 rfl
  have hlt := h.box.lt
  have hA := h.fr ((Fr.refl w).alloc (.cells #[.func (.func 75) #[] #[], .func (.func 76) #[] #[], .func (.func 77) #[] #[], .func (.func 78) #[] #[], .func (.func 79) #[] #[], .func (.func 80) #[] #[], .func (.func 78) #[] #[]] 130))
  have HA := Lib.hid hA
  have hq : (w.alloc (.cells #[.func (.func 75) #[] #[], .func (.func 76) #[] #[], .func (.func 77) #[] #[], .func (.func 78) #[] #[], .func (.func 79) #[] #[], .func (.func 80) #[] #[], .func (.func 78) #[] #[]] 130)).cell? ⟨w.heap.size, 0, none⟩ = some (.func (.func 75) #[] #[]) := (BoxAt.new w _ _).at 0 rfl
  have hw7 : IntKind.u8.wrap 0 = 0 := rfl
  clear hO hbd hE h hA
  have HC := Lib.hid (HBD.out _ _ [] l _ rfl HA.out ⟨rfl, rfl, rfl⟩ rfl)
  have HO1 : Hid (bodyN { Ev.zero with kind := 1 } l = O) := Lib.hid (by rw [← HO.out]; rfl)
  clear HO HBD
  go_enter Tryz.func45, Tryz.ntmps45
  go_wp2_with fail
  refine HC.out.mono ?_
  rintro e w9 k9
  rw [HO1.out] at k9
  clear HO1
  cases O with
  | none =>
    obtain ⟨rfl, f9⟩ := k9
    exact ⟨rfl, ⟨rfl, f9⟩⟩
  | some y =>
    obtain ⟨rfl, k9⟩ := k9
    have K9 := Lib.hid k9
    clear k9
    go_wp2_with fail
    go_end0
    exact ⟨rfl, K9.out⟩
set_option maxRecDepth 100000 in
set_option maxHeartbeats 1000000 in
theorem rest_2 {w0 w : World} {B : Nat} {v : Value} {l : List W8} (h : WdAt w0 w B v l { Ev.zero with kind := 2 } nil0 nil0) (hE : Env0 w0) (hs : ∀ s ∈ l, s.length < 100000) (hbd : Body 76 w0 B l 2) :
    Calls Tryz.prog 45 #[.pointer (some ⟨B, 0, none⟩)] w (RestOut w0 B (restN 2 l)) := by
  have hs6 : ∀ s ∈ l, s.length < 1000000 := fun s hm => by have := hs s hm; omega
  have hfn : IsFn 76 := isFn Tryz.func76 (by kernel_rfl) rfl
  unfold IsFn at hfn
  generalize hO : restN 2 l = O
  have HO := Lib.hid hO
  have HBD := Lib.hid hbd
  have HE := Lib.hid hE
  have d1 : w.cell? ⟨B, 1, none⟩ = some (.int .u8 2) := h.box.at 1 rfl
  have hlt := h.box.lt
  have hA := h.fr ((Fr.refl w).alloc (.cells #[.func (.func 75) #[] #[], .func (.func 76) #[] #[], .func (.func 77) #[] #[], .func (.func 78) #[] #[], .func (.func 79) #[] #[], .func (.func 80) #[] #[], .func (.func 78) #[] #[]] 130))
  have HA := Lib.hid hA
  have hq : (w.alloc (.cells #[.func (.func 75) #[] #[], .func (.func 76) #[] #[], .func (.func 77) #[] #[], .func (.func 78) #[] #[], .func (.func 79) #[] #[], .func (.func 80) #[] #[], .func (.func 78) #[] #[]] 130)).cell? ⟨w.heap.size, 1, none⟩ = some (.func (.func 76) #[] #[]) := (BoxAt.new w _ _).at 1 rfl
  have hw7 : IntKind.u8.wrap 1 = 1 := rfl
  clear hO hbd hE h hA
  rcases hn1 : numN 16 l with _ | ⟨a, l1⟩
  · have HN := Lib.hid (show O = none by rw [← HO.out, restN, if_neg (by decide), hn1])
    have HC := Lib.hid (number_no HA.out HE.out hs6 hn1)
    clear hn1 HO HBD
    go_enter Tryz.func45, Tryz.ntmps45
    go_wp2_with fail
    refine HC.out.mono ?_
    rintro e w9 ⟨rfl, f9⟩
    have hz : RestOut w0 B O (.panicked wrongP) w9 := by rw [HN.out]; exact ⟨rfl, f9⟩
    exact ⟨rfl, hz⟩
  have HC1 := Lib.hid (number_yes HA.out hs6 hn1)
  have hs1 := numN_short hn1 hs6
  have ha := numN_le hn1
  have hkw : IntKind.u8.wrap (a : Int) = a := by simp [IntKind.wrap, IntKind.bits, IntKind.signed]; omega
  have HN1 := Lib.hid hn1
  clear hn1
  go_enter Tryz.func45, Tryz.ntmps45
  go_wp2_with fail
  refine HC1.out.mono ?_
  rintro e w2 ⟨rfl, v2, W2, O2⟩
  have g2 := W2.box.free 2
  have e2 : w2.cell? ⟨B, 2, none⟩ = some (.int .u8 0) := W2.box.at 2 rfl
  have hq2 := (O2.block w.heap.size (by simp) (by omega))
  have hq2 : w2.cell? ⟨w.heap.size, 1, none⟩ = some (.func (.func 76) #[] #[]) := (World.cell?_of_block (a := ⟨w.heap.size, 1, none⟩) hq2).trans hq
  have hlt2 := W2.box.lt
  have hneB : w.heap.size ≠ B := by omega
  have k3 : Oth B w2 (w2.setCell ⟨B, 2, none⟩ (.int .u8 (a : Nat))) := (Oth.refl B w2).set 2 (.int .u8 (a : Nat))
  have H3 : Hid (WdAt w0 (w2.setCell ⟨B, 2, none⟩ (.int .u8 (a : Nat))) B v2 l1 { Ev.zero with kind := 2, client := a } nil0 nil0) := Lib.hid ⟨k3.fr W2.frm W2.ge, W2.ge, W2.box.setAt 2 (.int .u8 (a : Nat)), W2.rd⟩
  have hq3 : (w2.setCell ⟨B, 2, none⟩ (.int .u8 (a : Nat))).cell? ⟨w.heap.size, 1, none⟩ = some (.func (.func 76) #[] #[]) := (World.cell?_of_block (a := ⟨w.heap.size, 1, none⟩) (k3.block w.heap.size (lt_of_cell hq2) hneB)).trans hq2
  have hsw2 : w.heap.size < w2.heap.size := lt_of_cell hq2
  clear W2 O2 HC1 HA hq hq2 k3
  rcases hn2 : numN 65535 l1 with _ | ⟨b, l2⟩
  · have HN := Lib.hid (show O = none by rw [← HO.out, restN, if_neg (by decide), HN1.out]; simp only; rw [hn2])
    have HC := Lib.hid (number_no H3.out HE.out hs1 hn2)
    clear hn2 HO HBD
    go_wp2_with fail
    refine HC.out.mono ?_
    rintro e w9 ⟨rfl, f9⟩
    have hz : RestOut w0 B O (.panicked wrongP) w9 := by rw [HN.out]; exact ⟨rfl, f9⟩
    exact ⟨rfl, hz⟩
  have HC2 := Lib.hid (number_yes H3.out hs1 hn2)
  have hb16 := numN_le hn2
  have hkw2 : IntKind.u16.wrap (b : Int) = b := by simp [IntKind.wrap, IntKind.bits, IntKind.signed]; omega
  have HO1 : Hid (bodyN { Ev.zero with kind := 2, client := a, id := b } l2 = O) := Lib.hid (by rw [← HO.out, restN, if_neg (by decide), HN1.out]; simp only; rw [hn2])
  have HPM : Hid (∃ p, l = p ++ l2) := Lib.hid (by
    obtain ⟨q1, h1⟩ := numN_some HN1.out
    obtain ⟨q2, h2⟩ := numN_some hn2
    exact ⟨[q1, q2], by rw [h1, h2]; rfl⟩)
  clear hn2 HO HN1
  go_wp2_with fail
  refine HC2.out.mono ?_
  rintro e w4 ⟨rfl, v4, W4, O4⟩
  have g3 := W4.box.free 3
  have e1 : w4.cell? ⟨B, 1, none⟩ = some (.int .u8 2) := W4.box.at 1 rfl
  have e3 : w4.cell? ⟨B, 3, none⟩ = some (.int .u16 0) := W4.box.at 3 rfl
  have hq4 : w4.cell? ⟨w.heap.size, 1, none⟩ = some (.func (.func 76) #[] #[]) := (World.cell?_of_block (a := ⟨w.heap.size, 1, none⟩) (O4.block w.heap.size (by simpa using hsw2) hneB)).trans hq3
  have hlt4 := W4.box.lt
  have k5 : Oth B w4 (w4.setCell ⟨B, 3, none⟩ (.int .u16 (b : Nat))) := (Oth.refl B w4).set 3 (.int .u16 (b : Nat))
  have H5 : WdAt w0 (w4.setCell ⟨B, 3, none⟩ (.int .u16 (b : Nat))) B v4 l2 { Ev.zero with kind := 2, client := a, id := b } nil0 nil0 := ⟨k5.fr W4.frm W4.ge, W4.ge, W4.box.setAt 3 (.int .u16 (b : Nat)), W4.rd⟩
  obtain ⟨pp, hpp⟩ := HPM.out
  have HC5 := Lib.hid (HBD.out _ _ pp l2 _ hpp H5 ⟨rfl, rfl, rfl⟩ rfl)
  clear W4 O4 HC2 H3 hq3 k5 H5 hpp HPM HBD d1 e2 g2
  go_wp2_with fail
  refine HC5.out.mono ?_
  rintro e w9 k9
  rw [HO1.out] at k9
  clear HO1
  cases O with
  | none =>
    obtain ⟨rfl, f9⟩ := k9
    exact ⟨rfl, ⟨rfl, f9⟩⟩
  | some y =>
    obtain ⟨rfl, k9⟩ := k9
    have K9 := Lib.hid k9
    clear k9
    go_wp2_with fail
    go_end0
    exact ⟨rfl, K9.out⟩
set_option maxRecDepth 100000 in
set_option maxHeartbeats 1000000 in
theorem rest_3 {w0 w : World} {B : Nat} {v : Value} {l : List W8} (h : WdAt w0 w B v l { Ev.zero with kind := 3 } nil0 nil0) (hE : Env0 w0) (hs : ∀ s ∈ l, s.length < 100000) (hbd : Body 77 w0 B l 3) :
    Calls Tryz.prog 45 #[.pointer (some ⟨B, 0, none⟩)] w (RestOut w0 B (restN 3 l)) := by
  have hs6 : ∀ s ∈ l, s.length < 1000000 := fun s hm => by have := hs s hm; omega
  have hfn : IsFn 77 := isFn Tryz.func77 (by kernel_rfl) rfl
  unfold IsFn at hfn
  generalize hO : restN 3 l = O
  have HO := Lib.hid hO
  have HBD := Lib.hid hbd
  have HE := Lib.hid hE
  have d1 : w.cell? ⟨B, 1, none⟩ = some (.int .u8 3) := h.box.at 1 rfl
  have hlt := h.box.lt
  have hA := h.fr ((Fr.refl w).alloc (.cells #[.func (.func 75) #[] #[], .func (.func 76) #[] #[], .func (.func 77) #[] #[], .func (.func 78) #[] #[], .func (.func 79) #[] #[], .func (.func 80) #[] #[], .func (.func 78) #[] #[]] 130))
  have HA := Lib.hid hA
  have hq : (w.alloc (.cells #[.func (.func 75) #[] #[], .func (.func 76) #[] #[], .func (.func 77) #[] #[], .func (.func 78) #[] #[], .func (.func 79) #[] #[], .func (.func 80) #[] #[], .func (.func 78) #[] #[]] 130)).cell? ⟨w.heap.size, 2, none⟩ = some (.func (.func 77) #[] #[]) := (BoxAt.new w _ _).at 2 rfl
  have hw7 : IntKind.u8.wrap 2 = 2 := rfl
  clear hO hbd hE h hA
  rcases hn1 : numN 16 l with _ | ⟨a, l1⟩
  · have HN := Lib.hid (show O = none by rw [← HO.out, restN, if_neg (by decide), hn1])
    have HC := Lib.hid (number_no HA.out HE.out hs6 hn1)
    clear hn1 HO HBD
    go_enter Tryz.func45, Tryz.ntmps45
    go_wp2_with fail
    refine HC.out.mono ?_
    rintro e w9 ⟨rfl, f9⟩
    have hz : RestOut w0 B O (.panicked wrongP) w9 := by rw [HN.out]; exact ⟨rfl, f9⟩
    exact ⟨rfl, hz⟩
  have HC1 := Lib.hid (number_yes HA.out hs6 hn1)
  have hs1 := numN_short hn1 hs6
  have ha := numN_le hn1
  have hkw : IntKind.u8.wrap (a : Int) = a := by simp [IntKind.wrap, IntKind.bits, IntKind.signed]; omega
  have HN1 := Lib.hid hn1
  clear hn1
  go_enter Tryz.func45, Tryz.ntmps45
  go_wp2_with fail
  refine HC1.out.mono ?_
  rintro e w2 ⟨rfl, v2, W2, O2⟩
  have g2 := W2.box.free 2
  have e2 : w2.cell? ⟨B, 2, none⟩ = some (.int .u8 0) := W2.box.at 2 rfl
  have hq2 := (O2.block w.heap.size (by simp) (by omega))
  have hq2 : w2.cell? ⟨w.heap.size, 2, none⟩ = some (.func (.func 77) #[] #[]) := (World.cell?_of_block (a := ⟨w.heap.size, 2, none⟩) hq2).trans hq
  have hlt2 := W2.box.lt
  have hneB : w.heap.size ≠ B := by omega
  have k3 : Oth B w2 (w2.setCell ⟨B, 2, none⟩ (.int .u8 (a : Nat))) := (Oth.refl B w2).set 2 (.int .u8 (a : Nat))
  have H3 : Hid (WdAt w0 (w2.setCell ⟨B, 2, none⟩ (.int .u8 (a : Nat))) B v2 l1 { Ev.zero with kind := 3, client := a } nil0 nil0) := Lib.hid ⟨k3.fr W2.frm W2.ge, W2.ge, W2.box.setAt 2 (.int .u8 (a : Nat)), W2.rd⟩
  have hq3 : (w2.setCell ⟨B, 2, none⟩ (.int .u8 (a : Nat))).cell? ⟨w.heap.size, 2, none⟩ = some (.func (.func 77) #[] #[]) := (World.cell?_of_block (a := ⟨w.heap.size, 2, none⟩) (k3.block w.heap.size (lt_of_cell hq2) hneB)).trans hq2
  have hsw2 : w.heap.size < w2.heap.size := lt_of_cell hq2
  clear W2 O2 HC1 HA hq hq2 k3
  rcases hn2 : numN 65535 l1 with _ | ⟨b, l2⟩
  · have HN := Lib.hid (show O = none by rw [← HO.out, restN, if_neg (by decide), HN1.out]; simp only; rw [hn2])
    have HC := Lib.hid (number_no H3.out HE.out hs1 hn2)
    clear hn2 HO HBD
    go_wp2_with fail
    refine HC.out.mono ?_
    rintro e w9 ⟨rfl, f9⟩
    have hz : RestOut w0 B O (.panicked wrongP) w9 := by rw [HN.out]; exact ⟨rfl, f9⟩
    exact ⟨rfl, hz⟩
  have HC2 := Lib.hid (number_yes H3.out hs1 hn2)
  have hb16 := numN_le hn2
  have hkw2 : IntKind.u16.wrap (b : Int) = b := by simp [IntKind.wrap, IntKind.bits, IntKind.signed]; omega
  have HO1 : Hid (bodyN { Ev.zero with kind := 3, client := a, id := b } l2 = O) := Lib.hid (by rw [← HO.out, restN, if_neg (by decide), HN1.out]; simp only; rw [hn2])
  have HPM : Hid (∃ p, l = p ++ l2) := Lib.hid (by
    obtain ⟨q1, h1⟩ := numN_some HN1.out
    obtain ⟨q2, h2⟩ := numN_some hn2
    exact ⟨[q1, q2], by rw [h1, h2]; rfl⟩)
  clear hn2 HO HN1
  go_wp2_with fail
  refine HC2.out.mono ?_
  rintro e w4 ⟨rfl, v4, W4, O4⟩
  have g3 := W4.box.free 3
  have e1 : w4.cell? ⟨B, 1, none⟩ = some (.int .u8 3) := W4.box.at 1 rfl
  have e3 : w4.cell? ⟨B, 3, none⟩ = some (.int .u16 0) := W4.box.at 3 rfl
  have hq4 : w4.cell? ⟨w.heap.size, 2, none⟩ = some (.func (.func 77) #[] #[]) := (World.cell?_of_block (a := ⟨w.heap.size, 2, none⟩) (O4.block w.heap.size (by simpa using hsw2) hneB)).trans hq3
  have hlt4 := W4.box.lt
  have k5 : Oth B w4 (w4.setCell ⟨B, 3, none⟩ (.int .u16 (b : Nat))) := (Oth.refl B w4).set 3 (.int .u16 (b : Nat))
  have H5 : WdAt w0 (w4.setCell ⟨B, 3, none⟩ (.int .u16 (b : Nat))) B v4 l2 { Ev.zero with kind := 3, client := a, id := b } nil0 nil0 := ⟨k5.fr W4.frm W4.ge, W4.ge, W4.box.setAt 3 (.int .u16 (b : Nat)), W4.rd⟩
  obtain ⟨pp, hpp⟩ := HPM.out
  have HC5 := Lib.hid (HBD.out _ _ pp l2 _ hpp H5 ⟨rfl, rfl, rfl⟩ rfl)
  clear W4 O4 HC2 H3 hq3 k5 H5 hpp HPM HBD d1 e2 g2
  go_wp2_with fail
  refine HC5.out.mono ?_
  rintro e w9 k9
  rw [HO1.out] at k9
  clear HO1
  cases O with
  | none =>
    obtain ⟨rfl, f9⟩ := k9
    exact ⟨rfl, ⟨rfl, f9⟩⟩
  | some y =>
    obtain ⟨rfl, k9⟩ := k9
    have K9 := Lib.hid k9
    clear k9
    go_wp2_with fail
    go_end0
    exact ⟨rfl, K9.out⟩
set_option maxRecDepth 100000 in
set_option maxHeartbeats 1000000 in
theorem rest_4 {w0 w : World} {B : Nat} {v : Value} {l : List W8} (h : WdAt w0 w B v l { Ev.zero with kind := 4 } nil0 nil0) (hE : Env0 w0) (hs : ∀ s ∈ l, s.length < 100000) (hbd : Body 78 w0 B l 4) :
    Calls Tryz.prog 45 #[.pointer (some ⟨B, 0, none⟩)] w (RestOut w0 B (restN 4 l)) := by
  have hs6 : ∀ s ∈ l, s.length < 1000000 := fun s hm => by have := hs s hm; omega
  have hfn : IsFn 78 := isFn Tryz.func78 (by kernel_rfl) rfl
  unfold IsFn at hfn
  generalize hO : restN 4 l = O
  have HO := Lib.hid hO
  have HBD := Lib.hid hbd
  have HE := Lib.hid hE
  have d1 : w.cell? ⟨B, 1, none⟩ = some (.int .u8 4) := h.box.at 1 rfl
  have hlt := h.box.lt
  have hA := h.fr ((Fr.refl w).alloc (.cells #[.func (.func 75) #[] #[], .func (.func 76) #[] #[], .func (.func 77) #[] #[], .func (.func 78) #[] #[], .func (.func 79) #[] #[], .func (.func 80) #[] #[], .func (.func 78) #[] #[]] 130))
  have HA := Lib.hid hA
  have hq : (w.alloc (.cells #[.func (.func 75) #[] #[], .func (.func 76) #[] #[], .func (.func 77) #[] #[], .func (.func 78) #[] #[], .func (.func 79) #[] #[], .func (.func 80) #[] #[], .func (.func 78) #[] #[]] 130)).cell? ⟨w.heap.size, 3, none⟩ = some (.func (.func 78) #[] #[]) := (BoxAt.new w _ _).at 3 rfl
  have hw7 : IntKind.u8.wrap 3 = 3 := rfl
  clear hO hbd hE h hA
  rcases hn1 : numN 16 l with _ | ⟨a, l1⟩
  · have HN := Lib.hid (show O = none by rw [← HO.out, restN, if_neg (by decide), hn1])
    have HC := Lib.hid (number_no HA.out HE.out hs6 hn1)
    clear hn1 HO HBD
    go_enter Tryz.func45, Tryz.ntmps45
    go_wp2_with fail
    refine HC.out.mono ?_
    rintro e w9 ⟨rfl, f9⟩
    have hz : RestOut w0 B O (.panicked wrongP) w9 := by rw [HN.out]; exact ⟨rfl, f9⟩
    exact ⟨rfl, hz⟩
  have HC1 := Lib.hid (number_yes HA.out hs6 hn1)
  have hs1 := numN_short hn1 hs6
  have ha := numN_le hn1
  have hkw : IntKind.u8.wrap (a : Int) = a := by simp [IntKind.wrap, IntKind.bits, IntKind.signed]; omega
  have HN1 := Lib.hid hn1
  clear hn1
  go_enter Tryz.func45, Tryz.ntmps45
  go_wp2_with fail
  refine HC1.out.mono ?_
  rintro e w2 ⟨rfl, v2, W2, O2⟩
  have g2 := W2.box.free 2
  have e2 : w2.cell? ⟨B, 2, none⟩ = some (.int .u8 0) := W2.box.at 2 rfl
  have hq2 := (O2.block w.heap.size (by simp) (by omega))
  have hq2 : w2.cell? ⟨w.heap.size, 3, none⟩ = some (.func (.func 78) #[] #[]) := (World.cell?_of_block (a := ⟨w.heap.size, 3, none⟩) hq2).trans hq
  have hlt2 := W2.box.lt
  have hneB : w.heap.size ≠ B := by omega
  have k3 : Oth B w2 (w2.setCell ⟨B, 2, none⟩ (.int .u8 (a : Nat))) := (Oth.refl B w2).set 2 (.int .u8 (a : Nat))
  have H3 : Hid (WdAt w0 (w2.setCell ⟨B, 2, none⟩ (.int .u8 (a : Nat))) B v2 l1 { Ev.zero with kind := 4, client := a } nil0 nil0) := Lib.hid ⟨k3.fr W2.frm W2.ge, W2.ge, W2.box.setAt 2 (.int .u8 (a : Nat)), W2.rd⟩
  have hq3 : (w2.setCell ⟨B, 2, none⟩ (.int .u8 (a : Nat))).cell? ⟨w.heap.size, 3, none⟩ = some (.func (.func 78) #[] #[]) := (World.cell?_of_block (a := ⟨w.heap.size, 3, none⟩) (k3.block w.heap.size (lt_of_cell hq2) hneB)).trans hq2
  have hsw2 : w.heap.size < w2.heap.size := lt_of_cell hq2
  clear W2 O2 HC1 HA hq hq2 k3
  rcases hn2 : numN 65535 l1 with _ | ⟨b, l2⟩
  · have HN := Lib.hid (show O = none by rw [← HO.out, restN, if_neg (by decide), HN1.out]; simp only; rw [hn2])
    have HC := Lib.hid (number_no H3.out HE.out hs1 hn2)
    clear hn2 HO HBD
    go_wp2_with fail
    refine HC.out.mono ?_
    rintro e w9 ⟨rfl, f9⟩
    have hz : RestOut w0 B O (.panicked wrongP) w9 := by rw [HN.out]; exact ⟨rfl, f9⟩
    exact ⟨rfl, hz⟩
  have HC2 := Lib.hid (number_yes H3.out hs1 hn2)
  have hb16 := numN_le hn2
  have hkw2 : IntKind.u16.wrap (b : Int) = b := by simp [IntKind.wrap, IntKind.bits, IntKind.signed]; omega
  have HO1 : Hid (bodyN { Ev.zero with kind := 4, client := a, id := b } l2 = O) := Lib.hid (by rw [← HO.out, restN, if_neg (by decide), HN1.out]; simp only; rw [hn2])
  have HPM : Hid (∃ p, l = p ++ l2) := Lib.hid (by
    obtain ⟨q1, h1⟩ := numN_some HN1.out
    obtain ⟨q2, h2⟩ := numN_some hn2
    exact ⟨[q1, q2], by rw [h1, h2]; rfl⟩)
  clear hn2 HO HN1
  go_wp2_with fail
  refine HC2.out.mono ?_
  rintro e w4 ⟨rfl, v4, W4, O4⟩
  have g3 := W4.box.free 3
  have e1 : w4.cell? ⟨B, 1, none⟩ = some (.int .u8 4) := W4.box.at 1 rfl
  have e3 : w4.cell? ⟨B, 3, none⟩ = some (.int .u16 0) := W4.box.at 3 rfl
  have hq4 : w4.cell? ⟨w.heap.size, 3, none⟩ = some (.func (.func 78) #[] #[]) := (World.cell?_of_block (a := ⟨w.heap.size, 3, none⟩) (O4.block w.heap.size (by simpa using hsw2) hneB)).trans hq3
  have hlt4 := W4.box.lt
  have k5 : Oth B w4 (w4.setCell ⟨B, 3, none⟩ (.int .u16 (b : Nat))) := (Oth.refl B w4).set 3 (.int .u16 (b : Nat))
  have H5 : WdAt w0 (w4.setCell ⟨B, 3, none⟩ (.int .u16 (b : Nat))) B v4 l2 { Ev.zero with kind := 4, client := a, id := b } nil0 nil0 := ⟨k5.fr W4.frm W4.ge, W4.ge, W4.box.setAt 3 (.int .u16 (b : Nat)), W4.rd⟩
  obtain ⟨pp, hpp⟩ := HPM.out
  have HC5 := Lib.hid (HBD.out _ _ pp l2 _ hpp H5 ⟨rfl, rfl, rfl⟩ rfl)
  clear W4 O4 HC2 H3 hq3 k5 H5 hpp HPM HBD d1 e2 g2
  go_wp2_with fail
  refine HC5.out.mono ?_
  rintro e w9 k9
  rw [HO1.out] at k9
  clear HO1
  cases O with
  | none =>
    obtain ⟨rfl, f9⟩ := k9
    exact ⟨rfl, ⟨rfl, f9⟩⟩
  | some y =>
    obtain ⟨rfl, k9⟩ := k9
    have K9 := Lib.hid k9
    clear k9
    go_wp2_with fail
    go_end0
    exact ⟨rfl, K9.out⟩
set_option maxRecDepth 100000 in
set_option maxHeartbeats 1000000 in
theorem rest_5 {w0 w : World} {B : Nat} {v : Value} {l : List W8} (h : WdAt w0 w B v l { Ev.zero with kind := 5 } nil0 nil0) (hE : Env0 w0) (hs : ∀ s ∈ l, s.length < 100000) (hbd : Body 79 w0 B l 5) :
    Calls Tryz.prog 45 #[.pointer (some ⟨B, 0, none⟩)] w (RestOut w0 B (restN 5 l)) := by
  have hs6 : ∀ s ∈ l, s.length < 1000000 := fun s hm => by have := hs s hm; omega
  have hfn : IsFn 79 := isFn Tryz.func79 (by kernel_rfl) rfl
  unfold IsFn at hfn
  generalize hO : restN 5 l = O
  have HO := Lib.hid hO
  have HBD := Lib.hid hbd
  have HE := Lib.hid hE
  have d1 : w.cell? ⟨B, 1, none⟩ = some (.int .u8 5) := h.box.at 1 rfl
  have hlt := h.box.lt
  have hA := h.fr ((Fr.refl w).alloc (.cells #[.func (.func 75) #[] #[], .func (.func 76) #[] #[], .func (.func 77) #[] #[], .func (.func 78) #[] #[], .func (.func 79) #[] #[], .func (.func 80) #[] #[], .func (.func 78) #[] #[]] 130))
  have HA := Lib.hid hA
  have hq : (w.alloc (.cells #[.func (.func 75) #[] #[], .func (.func 76) #[] #[], .func (.func 77) #[] #[], .func (.func 78) #[] #[], .func (.func 79) #[] #[], .func (.func 80) #[] #[], .func (.func 78) #[] #[]] 130)).cell? ⟨w.heap.size, 4, none⟩ = some (.func (.func 79) #[] #[]) := (BoxAt.new w _ _).at 4 rfl
  have hw7 : IntKind.u8.wrap 4 = 4 := rfl
  clear hO hbd hE h hA
  rcases hn1 : numN 16 l with _ | ⟨a, l1⟩
  · have HN := Lib.hid (show O = none by rw [← HO.out, restN, if_neg (by decide), hn1])
    have HC := Lib.hid (number_no HA.out HE.out hs6 hn1)
    clear hn1 HO HBD
    go_enter Tryz.func45, Tryz.ntmps45
    go_wp2_with fail
    refine HC.out.mono ?_
    rintro e w9 ⟨rfl, f9⟩
    have hz : RestOut w0 B O (.panicked wrongP) w9 := by rw [HN.out]; exact ⟨rfl, f9⟩
    exact ⟨rfl, hz⟩
  have HC1 := Lib.hid (number_yes HA.out hs6 hn1)
  have hs1 := numN_short hn1 hs6
  have ha := numN_le hn1
  have hkw : IntKind.u8.wrap (a : Int) = a := by simp [IntKind.wrap, IntKind.bits, IntKind.signed]; omega
  have HN1 := Lib.hid hn1
  clear hn1
  go_enter Tryz.func45, Tryz.ntmps45
  go_wp2_with fail
  refine HC1.out.mono ?_
  rintro e w2 ⟨rfl, v2, W2, O2⟩
  have g2 := W2.box.free 2
  have e2 : w2.cell? ⟨B, 2, none⟩ = some (.int .u8 0) := W2.box.at 2 rfl
  have hq2 := (O2.block w.heap.size (by simp) (by omega))
  have hq2 : w2.cell? ⟨w.heap.size, 4, none⟩ = some (.func (.func 79) #[] #[]) := (World.cell?_of_block (a := ⟨w.heap.size, 4, none⟩) hq2).trans hq
  have hlt2 := W2.box.lt
  have hneB : w.heap.size ≠ B := by omega
  have k3 : Oth B w2 (w2.setCell ⟨B, 2, none⟩ (.int .u8 (a : Nat))) := (Oth.refl B w2).set 2 (.int .u8 (a : Nat))
  have H3 : Hid (WdAt w0 (w2.setCell ⟨B, 2, none⟩ (.int .u8 (a : Nat))) B v2 l1 { Ev.zero with kind := 5, client := a } nil0 nil0) := Lib.hid ⟨k3.fr W2.frm W2.ge, W2.ge, W2.box.setAt 2 (.int .u8 (a : Nat)), W2.rd⟩
  have hq3 : (w2.setCell ⟨B, 2, none⟩ (.int .u8 (a : Nat))).cell? ⟨w.heap.size, 4, none⟩ = some (.func (.func 79) #[] #[]) := (World.cell?_of_block (a := ⟨w.heap.size, 4, none⟩) (k3.block w.heap.size (lt_of_cell hq2) hneB)).trans hq2
  have hsw2 : w.heap.size < w2.heap.size := lt_of_cell hq2
  clear W2 O2 HC1 HA hq hq2 k3
  rcases hn2 : numN 65535 l1 with _ | ⟨b, l2⟩
  · have HN := Lib.hid (show O = none by rw [← HO.out, restN, if_neg (by decide), HN1.out]; simp only; rw [hn2])
    have HC := Lib.hid (number_no H3.out HE.out hs1 hn2)
    clear hn2 HO HBD
    go_wp2_with fail
    refine HC.out.mono ?_
    rintro e w9 ⟨rfl, f9⟩
    have hz : RestOut w0 B O (.panicked wrongP) w9 := by rw [HN.out]; exact ⟨rfl, f9⟩
    exact ⟨rfl, hz⟩
  have HC2 := Lib.hid (number_yes H3.out hs1 hn2)
  have hb16 := numN_le hn2
  have hkw2 : IntKind.u16.wrap (b : Int) = b := by simp [IntKind.wrap, IntKind.bits, IntKind.signed]; omega
  have HO1 : Hid (bodyN { Ev.zero with kind := 5, client := a, id := b } l2 = O) := Lib.hid (by rw [← HO.out, restN, if_neg (by decide), HN1.out]; simp only; rw [hn2])
  have HPM : Hid (∃ p, l = p ++ l2) := Lib.hid (by
    obtain ⟨q1, h1⟩ := numN_some HN1.out
    obtain ⟨q2, h2⟩ := numN_some hn2
    exact ⟨[q1, q2], by rw [h1, h2]; rfl⟩)
  clear hn2 HO HN1
  go_wp2_with fail
  refine HC2.out.mono ?_
  rintro e w4 ⟨rfl, v4, W4, O4⟩
  have g3 := W4.box.free 3
  have e1 : w4.cell? ⟨B, 1, none⟩ = some (.int .u8 5) := W4.box.at 1 rfl
  have e3 : w4.cell? ⟨B, 3, none⟩ = some (.int .u16 0) := W4.box.at 3 rfl
  have hq4 : w4.cell? ⟨w.heap.size, 4, none⟩ = some (.func (.func 79) #[] #[]) := (World.cell?_of_block (a := ⟨w.heap.size, 4, none⟩) (O4.block w.heap.size (by simpa using hsw2) hneB)).trans hq3
  have hlt4 := W4.box.lt
  have k5 : Oth B w4 (w4.setCell ⟨B, 3, none⟩ (.int .u16 (b : Nat))) := (Oth.refl B w4).set 3 (.int .u16 (b : Nat))
  have H5 : WdAt w0 (w4.setCell ⟨B, 3, none⟩ (.int .u16 (b : Nat))) B v4 l2 { Ev.zero with kind := 5, client := a, id := b } nil0 nil0 := ⟨k5.fr W4.frm W4.ge, W4.ge, W4.box.setAt 3 (.int .u16 (b : Nat)), W4.rd⟩
  obtain ⟨pp, hpp⟩ := HPM.out
  have HC5 := Lib.hid (HBD.out _ _ pp l2 _ hpp H5 ⟨rfl, rfl, rfl⟩ rfl)
  clear W4 O4 HC2 H3 hq3 k5 H5 hpp HPM HBD d1 e2 g2
  go_wp2_with fail
  refine HC5.out.mono ?_
  rintro e w9 k9
  rw [HO1.out] at k9
  clear HO1
  cases O with
  | none =>
    obtain ⟨rfl, f9⟩ := k9
    exact ⟨rfl, ⟨rfl, f9⟩⟩
  | some y =>
    obtain ⟨rfl, k9⟩ := k9
    have K9 := Lib.hid k9
    clear k9
    go_wp2_with fail
    go_end0
    exact ⟨rfl, K9.out⟩
set_option maxRecDepth 100000 in
set_option maxHeartbeats 1000000 in
theorem rest_6 {w0 w : World} {B : Nat} {v : Value} {l : List W8} (h : WdAt w0 w B v l { Ev.zero with kind := 6 } nil0 nil0) (hE : Env0 w0) (hs : ∀ s ∈ l, s.length < 100000) (hbd : Body 80 w0 B l 6) :
    Calls Tryz.prog 45 #[.pointer (some ⟨B, 0, none⟩)] w (RestOut w0 B (restN 6 l)) := by
  have hs6 : ∀ s ∈ l, s.length < 1000000 := fun s hm => by have := hs s hm; omega
  have hfn : IsFn 80 := isFn Tryz.func80 (by kernel_rfl) rfl
  unfold IsFn at hfn
  generalize hO : restN 6 l = O
  have HO := Lib.hid hO
  have HBD := Lib.hid hbd
  have HE := Lib.hid hE
  have d1 : w.cell? ⟨B, 1, none⟩ = some (.int .u8 6) := h.box.at 1 rfl
  have hlt := h.box.lt
  have hA := h.fr ((Fr.refl w).alloc (.cells #[.func (.func 75) #[] #[], .func (.func 76) #[] #[], .func (.func 77) #[] #[], .func (.func 78) #[] #[], .func (.func 79) #[] #[], .func (.func 80) #[] #[], .func (.func 78) #[] #[]] 130))
  have HA := Lib.hid hA
  have hq : (w.alloc (.cells #[.func (.func 75) #[] #[], .func (.func 76) #[] #[], .func (.func 77) #[] #[], .func (.func 78) #[] #[], .func (.func 79) #[] #[], .func (.func 80) #[] #[], .func (.func 78) #[] #[]] 130)).cell? ⟨w.heap.size, 5, none⟩ = some (.func (.func 80) #[] #[]) := (BoxAt.new w _ _).at 5 rfl
  have hw7 : IntKind.u8.wrap 5 = 5 := rfl
  clear hO hbd hE h hA
  rcases hn1 : numN 16 l with _ | ⟨a, l1⟩
  · have HN := Lib.hid (show O = none by rw [← HO.out, restN, if_neg (by decide), hn1])
    have HC := Lib.hid (number_no HA.out HE.out hs6 hn1)
    clear hn1 HO HBD
    go_enter Tryz.func45, Tryz.ntmps45
    go_wp2_with fail
    refine HC.out.mono ?_
    rintro e w9 ⟨rfl, f9⟩
    have hz : RestOut w0 B O (.panicked wrongP) w9 := by rw [HN.out]; exact ⟨rfl, f9⟩
    exact ⟨rfl, hz⟩
  have HC1 := Lib.hid (number_yes HA.out hs6 hn1)
  have hs1 := numN_short hn1 hs6
  have ha := numN_le hn1
  have hkw : IntKind.u8.wrap (a : Int) = a := by simp [IntKind.wrap, IntKind.bits, IntKind.signed]; omega
  have HN1 := Lib.hid hn1
  clear hn1
  go_enter Tryz.func45, Tryz.ntmps45
  go_wp2_with fail
  refine HC1.out.mono ?_
  rintro e w2 ⟨rfl, v2, W2, O2⟩
  have g2 := W2.box.free 2
  have e2 : w2.cell? ⟨B, 2, none⟩ = some (.int .u8 0) := W2.box.at 2 rfl
  have hq2 := (O2.block w.heap.size (by simp) (by omega))
  have hq2 : w2.cell? ⟨w.heap.size, 5, none⟩ = some (.func (.func 80) #[] #[]) := (World.cell?_of_block (a := ⟨w.heap.size, 5, none⟩) hq2).trans hq
  have hlt2 := W2.box.lt
  have hneB : w.heap.size ≠ B := by omega
  have k3 : Oth B w2 (w2.setCell ⟨B, 2, none⟩ (.int .u8 (a : Nat))) := (Oth.refl B w2).set 2 (.int .u8 (a : Nat))
  have H3 : Hid (WdAt w0 (w2.setCell ⟨B, 2, none⟩ (.int .u8 (a : Nat))) B v2 l1 { Ev.zero with kind := 6, client := a } nil0 nil0) := Lib.hid ⟨k3.fr W2.frm W2.ge, W2.ge, W2.box.setAt 2 (.int .u8 (a : Nat)), W2.rd⟩
  have hq3 : (w2.setCell ⟨B, 2, none⟩ (.int .u8 (a : Nat))).cell? ⟨w.heap.size, 5, none⟩ = some (.func (.func 80) #[] #[]) := (World.cell?_of_block (a := ⟨w.heap.size, 5, none⟩) (k3.block w.heap.size (lt_of_cell hq2) hneB)).trans hq2
  have hsw2 : w.heap.size < w2.heap.size := lt_of_cell hq2
  clear W2 O2 HC1 HA hq hq2 k3
  rcases hn2 : numN 65535 l1 with _ | ⟨b, l2⟩
  · have HN := Lib.hid (show O = none by rw [← HO.out, restN, if_neg (by decide), HN1.out]; simp only; rw [hn2])
    have HC := Lib.hid (number_no H3.out HE.out hs1 hn2)
    clear hn2 HO HBD
    go_wp2_with fail
    refine HC.out.mono ?_
    rintro e w9 ⟨rfl, f9⟩
    have hz : RestOut w0 B O (.panicked wrongP) w9 := by rw [HN.out]; exact ⟨rfl, f9⟩
    exact ⟨rfl, hz⟩
  have HC2 := Lib.hid (number_yes H3.out hs1 hn2)
  have hb16 := numN_le hn2
  have hkw2 : IntKind.u16.wrap (b : Int) = b := by simp [IntKind.wrap, IntKind.bits, IntKind.signed]; omega
  have HO1 : Hid (bodyN { Ev.zero with kind := 6, client := a, id := b } l2 = O) := Lib.hid (by rw [← HO.out, restN, if_neg (by decide), HN1.out]; simp only; rw [hn2])
  have HPM : Hid (∃ p, l = p ++ l2) := Lib.hid (by
    obtain ⟨q1, h1⟩ := numN_some HN1.out
    obtain ⟨q2, h2⟩ := numN_some hn2
    exact ⟨[q1, q2], by rw [h1, h2]; rfl⟩)
  clear hn2 HO HN1
  go_wp2_with fail
  refine HC2.out.mono ?_
  rintro e w4 ⟨rfl, v4, W4, O4⟩
  have g3 := W4.box.free 3
  have e1 : w4.cell? ⟨B, 1, none⟩ = some (.int .u8 6) := W4.box.at 1 rfl
  have e3 : w4.cell? ⟨B, 3, none⟩ = some (.int .u16 0) := W4.box.at 3 rfl
  have hq4 : w4.cell? ⟨w.heap.size, 5, none⟩ = some (.func (.func 80) #[] #[]) := (World.cell?_of_block (a := ⟨w.heap.size, 5, none⟩) (O4.block w.heap.size (by simpa using hsw2) hneB)).trans hq3
  have hlt4 := W4.box.lt
  have k5 : Oth B w4 (w4.setCell ⟨B, 3, none⟩ (.int .u16 (b : Nat))) := (Oth.refl B w4).set 3 (.int .u16 (b : Nat))
  have H5 : WdAt w0 (w4.setCell ⟨B, 3, none⟩ (.int .u16 (b : Nat))) B v4 l2 { Ev.zero with kind := 6, client := a, id := b } nil0 nil0 := ⟨k5.fr W4.frm W4.ge, W4.ge, W4.box.setAt 3 (.int .u16 (b : Nat)), W4.rd⟩
  obtain ⟨pp, hpp⟩ := HPM.out
  have HC5 := Lib.hid (HBD.out _ _ pp l2 _ hpp H5 ⟨rfl, rfl, rfl⟩ rfl)
  clear W4 O4 HC2 H3 hq3 k5 H5 hpp HPM HBD d1 e2 g2
  go_wp2_with fail
  refine HC5.out.mono ?_
  rintro e w9 k9
  rw [HO1.out] at k9
  clear HO1
  cases O with
  | none =>
    obtain ⟨rfl, f9⟩ := k9
    exact ⟨rfl, ⟨rfl, f9⟩⟩
  | some y =>
    obtain ⟨rfl, k9⟩ := k9
    have K9 := Lib.hid k9
    clear k9
    go_wp2_with fail
    go_end0
    exact ⟨rfl, K9.out⟩
set_option maxRecDepth 100000 in
set_option maxHeartbeats 1000000 in
theorem rest_7 {w0 w : World} {B : Nat} {v : Value} {l : List W8} (h : WdAt w0 w B v l { Ev.zero with kind := 7 } nil0 nil0) (hE : Env0 w0) (hs : ∀ s ∈ l, s.length < 100000) (hbd : Body 78 w0 B l 7) :
    Calls Tryz.prog 45 #[.pointer (some ⟨B, 0, none⟩)] w (RestOut w0 B (restN 7 l)) := by
  have hs6 : ∀ s ∈ l, s.length < 1000000 := fun s hm => by have := hs s hm; omega
  have hfn : IsFn 78 := isFn Tryz.func78 (by kernel_rfl) rfl
  unfold IsFn at hfn
  generalize hO : restN 7 l = O
  have HO := Lib.hid hO
  have HBD := Lib.hid hbd
  have HE := Lib.hid hE
  have d1 : w.cell? ⟨B, 1, none⟩ = some (.int .u8 7) := h.box.at 1 rfl
  have hlt := h.box.lt
  have hA := h.fr ((Fr.refl w).alloc (.cells #[.func (.func 75) #[] #[], .func (.func 76) #[] #[], .func (.func 77) #[] #[], .func (.func 78) #[] #[], .func (.func 79) #[] #[], .func (.func 80) #[] #[], .func (.func 78) #[] #[]] 130))
  have HA := Lib.hid hA
  have hq : (w.alloc (.cells #[.func (.func 75) #[] #[], .func (.func 76) #[] #[], .func (.func 77) #[] #[], .func (.func 78) #[] #[], .func (.func 79) #[] #[], .func (.func 80) #[] #[], .func (.func 78) #[] #[]] 130)).cell? ⟨w.heap.size, 6, none⟩ = some (.func (.func 78) #[] #[]) := (BoxAt.new w _ _).at 6 rfl
  have hw7 : IntKind.u8.wrap 6 = 6 := rfl
  clear hO hbd hE h hA
  rcases hn1 : numN 16 l with _ | ⟨a, l1⟩
  · have HN := Lib.hid (show O = none by rw [← HO.out, restN, if_neg (by decide), hn1])
    have HC := Lib.hid (number_no HA.out HE.out hs6 hn1)
    clear hn1 HO HBD
    go_enter Tryz.func45, Tryz.ntmps45
    go_wp2_with fail
    refine HC.out.mono ?_
    rintro e w9 ⟨rfl, f9⟩
    have hz : RestOut w0 B O (.panicked wrongP) w9 := by rw [HN.out]; exact ⟨rfl, f9⟩
    exact ⟨rfl, hz⟩
  have HC1 := Lib.hid (number_yes HA.out hs6 hn1)
  have hs1 := numN_short hn1 hs6
  have ha := numN_le hn1
  have hkw : IntKind.u8.wrap (a : Int) = a := by simp [IntKind.wrap, IntKind.bits, IntKind.signed]; omega
  have HN1 := Lib.hid hn1
  clear hn1
  go_enter Tryz.func45, Tryz.ntmps45
  go_wp2_with fail
  refine HC1.out.mono ?_
  rintro e w2 ⟨rfl, v2, W2, O2⟩
  have g2 := W2.box.free 2
  have e2 : w2.cell? ⟨B, 2, none⟩ = some (.int .u8 0) := W2.box.at 2 rfl
  have hq2 := (O2.block w.heap.size (by simp) (by omega))
  have hq2 : w2.cell? ⟨w.heap.size, 6, none⟩ = some (.func (.func 78) #[] #[]) := (World.cell?_of_block (a := ⟨w.heap.size, 6, none⟩) hq2).trans hq
  have hlt2 := W2.box.lt
  have hneB : w.heap.size ≠ B := by omega
  have k3 : Oth B w2 (w2.setCell ⟨B, 2, none⟩ (.int .u8 (a : Nat))) := (Oth.refl B w2).set 2 (.int .u8 (a : Nat))
  have H3 : Hid (WdAt w0 (w2.setCell ⟨B, 2, none⟩ (.int .u8 (a : Nat))) B v2 l1 { Ev.zero with kind := 7, client := a } nil0 nil0) := Lib.hid ⟨k3.fr W2.frm W2.ge, W2.ge, W2.box.setAt 2 (.int .u8 (a : Nat)), W2.rd⟩
  have hq3 : (w2.setCell ⟨B, 2, none⟩ (.int .u8 (a : Nat))).cell? ⟨w.heap.size, 6, none⟩ = some (.func (.func 78) #[] #[]) := (World.cell?_of_block (a := ⟨w.heap.size, 6, none⟩) (k3.block w.heap.size (lt_of_cell hq2) hneB)).trans hq2
  have hsw2 : w.heap.size < w2.heap.size := lt_of_cell hq2
  clear W2 O2 HC1 HA hq hq2 k3
  rcases hn2 : numN 65535 l1 with _ | ⟨b, l2⟩
  · have HN := Lib.hid (show O = none by rw [← HO.out, restN, if_neg (by decide), HN1.out]; simp only; rw [hn2])
    have HC := Lib.hid (number_no H3.out HE.out hs1 hn2)
    clear hn2 HO HBD
    go_wp2_with fail
    refine HC.out.mono ?_
    rintro e w9 ⟨rfl, f9⟩
    have hz : RestOut w0 B O (.panicked wrongP) w9 := by rw [HN.out]; exact ⟨rfl, f9⟩
    exact ⟨rfl, hz⟩
  have HC2 := Lib.hid (number_yes H3.out hs1 hn2)
  have hb16 := numN_le hn2
  have hkw2 : IntKind.u16.wrap (b : Int) = b := by simp [IntKind.wrap, IntKind.bits, IntKind.signed]; omega
  have HO1 : Hid (bodyN { Ev.zero with kind := 7, client := a, id := b } l2 = O) := Lib.hid (by rw [← HO.out, restN, if_neg (by decide), HN1.out]; simp only; rw [hn2])
  have HPM : Hid (∃ p, l = p ++ l2) := Lib.hid (by
    obtain ⟨q1, h1⟩ := numN_some HN1.out
    obtain ⟨q2, h2⟩ := numN_some hn2
    exact ⟨[q1, q2], by rw [h1, h2]; rfl⟩)
  clear hn2 HO HN1
  go_wp2_with fail
  refine HC2.out.mono ?_
  rintro e w4 ⟨rfl, v4, W4, O4⟩
  have g3 := W4.box.free 3
  have e1 : w4.cell? ⟨B, 1, none⟩ = some (.int .u8 7) := W4.box.at 1 rfl
  have e3 : w4.cell? ⟨B, 3, none⟩ = some (.int .u16 0) := W4.box.at 3 rfl
  have hq4 : w4.cell? ⟨w.heap.size, 6, none⟩ = some (.func (.func 78) #[] #[]) := (World.cell?_of_block (a := ⟨w.heap.size, 6, none⟩) (O4.block w.heap.size (by simpa using hsw2) hneB)).trans hq3
  have hlt4 := W4.box.lt
  have k5 : Oth B w4 (w4.setCell ⟨B, 3, none⟩ (.int .u16 (b : Nat))) := (Oth.refl B w4).set 3 (.int .u16 (b : Nat))
  have H5 : WdAt w0 (w4.setCell ⟨B, 3, none⟩ (.int .u16 (b : Nat))) B v4 l2 { Ev.zero with kind := 7, client := a, id := b } nil0 nil0 := ⟨k5.fr W4.frm W4.ge, W4.ge, W4.box.setAt 3 (.int .u16 (b : Nat)), W4.rd⟩
  obtain ⟨pp, hpp⟩ := HPM.out
  have HC5 := Lib.hid (HBD.out _ _ pp l2 _ hpp H5 ⟨rfl, rfl, rfl⟩ rfl)
  clear W4 O4 HC2 H3 hq3 k5 H5 hpp HPM HBD d1 e2 g2
  go_wp2_with fail
  refine HC5.out.mono ?_
  rintro e w9 k9
  rw [HO1.out] at k9
  clear HO1
  cases O with
  | none =>
    obtain ⟨rfl, f9⟩ := k9
    exact ⟨rfl, ⟨rfl, f9⟩⟩
  | some y =>
    obtain ⟨rfl, k9⟩ := k9
    have K9 := Lib.hid k9
    clear k9
    go_wp2_with fail
    go_end0
    exact ⟨rfl, K9.out⟩
/-- (*words).rest answers what restN says. -/
theorem rest_c {w0 w : World} {B : Nat} {v : Value} {l : List W8} {k : Nat} (h : WdAt w0 w B v l { Ev.zero with kind := k } nil0 nil0) (h1 : 1 ≤ k) (h7 : k ≤ 7) (hE : EnvT w0) (hs : ∀ s ∈ l, s.length < 100000) (hn : l.length < 1000000) (hj : ∀ p m, l = p ++ m → (Lib.join m [32]).length < 1000000) :
    Calls Tryz.prog 45 #[.pointer (some ⟨B, 0, none⟩)] w (RestOut w0 B (restN k l)) := by
  have hsm : ∀ p m, l = p ++ m → ∀ s ∈ m, s.length < 100000 := fun p m e s hm => hs s (by rw [e]; exact List.mem_append_right _ hm)
  have hnm : ∀ p m, l = p ++ m → m.length < 1000000 := fun p m e => by rw [e, List.length_append] at hn; omega
  rcases (show k = 1 ∨ k = 2 ∨ k = 3 ∨ k = 4 ∨ k = 5 ∨ k = 6 ∨ k = 7 by omega) with rfl | rfl | rfl | rfl | rfl | rfl | rfl
  · exact rest_1 h hE.toEnv0 hs fun W v p m y e hw hb hk => body1_c hw hb hk hE (hsm p m e)
  · exact rest_2 h hE.toEnv0 hs fun W v p m y e hw hb hk => body2_c hw hb hk hE (hsm p m e)
  · exact rest_3 h hE.toEnv0 hs fun W v p m y e hw hb hk => body3_c hw hb hk hE (hj p m e) (hnm p m e)
  · exact rest_4 h hE.toEnv0 hs fun W v p m y e hw hb hk => body4_c hw hb (.inl hk)
  · exact rest_5 h hE.toEnv0 hs fun W v p m y e hw hb hk => body5_c hw hb hk hE (hsm p m e) (hnm p m e)
  · exact rest_6 h hE.toEnv0 hs fun W v p m y e hw hb hk => body6_c hw hb hk hE (hsm p m e) (hnm p m e)
  · exact rest_7 h hE.toEnv0 hs fun W v p m y e hw hb hk => body4_c hw hb (.inr hk)
end Go.Proofs.YtfklgaeejmeipaaGreatDoor

/- text.Parse's deferred closure: its contracts. No condition but what each says. -/
namespace Go.Proofs.YtfklgaeejmeipaaGreatDoor
open Go.RowKit

/-- What is older than two blocks stands. -/
def NewerThan (p q : Nat) (w w' : World) : Prop := ∀ a : World, Fr a w → a.heap.size ≤ p → a.heap.size ≤ q → Fr a w'
set_option maxRecDepth 100000 in
/-- The frame returns: recover finds nothing. -/
theorem catch_idle (p q : Addr) (w : World) :
    CallsD Tryz.prog 42 #[.pointer (some p), .pointer (some q)] .returning w fun e u' w' => e = .returned (.tuple #[]) ∧ u' = .returning ∧ w' = w := by
  refine callsD_of_wpS Tryz.func42 rfl fun c₀ cs hu => ?_
  apply wpS_seq
  apply wpS_region
  simp [wpOpsS, go_sem, recoverD, hu, Tryz.ntmps42, Exit.thenS]
  refine wpS_of_wp ?_
  go_wp2
  cases c₀
  simp_all [bodyPostS, results, Tryz.results42, Exit.thenS]
set_option maxRecDepth 100000 in
set_option maxHeartbeats 1000000 in
/-- The frame panics with wrong{}: recover hands it back, the results are laid anew. -/
theorem catch_wrong {p q : Nat} {x : Ev} {t r ev : Value} (w : World) (hB : BoxAt w p (x.cells t r) 32) (hq : BoxAt w q #[ev] 35) (hpq : p ≠ q) :
    CallsD Tryz.prog 42 #[.pointer (some ⟨p, 0, none⟩), .pointer (some ⟨q, 0, none⟩)] (.panicking wrongP) w fun e u' w' => e = .returned (.tuple #[]) ∧ u' = .panicking [{ v := .iface 77 (.agg #[]), recovered := true }] ∧ BoxAt w' p (Ev.zero.cells nil0 nil0) 32 ∧ BoxAt w' q #[.int .i64 4] 35 ∧ NewerThan p q w w' := by
  refine callsD_of_wpS Tryz.func42 rfl fun c₀ cs hu => ?_
  unfold wrongP at hu
  apply wpS_seq
  apply wpS_region
  simp [wpOpsS, go_sem, recoverD, hu, Tryz.ntmps42, Exit.thenS]
  refine wpS_of_wp ?_
  have hta : ∀ W : World, (Instr.typeAssert (.iface 77 (.agg #[])) 20 77 true).run Tryz.prog W = .ok (.tuple #[.agg #[], .bool true]) W := fun _ => by kernel_rfl
  have hB1 := hB.alloc (.cells #[] 77)
  have hq1 := hq.alloc (.cells #[] 77)
  unfold Ev.cells at hB1
  go_wp2_with ((with_reducible refine wpList_here (.store 32 (.tmp 0) (.tmp 11)) rfl ?_); refine wpList_store_old 32 (.tmp 0) (.tmp 11) rfl p _ (Ev.zero.cells nil0 nil0) rfl rfl hB1 Tryz.infoEv rfl (Ev.oneCell Ev.zero none none 0 0 0 0) rfl rfl ?_; intro w2 hrl; have hq2 := hrl.boxOther hq1 (Ne.symm hpq); have cq := hq2.at 0 rfl; have fq := hq2.free 0)
  have hp3 : BoxAt (w2.setCell ⟨q, 0, none⟩ (.int .i64 4)) p (Ev.zero.cells nil0 nil0) 32 := hrl.box.set (show q ≠ p from Ne.symm hpq) _
  have hq3 : BoxAt (w2.setCell ⟨q, 0, none⟩ (.int .i64 4)) q #[.int .i64 4] 35 := hq2.setAt 0 _
  have hF : NewerThan p q w (w2.setCell ⟨q, 0, none⟩ (.int .i64 4)) := fun a f h1 h2 => (hrl.fr (f.alloc _) h1).setCell (p := ⟨q, 0, none⟩) h2 _
  clear hrl hq2 cq fq hB1 hq1 hB hq hta hu
  cases c₀
  simp [bodyPostS, results, Tryz.results42, Exit.thenS, hp3, hq3, hF]
end Go.Proofs.YtfklgaeejmeipaaGreatDoor
