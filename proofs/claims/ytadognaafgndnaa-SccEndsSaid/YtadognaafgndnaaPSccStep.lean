/- Layer 28: leave is the machine's step. No condition but the graph's bound. -/
import Derived.Test.YtadognaafgndnaaPSccLib
import Derived.Test.YtadognaafgndnaaPSccRd
import Derived.Deep.LoopGhost
import Derived.WalkMore
import Derived.Test.YtadognaafgndnaaPSccP
import Derived.Shelf.SlSortCmp.Whole1
set_option linter.all false
set_option linter.unusedVariables false
set_option linter.unusedSimpArgs false
set_option linter.unnecessarySimpa false
/- Layer 28: leave is the machine's step. No condition but the graph's bound. -/
namespace Go.Proofs.Ytadognaafgndnaa
open Go.RowKit

theorem Inv.rootLow {G : List (List Nat)} {s : St} (H : Inv G s) {i : Nat} (hw : s.way = [i]) : s.low i = s.num i := by
  have hi : i ∈ s.way := by rw [hw]; simp
  obtain ⟨u, h1, h2, _⟩ := H.lowIs i hi
  obtain ⟨x, h3, h4, _⟩ := H.toGray u h1
  rw [hw, List.mem_singleton] at h3
  subst h3
  have := H.lowLe x hi
  omega
def StepQ (w0 : World) (x : MB) (vG : Value) (n : Nat) (s : St) (e : Ending) (w' : World) : Prop := e = .returned (.tuple #[]) ∧ ∃ vw vt ve gs, Mem w0 w' { x with vw := vw, vt := vt, ve := ve, gs := gs } vG n s s.wf
theorem leaveStep_c {w0 w : World} {x : MB} {vG : Value} {G : List (List Nat)} {s : St} (H : Mem w0 w x vG G.length s s.wf) (D : Good G s) (hb : G.length ≤ 5864062014634) {wv : List Nat} {i : Nat} (hw : s.way = wv ++ [i]) (hk : (outs G i)[s.gone i]? = none) :
    Calls Try.prog 41 #[Pt x.q] w (StepQ w0 x vG G.length (s.step G)) := by
  have b1 := D.wayLen
  have b2 := D.waitLen
  have b3 := D.endedLen
  have hi : i ∈ s.way := by rw [hw]; simp
  obtain ⟨hs1, hs2⟩ := split_at (D.inv.sub i hi)
  obtain ⟨e1, e2⟩ := last_way hw
  have hstep : s.step G = s.leave wv i := by
    unfold St.step
    rw [e1]
    show (match (outs G i)[s.gone i]? with | some k => _ | none => _) = _
    rw [hk]
    show s.leave s.way.dropLast i = _
    rw [e2]
  rw [hstep]
  by_cases heq : s.low i = s.num i
  · have hl : s.leave wv i = s.close wv (ahead_ s.wait i) (sortN (i :: behind_ s.wait i)) i := by unfold St.leave; rw [if_pos heq]
    rw [hl]
    have hwf := wf_close D (w := wv) (g := sortN (i :: behind_ s.wait i)) hs1
    have hq : ∀ e w', close_post w0 x vG G.length s s.wf wv (ahead_ s.wait i) (behind_ s.wait i) i e w' → StepQ w0 x vG G.length (s.close wv (ahead_ s.wait i) (sortN (i :: behind_ s.wait i)) i) e w' := by
      rintro e w' ⟨rfl, vw, vt, ve, gv, h⟩
      refine ⟨rfl, vw, vt, ve, x.gs ++ [gv], ?_⟩
      rw [hwf]; exact h
    rcases List.eq_nil_or_concat wv with h | ⟨w2, p, h⟩
    · exact (leaveEnd0_c H hw (fun v hv => D.wayLt hv) (fun v hv => D.waitLt hv) (by omega) (by omega) (by omega) (by omega) heq hs1 hs2 h).mono hq
    · exact (leaveEnd_c H hw (fun v hv => D.wayLt hv) (fun v hv => D.waitLt hv) (by omega) (by omega) (by omega) (by omega) heq hs1 hs2 (h.trans List.concat_eq_append)).mono hq
  · have hl : s.leave wv i = s.up wv i := by unfold St.leave; rw [if_neg heq]
    rw [hl]
    rcases List.eq_nil_or_concat wv with h | ⟨w2, p, h⟩
    · subst h; exact absurd (D.inv.rootLow hw) heq
    · refine (leave_c H hw (fun v hv => D.wayLt hv) (by omega) (by omega) (by omega) heq (h.trans List.concat_eq_append)).mono ?_
      rintro e w' ⟨rfl, vw, h⟩
      exact ⟨rfl, vw, x.vt, x.ve, x.gs, h⟩
/-- A node is met. -/
theorem meetStep_c {w0 w : World} {x : MB} {vG : Value} {G : List (List Nat)} {s : St} (H : Mem w0 w x vG G.length s s.wf) (hb : G.length ≤ 5864062014634) (hm : s.met ≤ 2 * G.length) (b1 : s.way.length ≤ G.length) (b2 : s.wait.length ≤ G.length) {i : Nat} (hi : i < G.length) :
    Calls Try.prog 40 #[Pt x.q, .int .i64 i] w (StepQ w0 x vG G.length (s.meet i)) := by
  refine (meet_c H hi (by omega) (by omega) (by omega) (by omega)).mono ?_
  rintro e w' ⟨rfl, vw, vt, h⟩
  refine ⟨rfl, vw, vt, x.ve, x.gs, ?_⟩
  rw [wf_meet]; exact h
/-- How much is left, read from memory. -/
def intAt (w : World) (b o : Nat) : Nat := match w.cell? ⟨b, o, none⟩ with
  | some (.int _ i) => i.toNat
  | _ => 0
def lenAt (w : World) (b o : Nat) : Nat := match w.cell? ⟨b, o, none⟩ with
  | some (.slice _ n _) => n
  | _ => 0
def memLeft (G : List (List Nat)) (q gn : Nat) (w : World) : Nat := 2 * ((List.range G.length).map fun v => (outs G v).length - intAt w gn (v * 4 + 3)).sum + lenAt w q 2
theorem Mem.left {w0 w : World} {x : MB} {vG : Value} {G : List (List Nat)} {s : St} {wf : Nat → Bool} (H : Mem w0 w x vG G.length s wf) : memLeft G x.q x.gn w = s.left G := by
  unfold memLeft St.left leftOf
  obtain ⟨a, c, h1, _⟩ := ints_form H.way
  have h2 : lenAt w x.q 2 = s.way.length := by
    have h3 := H.c2.1
    rw [h1] at h3
    unfold lenAt; rw [h3]
  have h4 : ((List.range G.length).map fun v => (outs G v).length - intAt w x.gn (v * 4 + 3)) = (List.range G.length).map fun v => (outs G v).length - s.gone v := by
    refine List.map_congr_left fun v hv => ?_
    have h5 := (H.n3 v (List.mem_range.1 hv)).1
    have h6 : intAt w x.gn (v * 4 + 3) = s.gone v := by unfold intAt; rw [h5]; simp
    rw [h6]
  rw [h2, h4]
end Go.Proofs.Ytadognaafgndnaa

/- scc.search.from: its walk: the machine runs until the way is empty. No condition but the graph's bound. -/
namespace Go.Proofs.Ytadognaafgndnaa
open Go.RowKit
attribute [local go_sem] Oper.semAt_some

def MB.mk' (x : MB) (vw vt ve : Value) (gs : List Value) : MB := { x with vw := vw, vt := vt, ve := ve, gs := gs }
theorem St.step_some {G : List (List Nat)} {s : St} {wv : List Nat} {i k : Nat} (hw : s.way = wv ++ [i]) (hk : (outs G i)[s.gone i]? = some k) : s.step G = if s.num k = 0 then (s.go i).meet k else if k ∈ s.wait then (s.go i).lower i (s.num k) else s.go i := by
  obtain ⟨e1, e2⟩ := last_way hw
  unfold St.step
  rw [e1]
  show (match (outs G i)[s.gone i]? with | some k => _ | none => _) = _
  rw [hk]
set_option maxRecDepth 100000 in
set_option maxHeartbeats 8000000 in
theorem from_c {w0 w : World} {x : MB} {vG : Value} {G : List (List Nat)} {s : St} (H : Mem w0 w x vG G.length s s.wf) (D : Good G s) (hG : MayG G) (hR : RdGr w0 vG G) (hb : G.length ≤ 5864062014634) (hw : s.way = []) {f : Nat} (hf : f < G.length) (h0 : s.num f = 0) :
    Calls Try.prog 33 #[Pt x.q, .int .i64 f] w fun e w' => ∃ m, ((s.meet f).run G m).way = [] ∧ StepQ w0 x vG G.length ((s.meet f).run G m) e w' := by
  have HD : Hid (Good G (s.meet f)) := Lib.hid (D.meetRoot hf hw h0)
  have HRD : Hid (∀ m, Good G ((s.meet f).run G m)) := Lib.hid (fun m => HD.out.run hG m)
  have HMT := Lib.hid (meetStep_c H hb D.metLe D.wayLen D.waitLen hf)
  have HGR := Lib.hid hR
  obtain ⟨a0, cG, rfl, hcG, hG3⟩ := hR
  obtain ⟨b0, o0, _, rfl, _⟩ := hG3 f hf
  have HROW : Hid (∀ i, i < G.length → ∀ W, Fr w0 W → ∃ u, W.cell? ⟨b0, o0 + i, none⟩ = some u ∧ RdI W u (outs G i) ∧ (outs G i).length ≤ 9223372036854775807) := Lib.hid (fun i hi W hW => by
    obtain ⟨_, _, e, _, h⟩ := HGR.out.fr hW
    cases e
    obtain ⟨b, o, u, e, h1, h2, h3⟩ := h i hi
    cases e
    have e3 : outs G i = G[i] := by unfold outs; rw [List.getD_eq_getElem?_getD, List.getElem?_eq_getElem hi]; rfl
    exact ⟨u, h1, by rw [e3]; exact h2, by rw [e3]; exact h3⟩)
  clear hG3
  clear H D h0 hw
  generalize s.meet f = s1 at HD HRD HMT ⊢
  go_enter Try.func33, Try.ntmps33
  go_wp2_with fail
  go_step3
  go_wp2_with fail
  refine HMT.out.mono ?_
  rintro e w1 ⟨rfl, vw1, vt1, ve1, gs1, hM1⟩
  have HM1 := Lib.hid hM1
  clear hM1 HMT
  go_wp2_with fail
  go_step3
  go_wp2_with fail
  go_loopg [4] (s1.left G) (fun k _ wr => Hid (∃ m vw vt ve gs, (s1.run G m).left G ≤ k ∧ Mem w0 wr { x with vw := vw, vt := vt, ve := ve, gs := gs } (.slice (some ⟨b0, o0, none⟩) G.length cG) G.length (s1.run G m) (s1.run G m).wf))
  case atStart => exact ⟨0, _, _, _, _, Nat.le_refl _, HM1.out⟩
  case round =>
    have HX := hrel
    obtain ⟨m, vw, vt, ve, gs, hlk, hM⟩ := HX.out
    have hD := HRD.out m
    generalize hs2 : s1.run G m = s2 at hM hD hlk
    have HLK := Lib.hid hlk
    clear hlk
    have HS2 := Lib.hid hs2
    have HMM := Lib.hid hM
    have HDD := Lib.hid hD
    have b1 := hD.wayLen
    by_cases hwe : s2.way = []
    · obtain ⟨a, c, hvw, _⟩ := ints_form hM.way
      have hvw : vw = .slice a s2.way.length c := hvw
      rw [hwe] at hvw
      have c2 : wr.cell? ⟨x.q, 2, none⟩ = some vw := hM.c2.1
      rw [hvw] at c2
      have lq : x.q < wr.heap.size := hM.c2.lt
      clear hM hD hvw b1 hs2
      go_wp2_with fail
      refine bodyPost_end (results_none rfl _ _ _) rfl ?_
      exact ⟨m, by rw [HS2.out]; exact hwe, rfl, vw, vt, ve, gs, by rw [HS2.out]; exact HMM.out⟩
    · obtain ⟨wv, i, hw⟩ := way_split hwe
      obtain ⟨g, c, hvw, hgc, hcl, _⟩ := hM.lastWay hw
      have hvw : vw = .slice (some ⟨g, 0, none⟩) (wv.length + 1) c := hvw
      subst hvw
      have c2 : wr.cell? ⟨x.q, 2, none⟩ = some (.slice (some ⟨g, 0, none⟩) (wv.length + 1) c) := hM.c2.1
      have c1 : wr.cell? ⟨x.q, 1, none⟩ = some (.slice (some ⟨x.gn, 0, none⟩) G.length G.length) := hM.c1.1
      have lq : x.q < wr.heap.size := hM.c2.lt
      have lg := lt_of_cell hcl
      simp only at lg
      have hwl : wv.length + 1 ≤ 5864062014634 := by rw [hw] at b1; simp at b1; omega
      have hin : i < G.length := hD.wayLt (by rw [hw]; simp)
      have HWW := Lib.hid hw
      have e2 := FrW.cell c2
      have hpos : (0 : Int) < (wv.length : Int) + 1 := by omega
      clear hM hD hs2 hw b1
      go_wp2_with fail
      go_quiet (fail)
      refine gen_w fun W1 hW1 => ?_
      have hM : Mem w0 W1 { x with vw := .slice (some ⟨g, 0, none⟩) (wv.length + 1) c, vt := vt, ve := ve, gs := gs } (.slice (some ⟨b0, o0, none⟩) G.length cG) G.length s2 s2.wf := by rw [hW1]; exact HMM.out.fr ((Fr.refl wr).drewN _)
      have HM2 := Lib.hid hM
      have c1 : W1.cell? ⟨x.q, 1, none⟩ = some (.slice (some ⟨x.gn, 0, none⟩) G.length G.length) := hM.c1.1
      have lq : x.q < W1.heap.size := hM.c1.lt
      clear hM hW1 hcl lg c2 e2
      go_wp2_with fail
      go_loopg [6] (s2.left G) (fun k _ wr => Hid (∃ m vw vt ve gs, (s1.run G m).left G ≤ k ∧ (s1.run G m).left G ≤ s2.left G ∧ (s1.run G m).way = wv ++ [i] ∧ Mem w0 wr { x with vw := vw, vt := vt, ve := ve, gs := gs } (.slice (some ⟨b0, o0, none⟩) G.length cG) G.length (s1.run G m) (s1.run G m).wf))
      case atStart => exact ⟨m, _, _, _, _, by rw [HS2.out]; exact Nat.le_refl _, by rw [HS2.out]; exact Nat.le_refl _, by rw [HS2.out]; exact HWW.out, by rw [HS2.out]; exact HM2.out⟩
      case round =>
        have HX := hrel
        clear HM2
        obtain ⟨m3, vw3, vt3, ve3, gs3, hlk3, hls3, hw3, hM⟩ := HX.out
        have hD := HRD.out m3
        have HST := Lib.hid (St.run_succ G m3 s1)
        generalize hs3 : s1.run G m3 = s3 at hM hD hlk3 hls3 hw3 HST
        have HLS3 := Lib.hid hls3
        have HS3 := Lib.hid hs3
        have HM3 := Lib.hid hM
        have HD3 := Lib.hid hD
        have HLK3 := Lib.hid hlk3
        have HW3 := Lib.hid hw3
        have HLT := Lib.hid (St.left_step hG hD (by rw [hw3]; simp))
        obtain ⟨u, hcu, hru, hul⟩ := HROW.out i hin _ hM.frm
        obtain ⟨ua, uc, rfl, huc, hux⟩ := hru
        have c0 : wr.cell? ⟨x.q, 0, none⟩ = some (.slice (some ⟨b0, o0, none⟩) G.length cG) := hM.c0.1
        have cg : wr.cell? ⟨x.gn, i * 4 + 3, none⟩ = some (.int .i64 (s3.gone i : Nat)) := (hM.n3 i hin).1
        have lq : x.q < wr.heap.size := hM.c0.lt
        have lgn : x.gn < wr.heap.size := hM.ltn
        have lb0 := lt_of_cell hcu
        simp only at lb0
        have HUX := Lib.hid hux
        clear hs3 hw3 hlk3 hls3 hux c1
        cases hk : (outs G i)[s3.gone i]? with
        | none =>
          have hge : (outs G i).length ≤ s3.gone i := List.getElem?_eq_none_iff.1 hk
          have hcp : ¬ ((s3.gone i : Int) < ((outs G i).length : Int)) := by omega
          have HLV := Lib.hid (fun W (f : Fr wr W) => leaveStep_c (HM3.out.fr f) HD3.out hb HW3.out hk)
          clear hM hD hk
          go_wp2_with fail
          go_quiet (fail)
          go_wp2_with fail
          refine (HLV.out _ ((Fr.refl wr).drewN nq)).mono ?_
          rintro e w4 ⟨rfl, vw4, vt4, ve4, gs4, hM4⟩
          have HM4 := Lib.hid hM4
          clear hM4 HLV
          go_wp2_with fail
          go_roundg ((s1.run G (m3 + 1)).left G)
          case measure =>
            have h1 := HLT.out
            have h2 := HLK.out
            have h3 := HLS3.out
            rw [HST.out]; omega
          case rel => exact ⟨m3 + 1, _, _, _, _, Nat.le_refl _, by rw [HST.out]; exact HM4.out⟩
        | some k =>
          obtain ⟨hlt, hke⟩ := List.getElem?_eq_some_iff.1 hk
          have HKE := Lib.hid hk
          have hkn : k < G.length := (hG.edge (List.mem_of_getElem? hk)).2
          obtain ⟨gr, or_, rfl, hck⟩ := HUX.out (s3.gone i) hlt
          rw [hke] at hck
          unfold intV at hck
          have hcp : (s3.gone i : Int) < ((outs G i).length : Int) := by omega
          have lgr := lt_of_cell hck
          simp only at lgr
          have c1 : wr.cell? ⟨x.q, 1, none⟩ = some (.slice (some ⟨x.gn, 0, none⟩) G.length G.length) := hM.c1.1
          clear hM hD hk hke
          go_wp2_with fail
          go_quiet (fail)
          refine gen_w fun W5 hW5 => ?_
          have hMW5 : Mem w0 W5 { x with vw := vw3, vt := vt3, ve := ve3, gs := gs3 } (.slice (some ⟨b0, o0, none⟩) G.length cG) G.length s3 s3.wf := by rw [hW5]; exact HM3.out.fr ((Fr.refl wr).drewN _)
          have HMW5 := Lib.hid hMW5
          have c0 : W5.cell? ⟨x.q, 0, none⟩ = some (.slice (some ⟨b0, o0, none⟩) G.length cG) := hMW5.c0.1
          have c1 : W5.cell? ⟨x.q, 1, none⟩ = some (.slice (some ⟨x.gn, 0, none⟩) G.length G.length) := hMW5.c1.1
          have cg : W5.cell? ⟨x.gn, i * 4 + 3, none⟩ = some (.int .i64 (s3.gone i : Nat)) := (hMW5.n3 i hin).1
          have fg : W5.frozen? ⟨x.gn, i * 4 + 3, none⟩ = false := (hMW5.n3 i hin).2
          have lq : x.q < W5.heap.size := hMW5.c0.lt
          have lgn : x.gn < W5.heap.size := hMW5.ltn
          have hcu : W5.cell? ⟨b0, o0 + i, none⟩ = some (.slice (some ⟨gr, or_, none⟩) (outs G i).length uc) := by rw [hW5]; exact hcu
          have lb0 := lt_of_cell hcu
          simp only at lb0
          have hck : W5.cell? ⟨gr, or_ + s3.gone i, none⟩ = some (.int .i64 (k : Nat)) := by rw [hW5]; exact hck
          have lgr := lt_of_cell hck
          simp only at lgr
          clear hMW5 hW5
          go_wp2_with fail
          go_quiet (fail)
          refine gen_w fun W6 hW6 => ?_
          have hMW6 : Mem w0 W6 { x with vw := vw3, vt := vt3, ve := ve3, gs := gs3 } (.slice (some ⟨b0, o0, none⟩) G.length cG) G.length s3 s3.wf := by rw [hW6]; exact HMW5.out.fr ((Fr.refl W5).drewN _)
          have HMW6 := Lib.hid hMW6
          have c0 : W6.cell? ⟨x.q, 0, none⟩ = some (.slice (some ⟨b0, o0, none⟩) G.length cG) := hMW6.c0.1
          have c1 : W6.cell? ⟨x.q, 1, none⟩ = some (.slice (some ⟨x.gn, 0, none⟩) G.length G.length) := hMW6.c1.1
          have cg : W6.cell? ⟨x.gn, i * 4 + 3, none⟩ = some (.int .i64 (s3.gone i : Nat)) := (hMW6.n3 i hin).1
          have fg : W6.frozen? ⟨x.gn, i * 4 + 3, none⟩ = false := (hMW6.n3 i hin).2
          have lq : x.q < W6.heap.size := hMW6.c0.lt
          have lgn : x.gn < W6.heap.size := hMW6.ltn
          have hcu : W6.cell? ⟨b0, o0 + i, none⟩ = some (.slice (some ⟨gr, or_, none⟩) (outs G i).length uc) := by rw [hW6]; exact hcu
          have lb0 := lt_of_cell hcu
          simp only at lb0
          have hck : W6.cell? ⟨gr, or_ + s3.gone i, none⟩ = some (.int .i64 (k : Nat)) := by rw [hW6]; exact hck
          have lgr := lt_of_cell hck
          simp only at lgr
          clear hMW6 hW6
          have HMG : Hid (Mem w0 (W6.setCell ⟨x.gn, i * 4 + 3, none⟩ (.int .i64 ((s3.gone i : Int) + 1))) { x with vw := vw3, vt := vt3, ve := ve3, gs := gs3 } (.slice (some ⟨b0, o0, none⟩) G.length cG) G.length (s3.go i) s3.wf) := Lib.hid (HMW6.out.goneTo i (s3.gone i + 1))
          have ck : (W6.setCell ⟨x.gn, i * 4 + 3, none⟩ (.int .i64 ((s3.gone i : Int) + 1))).cell? ⟨x.gn, k * 4, none⟩ = some (.int .i64 (s3.num k : Nat)) := (HMG.out.n0 k hkn).1
          have ck2 : (W6.setCell ⟨x.gn, i * 4 + 3, none⟩ (.int .i64 ((s3.gone i : Int) + 1))).cell? ⟨x.gn, k * 4 + 2, none⟩ = some (.bool (s3.wf k)) := (HMG.out.n2 k hkn).1
          have c1' : (W6.setCell ⟨x.gn, i * 4 + 3, none⟩ (.int .i64 ((s3.gone i : Int) + 1))).cell? ⟨x.q, 1, none⟩ = some (.slice (some ⟨x.gn, 0, none⟩) G.length G.length) := HMG.out.c1.1
          have HSS := Lib.hid (St.step_some HW3.out HKE.out)
          by_cases hz : s3.num k = 0
          · have HZZ := Lib.hid hz
            have hz0 : ((s3.num k : Nat) : Int) = 0 := by omega
            clear hz
            go_wp2_with fail
            have HMC := Lib.hid (meetStep_c (s := s3.go i) HMG.out hb HD3.out.metLe HD3.out.wayLen HD3.out.waitLen hkn)
            have HSE : Hid (s1.run G (m3 + 1) = (s3.go i).meet k) := Lib.hid (by rw [HST.out, HSS.out, if_pos HZZ.out])
            clear HMG HSS ck ck2 c1' hz0
            refine HMC.out.mono ?_
            rintro e w4 ⟨rfl, vw4, vt4, ve4, gs4, hM4⟩
            have HM4 := Lib.hid hM4
            clear hM4 HMC
            go_wp2_with fail
            go_roundg ((s1.run G (m3 + 1)).left G)
            case measure =>
              have h1 := HLT.out
              have h2 := HLK.out
              have h3 := HLS3.out
              rw [HST.out]; omega
            case rel => exact ⟨m3 + 1, _, _, _, _, Nat.le_refl _, by rw [HSE.out]; exact HM4.out⟩
          · have HZZ := Lib.hid hz
            have hz0 : ¬ ((s3.num k : Nat) : Int) = 0 := by omega
            have hz1 : (((s3.num k : Nat) : Int) == 0) = false := by simpa using hz
            clear hz
            by_cases hm : k ∈ s3.wait
            · have hwt : s3.wf k = true := by unfold St.wf; simpa using hm
              have HMW := Lib.hid hm
              rw [hwt] at ck2
              clear hwt hm
              go_wp2_with fail
              have HSE : Hid (s1.run G (m3 + 1) = (s3.go i).lower i (s3.num k)) := Lib.hid (by rw [HST.out, HSS.out, if_neg HZZ.out, if_pos HMW.out])
              refine gen_w fun W7 hW7 => ?_
              have HM7 : Hid (Mem w0 W7 { x with vw := vw3, vt := vt3, ve := ve3, gs := gs3 } (.slice (some ⟨b0, o0, none⟩) G.length cG) G.length (s3.go i) s3.wf) := Lib.hid (by rw [hW7]; exact HMG.out)
              have hl7 : W7.cell? ⟨x.gn, i * 4 + 1, none⟩ = some (.int .i64 (s3.low i : Nat)) := (HM7.out.n1 i hin).1
              have hk7 : W7.cell? ⟨x.gn, k * 4, none⟩ = some (.int .i64 (s3.num k : Nat)) := (HM7.out.n0 k hkn).1
              have e1 := FrW.cell hl7
              have e2 := FrW.cell hk7
              have lgn : x.gn < W7.heap.size := HM7.out.ltn
              have t1 : ∀ z : FrW W7, x.gn < z.val.heap.size := fun z => Nat.lt_of_lt_of_le lgn z.fr.size
              have hmin : min ((s3.low i : Nat) : Int) ((s3.num k : Nat) : Int) = ((min (s3.low i) (s3.num k) : Nat) : Int) := by omega
              clear hW7 HMG ck ck2 c1' c0 c1 cg fg hcu hck lq lb0 lgr hz0 hz1 HSS
              refine wp_region_frt 15 (by kernel_rfl) (by kernel_rfl) ?_
              simp only [List.take_succ_cons, List.take_zero]
              repeat (go_big_quiet_step (fail))
              refine wpQuiet_nil ?_
              rintro w8 ⟨⟨_, hf8⟩, rfl⟩
              simp only [List.drop_succ_cons, List.drop_zero]
              have hif : (if s3.num k < s3.low i then ((s3.num k : Nat) : Int) else ((s3.low i : Nat) : Int)) = ((min (s3.low i) (s3.num k) : Nat) : Int) := by split <;> omega
              try rw [hif]
              clear hif hmin
              have HM8 := Lib.hid (HM7.out.fr hf8)
              have HE : Hid (Mem w0 (w8.setCell ⟨x.gn, i * 4 + 1, none⟩ (.int .i64 ((min (s3.low i) (s3.num k) : Nat) : Int))) { x with vw := vw3, vt := vt3, ve := ve3, gs := gs3 } (.slice (some ⟨b0, o0, none⟩) G.length cG) G.length ((s3.go i).lower i (s3.num k)) s3.wf) := Lib.hid (HM8.out.lowTo i (min (s3.low i) (s3.num k)))
              have hl8 : w8.cell? ⟨x.gn, i * 4 + 1, none⟩ = some (.int .i64 (s3.low i : Nat)) := (HM8.out.n1 i hin).1
              have fl8 : w8.frozen? ⟨x.gn, i * 4 + 1, none⟩ = false := (HM8.out.n1 i hin).2
              have lg8 : x.gn < w8.heap.size := HM8.out.ltn
              clear e1 e2 t1 hl7 hk7 lgn hf8 HM7 HM8
              go_wp2_with fail
              go_roundg ((s1.run G (m3 + 1)).left G)
              case measure =>
                have h1 := HLT.out
                have h2 := HLK3.out
                rw [HST.out]; omega
              case rel =>
                refine ⟨m3 + 1, _, _, _, _, Nat.le_refl _, ?_, ?_, by rw [HSE.out]; exact HE.out⟩
                · have h1 := HLT.out
                  have h3 := HLS3.out
                  rw [HST.out]; omega
                · rw [HSE.out]; exact HW3.out
            · have hwt : s3.wf k = false := by unfold St.wf; simpa using hm
              have HMW := Lib.hid hm
              have HSE : Hid (s1.run G (m3 + 1) = s3.go i) := Lib.hid (by rw [HST.out, HSS.out, if_neg HZZ.out, if_neg HMW.out])
              rw [hwt] at ck2
              clear hwt hm
              go_wp2_with fail
              go_roundg ((s1.run G (m3 + 1)).left G)
              case measure =>
                have h1 := HLT.out
                have h2 := HLK3.out
                rw [HST.out]; omega
              case rel =>
                refine ⟨m3 + 1, _, _, _, _, Nat.le_refl _, ?_, ?_, by rw [HSE.out]; exact HMG.out⟩
                · have h1 := HLT.out
                  have h3 := HLS3.out
                  rw [HST.out]; omega
                · rw [HSE.out]; exact HW3.out
end Go.Proofs.Ytadognaafgndnaa

/- Layer 28: scc.may: its walk. No condition but that the graph can be read. -/
namespace Go.Proofs.Ytadognaafgndnaa
open Go.RowKit
attribute [local go_sem] Oper.semAt_some

set_option maxRecDepth 100000 in
theorem badFn_c {w : World} {b n c : Nat} {a : Option Addr} (k : Int) (h : w.cell? ⟨b, 0, none⟩ = some (.slice a n c)) :
    Calls Try.prog 39 #[.int .i64 k, Pt b] w fun e w' => e = .returned (.bool (badZ n k)) ∧ Fr w w' := by
  unfold badZ
  have lb := lt_of_cell h
  simp only at lb
  by_cases hk : k < 0
  · have hd : decide (k < 0) = true := by simpa using hk
    rw [hd, Bool.true_or]
    go_enter Try.func39, Try.ntmps39
    go_wp2_with fail
    go_ret
    exact ⟨rfl, by first | exact Fr.refl _ | exact (Fr.refl _).drewN _⟩
  · have hd : decide (k < 0) = false := by simpa using hk
    rw [hd, Bool.false_or]
    go_enter Try.func39, Try.ntmps39
    go_wp2_with fail
    go_ret
    exact ⟨by simp, by first | exact Fr.refl _ | exact (Fr.refl _).drewN _⟩
def IsFn (q : Nat) : Prop := ∀ (args : Array Value) (W : World), (callFunc q args).run Try.prog W = .ok (.enter q args) W
theorem isFn {f : FuncId} {fn : Func} {c : Code} (hf : Try.prog.funcs[f]? = some fn) (hname : (fn.name == "runtime.NumGoroutine") = false) (hb : fn.body = some c) : IsFn f := by
  intro args W
  have h1 : fn.name ≠ "runtime.NumGoroutine" := by simpa using hname
  simp [callFunc, hf, h1, hb]
set_option maxRecDepth 100000 in
set_option maxHeartbeats 2000000 in
theorem idxBad_c {w : World} {b n c : Nat} {a : Option Addr} {v : Value} {l : List Int} (h : w.cell? ⟨b, 0, none⟩ = some (.slice a n c)) (hv : RdZ w v l) :
    Calls Try.prog 52 #[v, .func (.func 39) #[] #[Pt b]] w fun e w' => ∃ r : Int, e = .returned (.int .i64 r) ∧ decide (r ≥ 0) = l.any (badZ n) ∧ Fr w w' := by
  obtain ⟨va, vc, rfl, hvc, hmx, hx⟩ := hv
  have HX := Lib.hid hx
  have HC := Lib.hid (fun W (f : Fr w W) k => badFn_c k (f.keep h))
  clear hx
  go_enter Try.func52, Try.ntmps52
  go_wp2_with fail
  go_loopw [8] (fun vi wr => ∃ i : Nat, i ≤ l.length ∧ vi = .int .i64 i ∧ Hid (Fr w wr ∧ (l.take i).any (badZ n) = false)) (fun vi _ => l.length - (intOf vi).toNat)
  case atStart => exact ⟨0, Nat.zero_le _, rfl, ⟨Fr.refl _, by simp⟩⟩
  case round =>
    obtain ⟨i, hi, rfl, HR⟩ := hrel
    by_cases hit : i < l.length
    · obtain ⟨g, o, rfl, hc⟩ := HX.out i hit
      have hc := HR.out.1.keep hc
      have lg := lt_of_cell hc
      simp only at lg
      have HB := Lib.hid (HC.out _ HR.out.1 l[i])
      have HT : Hid ((l.take (i + 1)).any (badZ n) = ((l.take i).any (badZ n) || badZ n l[i])) := Lib.hid (by rw [List.take_succ_eq_append_getElem hit, List.any_append]; simp)
      have HA : Hid (badZ n l[i] = true → l.any (badZ n) = true) := Lib.hid (fun h => List.any_eq_true.2 ⟨_, List.getElem_mem hit, h⟩)
      generalize l[i] = z at hc HB HT HA
      have hfn : IsFn 39 := isFn Try.func39 rfl rfl
      unfold IsFn at hfn
      cases hz : badZ n z
      · rw [hz] at HB HT
        clear HA hz
        go_wp2_with fail
        refine HB.out.mono ?_
        rintro e w2 ⟨rfl, hf2⟩
        have HR2 : Hid (Fr w w2 ∧ (l.take (i + 1)).any (badZ n) = false) := Lib.hid ⟨HR.out.1.trans hf2, by rw [HT.out, HR.out.2]; rfl⟩
        clear HB HT HR hc lg hf2 hfn
        go_wp2_with fail
        go_roundw
        case rel => exact ⟨i + 1, by omega, by go_num, HR2⟩
        case measure => first | (simp [intOf]; done) | (simp [intOf]; omega)
      · have HY := Lib.hid (HA.out hz)
        rw [hz] at HB
        clear HA hz HT
        go_wp2_with fail
        refine HB.out.mono ?_
        rintro e w2 ⟨rfl, hf2⟩
        have HR2 := Lib.hid (HR.out.1.trans hf2)
        clear HB HR hc lg hf2 hfn
        go_wp2_with fail
        go_ret
        exact ⟨_, rfl, by rw [HY.out]; simp, HR2.out⟩
    · obtain rfl : i = l.length := by omega
      have HR2 := HR.out
      rw [List.take_length] at HR2
      have HR3 := Lib.hid HR2
      clear HR2 HR
      go_wp2_with fail
      go_ret
      exact ⟨_, rfl, by rw [HR3.out.2]; simp, HR3.out.1⟩
set_option maxRecDepth 100000 in
theorem containsBad_c {w : World} {b n c : Nat} {a : Option Addr} {v : Value} {l : List Int} (h : w.cell? ⟨b, 0, none⟩ = some (.slice a n c)) (hv : RdZ w v l) :
    Calls Try.prog 38 #[v, .func (.func 39) #[] #[Pt b]] w fun e w' => e = .returned (.bool (l.any (badZ n))) ∧ Fr w w' := by
  have HC := Lib.hid (idxBad_c h hv)
  clear h hv
  go_enter Try.func38, Try.ntmps38
  go_wp2_with fail
  refine HC.out.mono ?_
  rintro e w2 ⟨r, rfl, hr, hf⟩
  have HR := Lib.hid hr
  clear hr HC
  go_wp2_with fail
  go_ret
  exact ⟨by rw [← HR.out]; rfl, hf⟩
set_option maxRecDepth 100000 in
set_option maxHeartbeats 2000000 in
theorem mayG_c {w : World} {v : Value} {G : List (List Int)} (hv : RdGZ w v G) :
    Calls Try.prog 32 #[v] w fun e w' => e = .returned (.bool (mayZ G)) ∧ Fr w w' := by
  obtain ⟨va, vc, rfl, hvc, hmx, hx⟩ := hv
  have HX := Lib.hid hx
  clear hx
  have HB : Hid (BoxAt (w.alloc (.cells #[.slice va G.length vc] 22)) w.heap.size #[.slice va G.length vc] 22) := Lib.hid (BoxAt.new' _ _ _ _ (by simp))
  have hb0 := HB.out.at 0 rfl
  have lb0 := HB.out.lt
  go_enter Try.func32, Try.ntmps32
  go_wp2_with fail
  clear hb0 lb0
  go_loopw [7] (fun vi wr => ∃ i : Nat, i ≤ G.length ∧ vi = .int .i64 i ∧ Hid (Fr (w.alloc (.cells #[.slice va G.length vc] 22)) wr ∧ (G.take i).all (fun l => !(l.any (badZ G.length))) = true)) (fun vi _ => G.length - (intOf vi).toNat)
  case atStart => exact ⟨0, Nat.zero_le _, rfl, ⟨Fr.refl _, by simp⟩⟩
  case round =>
    obtain ⟨i, hi, rfl, HR⟩ := hrel
    have HF := Lib.hid (((Fr.refl w).alloc (.cells #[.slice va G.length vc] 22)).trans HR.out.1)
    by_cases hit : i < G.length
    · obtain ⟨g, o, u, rfl, hc, hru⟩ := HX.out i hit
      have hc := HF.out.keep hc
      have lg := lt_of_cell hc
      simp only at lg
      have HC := Lib.hid (containsBad_c (HR.out.1.keep (HB.out.at 0 rfl)) (hru.fr HF.out))
      have HT : Hid ((G.take (i + 1)).all (fun l => !(l.any (badZ G.length))) = ((G.take i).all (fun l => !(l.any (badZ G.length))) && !(G[i].any (badZ G.length)))) := Lib.hid (by rw [List.take_succ_eq_append_getElem hit, List.all_append]; simp)
      have HA : Hid (G[i].any (badZ G.length) = true → mayZ G = false) := Lib.hid (fun h => by
        cases h2 : mayZ G
        · rfl
        · have := List.all_eq_true.1 h2 G[i] (List.getElem_mem hit)
          rw [h] at this; cases this)
      clear hru
      generalize G[i].any (badZ G.length) = z at HC HT HA
      cases z
      · clear HA
        go_wp2_with fail
        refine HC.out.mono ?_
        rintro e w2 ⟨rfl, hf2⟩
        have HR2 : Hid (Fr (w.alloc (.cells #[.slice (some ⟨g, o, none⟩) G.length vc] 22)) w2 ∧ (G.take (i + 1)).all (fun l => !(l.any (badZ G.length))) = true) := Lib.hid ⟨HR.out.1.trans hf2, by rw [HT.out, HR.out.2]; rfl⟩
        clear HC HT HR hc lg hf2 HF
        go_wp2_with fail
        go_roundw
        case rel => exact ⟨i + 1, by omega, by go_num, HR2⟩
        case measure => first | (simp [intOf]; done) | (simp [intOf]; omega)
      · have HY := Lib.hid (HA.out rfl)
        clear HA HT
        go_wp2_with fail
        refine HC.out.mono ?_
        rintro e w2 ⟨rfl, hf2⟩
        have HR2 := Lib.hid (HF.out.trans hf2)
        clear HC HR hc lg hf2 HF
        go_wp2_with fail
        go_ret
        exact ⟨by rw [HY.out]; rfl, HR2.out⟩
    · obtain rfl : i = G.length := by omega
      have HR2 := HR.out.2
      rw [List.take_length] at HR2
      have HR3 := Lib.hid HR2
      clear HR2 HR
      go_wp2_with fail
      go_ret
      exact ⟨by unfold mayZ; rw [HR3.out]; rfl, HF.out⟩
end Go.Proofs.Ytadognaafgndnaa

/- Layer 28: scc.groups: its walk. No condition but the graph's bound. -/
namespace Go.Proofs.Ytadognaafgndnaa
open Go.RowKit
attribute [local go_sem] Oper.semAt_some

def zNode : Value := .agg #[.agg #[.int .i64 0, .int .i64 0, .bool false], .int .i64 0]
theorem Try.infoNodeM : (Try.prog.info? 59).map (fun i => (i.zero.map Value.cells, i.size, i.bytes)) = some (some #[.int .i64 0, .int .i64 0, .bool false, .int .i64 0], 4, 32) := by kernel_rfl
def nodeCells (n : Nat) : Array Value := madeCells #[.int .i64 0, .int .i64 0, .bool false, .int .i64 0] (n * 4)
theorem mk_nodes (n : Nat) (hn : n ≤ 5864062014634) (W : World) : (Instr.makeSlice 53 (.int .i64 (n : Int)) (.int .i64 (n : Int))).run Try.prog W = .ok (.slice (some ⟨W.heap.size, 0, none⟩) n n) (W.alloc (.cells (nodeCells n) 59)) := by
  obtain ⟨i0, hi0, hx⟩ := Option.map_eq_some_iff.1 Try.infoNodeM
  simp only [Prod.mk.injEq] at hx
  obtain ⟨hz, h1, h2⟩ := hx
  obtain ⟨z, hz0, hz1⟩ := Option.map_eq_some_iff.1 hz
  have hr := run_make (P := Try.prog) W 53 59 i0 z Try.underlying53 hi0 hz0 .i64 .i64 n n (by omega) (Int.le_refl _) (by rw [h2]; omega) (by omega)
  simp only [Int.toNat_natCast, h1, hz1] at hr
  exact hr
theorem nodeCells_at {n i : Nat} (hi : i < n) : (nodeCells n)[i * 4]? = some (.int .i64 0) ∧ (nodeCells n)[i * 4 + 1]? = some (.int .i64 0) ∧ (nodeCells n)[i * 4 + 2]? = some (.bool false) ∧ (nodeCells n)[i * 4 + 3]? = some (.int .i64 0) := by
  have h : ∀ j, j < n * 4 → (nodeCells n)[j]? = some (#[Value.int .i64 0, .int .i64 0, .bool false, .int .i64 0][j % 4]!) := fun j hj => by
    unfold nodeCells madeCells
    simp [hj]
  refine ⟨?_, ?_, ?_, ?_⟩
  · rw [h _ (by omega)]; have : i * 4 % 4 = 0 := by omega
    rw [this]; rfl
  · rw [h _ (by omega)]; have : (i * 4 + 1) % 4 = 1 := by omega
    rw [this]; rfl
  · rw [h _ (by omega)]; have : (i * 4 + 2) % 4 = 2 := by omega
    rw [this]; rfl
  · rw [h _ (by omega)]; have : (i * 4 + 3) % 4 = 3 := by omega
    rw [this]; rfl
/-- The search's beginning, in memory. -/
theorem Mem.start (w : World) (vG : Value) (n : Nat) :
    Mem w ((w.alloc (.cells (nodeCells n) 59)).alloc (.cells #[vG, .slice (some ⟨w.heap.size, 0, none⟩) n n, .slice none 0 0, .slice none 0 0, .slice none 0 0, .int .i64 0] 55))
      { q := w.heap.size + 1, gn := w.heap.size, vw := .slice none 0 0, vt := .slice none 0 0, ve := .slice none 0 0, gs := [] } vG n St.zero St.zero.wf := by
  have hN : BoxAt (w.alloc (.cells (nodeCells n) 59)) w.heap.size (nodeCells n) 59 := BoxAt.new' _ _ _ _ rfl
  have hN2 := hN.alloc (.cells #[vG, .slice (some ⟨w.heap.size, 0, none⟩) n n, .slice none 0 0, .slice none 0 0, .slice none 0 0, .int .i64 0] 55)
  have hS : BoxAt ((w.alloc (.cells (nodeCells n) 59)).alloc (.cells #[vG, .slice (some ⟨w.heap.size, 0, none⟩) n n, .slice none 0 0, .slice none 0 0, .slice none 0 0, .int .i64 0] 55)) (w.heap.size + 1) #[vG, .slice (some ⟨w.heap.size, 0, none⟩) n n, .slice none 0 0, .slice none 0 0, .slice none 0 0, .int .i64 0] 55 := BoxAt.new' _ _ _ _ (by simp)
  refine ⟨((Fr.refl w).alloc _).alloc _, hS.cel 0 rfl, hS.cel 1 rfl, hS.cel 2 rfl, hS.cel 3 rfl, hS.cel 4 rfl, hS.cel 5 rfl,
    fun i hi => hN2.cel _ (nodeCells_at hi).1, fun i hi => hN2.cel _ (nodeCells_at hi).2.1, fun i hi => ?_, fun i hi => hN2.cel _ (nodeCells_at hi).2.2.2,
    World.ownsRow_nil _ _ _ _, World.ownsRow_nil _ _ _ _, World.ownsRow_nil _ _ _ _, rfl, fun j h => absurd h (Nat.not_lt_zero j), ?_, Nat.le_succ _, Nat.le_refl _, hN2.lt⟩
  · have h1 : St.zero.wf i = false := by unfold St.wf St.zero; simp
    rw [h1]; exact hN2.cel _ (nodeCells_at hi).2.2.1
  · intro i j g hi hj
    match i, j, hi, hj with
    | 0, 0, _, _ => rfl
    | 1, 1, _, _ => rfl
    | 0, 1, hi, hj =>
      have e1 : w.heap.size + 1 = g := Option.some.inj hi
      have e2 : w.heap.size = g := Option.some.inj hj
      omega
    | 1, 0, hi, hj =>
      have e1 : w.heap.size = g := Option.some.inj hi
      have e2 : w.heap.size + 1 = g := Option.some.inj hj
      omega
    | 2, _, hi, _ => cases hi
    | 3, _, hi, _ => cases hi
    | 4, _, hi, _ => cases hi
    | i + 5, _, hi, _ => cases hi
    | _, 2, _, hj => cases hj
    | _, 3, _, hj => cases hj
    | _, 4, _, hj => cases hj
    | _, j + 5, _, hj => cases hj
/-- Groups of a call's own, in memory. -/
def grpOb (ve : Value) (gs : List Value) : Nat → Option Nat
  | 0 => ve.ownBlock
  | j + 1 => (gs[j]?).bind Value.ownBlock
structure GrpAt (w0 w : World) (ve : Value) (gs : List Value) (L : List (List Nat)) : Prop where
  frm : Fr w0 w
  row : w.ownsRow w0.heap.size 25 1 ve L.length gs
  glen : gs.length = L.length
  grp : ∀ j (h : j < gs.length) (h' : j < L.length), w.ownsRow w0.heap.size 3 1 gs[j] L[j].length (L[j].map intV)
  inj : ∀ i j g, grpOb ve gs i = some g → grpOb ve gs j = some g → i = j
theorem Mem.groups {w0 w : World} {x : MB} {vG : Value} {n : Nat} {s : St} {wf : Nat → Bool} (H : Mem w0 w x vG n s wf) : GrpAt w0 w x.ve x.gs s.ended := by
  have ho : ∀ i, grpOb x.ve x.gs i = x.ob (i + 4) := fun i => by cases i <;> rfl
  refine ⟨H.frm, H.ended, H.glen, H.grp, fun i j g hi hj => ?_⟩
  rw [ho] at hi hj
  have := H.inj _ _ g hi hj
  omega
set_option maxRecDepth 100000 in
set_option maxHeartbeats 4000000 in
theorem groups_c {w : World} {v : Value} {G : List (List Int)} (hv : RdGZ w v G) (hb : G.length ≤ 5864062014634) (hm : mayZ G = true) :
    Calls Try.prog 24 #[v] w fun e w' => ∃ ve gs, e = .returned (.tuple #[ve, .int .i64 0]) ∧ GrpAt w w' ve gs (groupsOf (natG G)) := by
  have HM := Lib.hid (mayG_c hv)
  rw [hm] at HM
  have HGR := Lib.hid (hv.nat hm)
  have hG := natG_may hm
  have hnl := natG_length G
  obtain ⟨va, vc, rfl, hvc, hmx, _⟩ := hv
  rw [← hnl] at hb hvc HM HGR ⊢
  have HG := Lib.hid hG
  generalize natG G = N at hb hvc HM HGR HG ⊢
  clear hnl hG hm
  have hmk := mk_nodes N.length hb
  go_enter Try.func24, Try.ntmps24
  go_wp2_with fail
  refine HM.out.mono ?_
  rintro e w1 ⟨rfl, hf1⟩
  have HR1 := Lib.hid (HGR.out.fr hf1)
  have HF1 := Lib.hid hf1
  have HS := Lib.hid (Mem.start w1 (.slice va N.length vc) N.length)
  clear HM HGR hf1
  go_wp2_with fail
  refine gen_w fun W2 hW2 => ?_
  have HM0 : Hid (Mem w1 W2 { q := w1.heap.size + 1, gn := w1.heap.size, vw := .slice none 0 0, vt := .slice none 0 0, ve := .slice none 0 0, gs := [] } (.slice va N.length vc) N.length St.zero St.zero.wf) := Lib.hid (by rw [hW2]; exact HS.out)
  clear hW2 HS hmk
  go_wp2_with fail
  go_loopw [17] (fun vi wr => ∃ i : Nat, i ≤ N.length ∧ vi = .int .i64 i ∧ Hid (∃ vw vt ve gs, Mem w1 wr { q := w1.heap.size + 1, gn := w1.heap.size, vw := vw, vt := vt, ve := ve, gs := gs } (.slice va N.length vc) N.length (searchTo N i) (searchTo N i).wf)) (fun vi _ => N.length - (intOf vi).toNat)
  case atStart => exact ⟨0, Nat.zero_le _, rfl, _, _, _, _, HM0.out⟩
  case round =>
    obtain ⟨i, hi, rfl, HX⟩ := hrel
    obtain ⟨vw, vt, ve, gs, hM⟩ := HX.out
    have HMM := Lib.hid hM
    by_cases hit : i < N.length
    · have hV := visitedTo HG.out i hi
      have HSC := Lib.hid (searchTo_succ N i)
      have c1 : wr.cell? ⟨w1.heap.size + 1, 1, none⟩ = some (.slice (some ⟨w1.heap.size, 0, none⟩) N.length N.length) := hM.c1.1
      have cn : wr.cell? ⟨w1.heap.size, i * 4, none⟩ = some (.int .i64 ((searchTo N i).num i : Nat)) := (hM.n0 i hit).1
      have lq : w1.heap.size + 1 < wr.heap.size := hM.c1.lt
      have lgn : w1.heap.size < wr.heap.size := hM.ltn
      by_cases hz : (searchTo N i).num i = 0
      · have HFR := Lib.hid (from_c HMM.out hV.good HG.out HR1.out hb hV.way hit hz)
        have HEND := Lib.hid (St.run_ends HG.out _ (hV.good.meetRoot hit hV.way hz) (Nat.le_refl _))
        have HVI : Hid (searchTo N (i + 1) = ((searchTo N i).meet i).run N (((searchTo N i).meet i).left N)) := Lib.hid (by rw [HSC.out]; unfold St.visit; rw [if_pos hz])
        have hz0 : (((searchTo N i).num i : Nat) : Int) = 0 := by omega
        clear hM hV HSC hz
        go_wp2_with fail
        refine HFR.out.mono ?_
        rintro e w4 ⟨m, hwy, rfl, vw4, vt4, ve4, gs4, hM4⟩
        have HM4 : Hid (Mem w1 w4 { q := w1.heap.size + 1, gn := w1.heap.size, vw := vw4, vt := vt4, ve := ve4, gs := gs4 } (.slice va N.length vc) N.length (searchTo N (i + 1)) (searchTo N (i + 1)).wf) := Lib.hid (by
          rw [HVI.out, ← run_unique hwy HEND.out]; exact hM4)
        clear hM4 hwy HFR c1 cn lq lgn hz0
        go_wp2_with fail
        go_roundw
        case rel => exact ⟨i + 1, by omega, by go_num, _, _, _, _, HM4.out⟩
        case measure => first | (simp [intOf]; done) | (simp [intOf]; omega)
      · have HVI : Hid (searchTo N (i + 1) = searchTo N i) := Lib.hid (by rw [HSC.out]; unfold St.visit; rw [if_neg hz])
        have hz0 : ¬ (((searchTo N i).num i : Nat) : Int) = 0 := by omega
        have hz1 : ((((searchTo N i).num i : Nat) : Int) == 0) = false := by simpa using hz
        clear hM hV HSC hz
        go_wp2_with fail
        go_roundw
        case rel => exact ⟨i + 1, by omega, by go_num, _, _, _, _, by rw [HVI.out]; exact HMM.out⟩
        case measure => first | (simp [intOf]; done) | (simp [intOf]; omega)
    · obtain rfl : i = N.length := by omega
      have c4 : wr.cell? ⟨w1.heap.size + 1, 4, none⟩ = some ve := hM.c4.1
      have lq : w1.heap.size + 1 < wr.heap.size := hM.c1.lt
      have HGA := Lib.hid hM.groups
      clear hM
      go_wp2_with fail
      go_ret2
      refine ⟨ve, rfl, gs, ?_⟩
      have h := HGA.out
      exact ⟨HF1.out.trans h.frm, ownsRow_base h.row HF1.out.size, h.glen, fun j a b => ownsRow_base (h.grp j a b) HF1.out.size, h.inj⟩
set_option maxRecDepth 100000 in
theorem groupsNo_c {w : World} {v : Value} {G : List (List Int)} (hv : RdGZ w v G) (hm : mayZ G = false) :
    Calls Try.prog 24 #[v] w fun e w' => e = .returned (.tuple #[.slice none 0 0, .int .i64 2]) ∧ Fr w w' := by
  have HM := Lib.hid (mayG_c hv)
  rw [hm] at HM
  clear hv hm
  go_enter Try.func24, Try.ntmps24
  go_wp2_with fail
  refine HM.out.mono ?_
  rintro e w1 ⟨rfl, hf1⟩
  clear HM
  go_wp2_with fail
  go_ret2
  exact ⟨rfl, hf1⟩
end Go.Proofs.Ytadognaafgndnaa

/- Layer 28: slices.SortFunc of the components: its contract in own words. No condition but bounds. -/
namespace Go.Proofs.Ytadognaafgndnaa
open Go.RowKit Go.Sort Go.Shelf
attribute [local go_sem] Oper.semAt_some

/-- A group that stands in memory, in another block than the row's. -/
def HeadAt (w : World) (blk : Nat) (p : Value × List Nat) : Prop := ∃ g c, p.1 = .slice (some ⟨g, 0, none⟩) p.2.length c ∧ p.2.length ≤ c ∧ p.2 ≠ [] ∧ g ≠ blk ∧ g < w.heap.size ∧ headN p.2 ≤ 5864062014634 ∧ ∀ j (h : j < p.2.length), w.cell? ⟨g, j, none⟩ = some (intV p.2[j])
def Grp (w : World) (blk : Nat) := { p : Value × List Nat // HeadAt w blk p }
def Grp.enc {w : World} {blk : Nat} (x : Grp w blk) : Value := x.1.1
def Grp.cmp {w : World} {blk : Nat} (x y : Grp w blk) : Int := (headN x.1.2 : Int) - (headN y.1.2 : Int)
theorem grp_one {w : World} {blk : Nat} : OneCell (Grp.enc (w := w) (blk := blk)) := fun x => by
  obtain ⟨p, g, c, h, _⟩ := x
  show p.1.oneCell' = true
  rw [h]; rfl
theorem grp_swo {w : World} {blk : Nat} : SWO (ltOf (Grp.cmp (w := w) (blk := blk))) := by
  have e : ∀ x y : Grp w blk, ltOf Grp.cmp x y = decide (headN x.1.2 < headN y.1.2) := fun x y => by
    unfold ltOf Grp.cmp
    rw [decide_eq_decide]; omega
  refine ⟨fun x => ?_, fun x y z h1 h2 => ?_, fun x y z h1 h2 => ?_⟩
  · rw [e]; simp
  · rw [e] at *; simp at *; omega
  · rw [e] at *; simp at *; omega
set_option maxRecDepth 100000 in
theorem cmpFn_c {w W : World} {blk : Nat} (x y : Grp w blk) (hk : ∀ g o, g ≠ blk → g < w.heap.size → W.cell? ⟨g, o, none⟩ = w.cell? ⟨g, o, none⟩) (hs : w.heap.size ≤ W.heap.size) :
    Calls Try.prog 30 #[x.enc, y.enc] W fun e w' => e = .returned (.int .i64 (x.cmp y)) ∧ ∃ q, w' = W.drewN q := by
  obtain ⟨⟨u, l⟩, g, c, h1, _, h2, h3, h4, h5, h6⟩ := x
  obtain ⟨⟨v, m⟩, g', c', h1', _, h2', h3', h4', h5', h6'⟩ := y
  simp only at h1 h2 h3 h4 h5 h6 h1' h2' h3' h4' h5' h6'
  subst h1 h1'
  have hl : 0 < l.length := List.length_pos_iff.2 h2
  have hl' : 0 < m.length := List.length_pos_iff.2 h2'
  unfold Grp.enc Grp.cmp
  simp only
  have hh : ∀ {l : List Nat} (h : 0 < l.length), l[0] = headN l := fun {l} h => by cases l with
    | nil => simp at h
    | cons a l => rfl
  have k1 : W.cell? ⟨g, 0, none⟩ = some (.int .i64 (headN l : Nat)) := by rw [hk g 0 h3 h4, h6 0 hl, hh hl]; rfl
  have k2 : W.cell? ⟨g', 0, none⟩ = some (.int .i64 (headN m : Nat)) := by rw [hk g' 0 h3' h4', h6' 0 hl', hh hl']; rfl
  have l1 : g < W.heap.size := by omega
  have l2 : g' < W.heap.size := by omega
  generalize headN l = a at h5 k1 ⊢
  generalize headN m = b at h5' k2 ⊢
  clear hh
  clear h2 h2' h3 h3' h4 h4' h6 h6' hk hs
  go_enter Try.func30, Try.ntmps30
  go_wp2_with fail
  go_quiet (fail)
  go_wp2_with fail
  go_ret
  exact ⟨rfl, _, rfl⟩
theorem chg_sortWorld {α : Type} [Inhabited α] (enc : α → Value) (w : World) (g n : Nat) (d : Array α) (os : Array Obj) : Chg (fun b => b = g) w (sortWorld enc w g 0 n d os) := by
  refine ⟨rfl, rfl, rfl, by unfold sortWorld; simp, fun k hk hne => ?_⟩
  unfold sortWorld
  rw [heap_grow_old _ _ (by simpa using hk)]
  have : g ≠ k := fun e => hne e.symm
  simp [putRow, mapBlock, Sort.ahead, Array.getElem?_modify, this]
set_option maxHeartbeats 2000000 in
/-- The components sorted by their least nodes. -/
theorem sorts_c {w0 w : World} {ve : Value} {gs : List Value} {L : List (List Nat)} (H : GrpAt w0 w ve gs L) (hne : ∀ g ∈ L, g ≠ []) (hd : L.flatten.Nodup) (hb : ∀ g ∈ L, ∀ a ∈ g, a ≤ 5864062014634) (hl : L.length ≤ 5864062014634) (hgl : ∀ g ∈ L, g.length ≤ 5864062014634) (h0 : L ≠ []) :
    Calls Try.prog 29 #[ve, .func (.func 30) #[] #[]] w fun e w' => e = .returned (.tuple #[]) ∧ RdGr w' ve (sortG L) ∧ Fr w0 w' := by
  have hlen : 0 < L.length := List.length_pos_iff.2 h0
  rcases H.row.2 with h1 | ⟨blk, cap, cur, rfl, hbase, hbk, hn, hcap, hsz, htk⟩
  · omega
  have hlt : blk < w.heap.size := (World.ownsRow.lt H.row blk rfl).2
  have hHead : ∀ j (h : j < L.length), HeadAt w blk (gs[j]'(by rw [H.glen]; exact h), L[j]) := fun j h => by
    have hj : j < gs.length := by rw [H.glen]; exact h
    have ho := H.grp j hj h
    obtain ⟨a, c, hv, hlc, hx⟩ := ints_form ho
    have hnj := hne L[j] (List.getElem_mem h)
    obtain ⟨g, rfl, _⟩ := hx 0 (List.length_pos_iff.2 hnj)
    have hob : (gs[j]).ownBlock = some g := by rw [hv]; rfl
    have hlg := (World.ownsRow.lt ho g hob).2
    refine ⟨g, c, hv, hlc, hnj, fun e => ?_, hlg, hb _ (List.getElem_mem h) _ (headN_mem hnj), fun i hi => ?_⟩
    · subst e
      have := H.inj 0 (j + 1) g rfl (by show (gs[j]?).bind Value.ownBlock = some g; rw [List.getElem?_eq_getElem hj]; exact hob)
      omega
    · obtain ⟨g', e, h2⟩ := hx i hi
      cases e; exact h2
  haveI : Inhabited (Grp w blk) := ⟨⟨_, hHead 0 hlen⟩⟩
  obtain ⟨D, hDl, hDj⟩ : ∃ D : List (Grp w blk), D.length = L.length ∧ ∀ j (h : j < D.length) (h1 : j < gs.length) (h2 : j < L.length), (D[j]).1 = (gs[j], L[j]) := by
    refine ⟨List.ofFn (n := L.length) (fun j => (⟨(gs[j.1]'(by rw [H.glen]; exact j.2), L[j.1]), hHead j.1 j.2⟩ : { p : Value × List Nat // HeadAt w blk p })), List.length_ofFn, fun j h h1 h2 => ?_⟩
    have e := List.getElem_ofFn (f := fun j : Fin L.length => (⟨(gs[j.1]'(by rw [H.glen]; exact j.2), L[j.1]), hHead j.1 j.2⟩ : { p : Value × List Nat // HeadAt w blk p })) (i := j) (by rw [List.length_ofFn]; exact h2)
    exact congrArg Subtype.val e
  have hD1 : D.map (fun x => x.1.2) = L := by
    refine List.ext_getElem (by simp [hDl]) fun j h1 h2 => ?_
    rw [List.getElem_map, hDj j (by simpa using h1) (by rw [H.glen]; exact h2) h2]
  have hD2 : D.map Grp.enc = gs := by
    refine List.ext_getElem (by simp [hDl, H.glen]) fun j h1 h2 => ?_
    rw [List.getElem_map]
    show (D[j]'_).1.1 = _
    rw [hDj j (by simpa using h1) h2 (by rw [← H.glen]; exact h2)]
  have hcurL : ∀ j (h : j < D.length), cur[j]? = some (D[j]).enc := fun j h => by
    have e : gs[j]? = some (D[j]).enc := by rw [← hD2, List.getElem?_map, List.getElem?_eq_getElem h]; rfl
    rw [← htk, List.getElem?_take] at e
    split at e
    · rw [← Array.getElem?_toList]; exact e
    · cases e
  have hB : BoxAt w blk cur 25 := hbk
  have hH : Holds Grp.enc w blk 0 D.toArray := fun j hj => by
    have hj' : j < D.length := by simpa using hj
    have e : D.toArray[j]! = D[j] := by rw [getElem!_pos D.toArray j hj]; simp
    rw [e, Nat.zero_add]
    exact ⟨hB.at j (hcurL j hj'), hB.free j⟩
  have hC := Any.slices_SortFunc Try.sortF Grp.enc grp_one Grp.cmp grp_swo 30 #[] blk 0 cap D.toArray w
    (enters_of Try.func30 (by kernel_rfl) rfl)
    (fun m os dk hs x y => (cmpFn_c x y (fun g o hg hlg => World.cell?_of_block (w := w) ((chg_sortWorld Grp.enc w blk m dk os).block g hlg hg)) (chg_sortWorld Grp.enc w blk m dk os).size).mono fun _ _ ⟨he, q, hq⟩ => ⟨he, q, #[], by rw [hq, grow_empty]⟩)
    hH hlt (by simp [hDl]; omega)
  have hDs : D.toArray.size = L.length := by simp [hDl]
  rw [hDs] at hC
  refine hC.mono ?_
  rintro e w' ⟨rfl, d', n, os, hp, hs, rfl⟩
  have hCh := chg_sortWorld Grp.enc w blk n d' os
  have hHd := holds_sortWorld Grp.enc w blk 0 n D.toArray d' os hlt hH hp.1
  obtain ⟨M, rfl⟩ : ∃ M : List (Grp w blk), d' = M.toArray := ⟨d'.toList, by simp⟩
  have hMl : M.length = L.length := by have := hp.1; simpa [hDl] using this
  have hperm : M.Perm D := by
    have h := hp.2.2
    rw [List.extract_toArray, List.extract_toArray] at h
    have h2 : M.Perm (List.take M.length D) := by simpa [List.extract, hDl, ← hMl] using h
    rwa [List.take_of_length_le (by omega)] at h2
  have hsort : M.Pairwise (fun x y => headN x.1.2 ≤ headN y.1.2) := by
    rw [List.pairwise_iff_getElem]
    intro i j hi hj hij
    have h := hs i j (Nat.zero_le _) hij (by omega)
    rw [getElem!_pos M.toArray i (by simpa using hi), getElem!_pos M.toArray j (by simpa using hj)] at h
    unfold ltOf Grp.cmp at h
    simp at h
    omega
  have hM : M.map (fun x => x.1.2) = sortG L := sortG_unique hd hne (by rw [← hD1]; exact hperm.map _) (List.pairwise_map.2 hsort)
  have hsl := sortG_length L
  refine ⟨rfl, ⟨_, cap, by rw [hsl], by rw [hsl]; exact hn, fun i hi => ?_⟩, hCh.fr H.frm fun k hk => by rw [hk]; exact hbase⟩
  have hiM : i < M.length := by omega
  have hx : (sortG L)[i] = (M[i]).1.2 := by
    have : (M.map (fun x => x.1.2))[i]'(by simpa using hiM) = (sortG L)[i] := by congr 1
    rw [← this, List.getElem_map]
  have hc := (hHd i (by simpa using hiM)).1
  rw [getElem!_pos M.toArray i (by simpa using hiM)] at hc
  obtain ⟨g, c, h1, h2, _, h3, h4, h5, h6⟩ := (M[i]).2
  refine ⟨blk, 0, (M[i]).enc, rfl, by simpa using hc, ?_, ?_⟩
  · rw [hx]
    refine ⟨some ⟨g, 0, none⟩, c, h1, ?_, fun j hj => ⟨g, 0, rfl, ?_⟩⟩
    · exact h2
    · rw [Nat.zero_add, World.cell?_of_block (w := w) (hCh.block g h4 h3)]
      exact h6 j hj
  · have := hgl _ (sortG_mem.1 (List.getElem_mem hi))
    omega
end Go.Proofs.Ytadognaafgndnaa
