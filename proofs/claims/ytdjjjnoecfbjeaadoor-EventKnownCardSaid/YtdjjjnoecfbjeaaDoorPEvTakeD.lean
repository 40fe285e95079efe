/- event.takeReads. No condition. -/
import Derived.Test.YtdjjjnoecfbjeaaDoorPEvCheck
set_option linter.all false
set_option linter.unusedVariables false
set_option linter.unusedSimpArgs false
set_option linter.unnecessarySimpa false
/- event.takeReads. No condition. -/
namespace Go.Proofs.YtdjjjnoecfbjeaaDoor
open Go.RowKit

theorem rdLists_err {n e : Nat} {s : List UInt8} {at_ : Nat} (he : e ≠ 0) : rdLists n e s at_ = ([], e, at_) := by
  cases n with
  | zero => rfl
  | succ n => unfold rdLists; rw [if_pos he]
theorem Tryd.infoL16 : (Tryd.prog.info? 35).map (fun i => (i.zero, i.size, i.bytes)) = some (some (.slice none 0 0), 1, 24) := by kernel_rfl
/-- Between the rounds. -/
structure ReadsSt (p q : Nat) (s : List UInt8) (x : Ev) (w : World) (e at_ : Nat) (acc : List (List Nat)) (v : Value) (vs : List Value) (wr : World) : Prop where
  rd : RdAt wr p e s at_
  box : BoxAt wr q (({ x with reads := acc } : Ev).cells nil0 v) 32
  own : wr.ownsRow w.heap.size 35 1 v acc.length vs
  len : vs.length = acc.length
  inner : ∀ (i : Nat) (l : List Nat) (u : Value), acc[i]? = some l → vs[i]? = some u → SlAt wr (fun b => some b ≠ v.ownBlock ∧ w.heap.size ≤ b) u l.length (u16Cells l)
  ch : Ch2 p q w wr
theorem ReadsSt.read {p q : Nat} {s : List UInt8} {x : Ev} {w : World} {e at_ e1 at1 : Nat} {acc : List (List Nat)} {v : Value} {vs : List Value} {wr w1 : World} (h : ReadsSt p q s x w e at_ acc v vs wr) (hr : RdAt w1 p e1 s at1) (hc : Chp p wr w1) (hpq : q ≠ p) (hp : p < w.heap.size) : ReadsSt p q s x w e1 at1 acc v vs w1 :=
  ⟨hr, h.box.chp hc hpq, ownsRow_chp h.own hp hc, h.len, fun i l u hl hu => (h.inner i l u hl hu).keep hc.size fun k hz hk => hc.block k hk (by have := hz.2; omega) (by simp [Value.ownBlock]), h.ch.trans hc.ch2⟩
theorem ReadsSt.fr {p q : Nat} {s : List UInt8} {x : Ev} {w : World} {e at_ : Nat} {acc : List (List Nat)} {v : Value} {vs : List Value} {wr w1 : World} (h : ReadsSt p q s x w e at_ acc v vs wr) (f : Fr wr w1) : ReadsSt p q s x w e at_ acc v vs w1 :=
  ⟨h.rd.keep f, h.box.fr f, h.own.kept (row := none) ⟨f.os, f.tape, f.output, f.size, fun k hk _ => f.block hk⟩ (by cases v.ownBlock <;> simp), h.len, fun i l u hl hu => (h.inner i l u hl hu).fr f, h.ch.trans f.ch2⟩
theorem ReadsSt.push {p q : Nat} {s : List UInt8} {x : Ev} {w : World} {e at_ gg cap : Nat} {acc : List (List Nat)} {v u : Value} {vs : List Value} {wr w1 : World} {l : List Nat} (h : ReadsSt p q s x w e at_ acc v vs wr) (hp : p < w.heap.size) (hq : q < w.heap.size) (hpq : q ≠ p) (hg : wr.grownBy w1 v.ownBlock)
    (hown : w1.ownsRow w.heap.size 35 1 (.slice (some ⟨gg, 0, none⟩) (acc.length + 1) cap) (acc.length + 1) (vs ++ [u])) (hat : v.ownBlock = some gg ∨ gg = wr.heap.size)
    (hu : SlAt wr (fun b => some b ≠ v.ownBlock ∧ w.heap.size ≤ b) u l.length (u16Cells l)) :
    ReadsSt p q s x w e at_ (acc ++ [l]) (.slice (some ⟨gg, 0, none⟩) (acc.length + 1) cap) (vs ++ [u]) (w1.setCell ⟨q, 11, none⟩ (.slice (some ⟨gg, 0, none⟩) (acc.length + 1) cap)) := by
  have hne : ∀ b, b < w.heap.size → some b ≠ v.ownBlock := fun b hb e => by have := (h.own.lt b e.symm).1; omega
  have hpb : w1.heap[p]? = wr.heap[p]? := hg.block p h.rd.lt (hne p hp)
  have hqb : BoxAt w1 q (({ x with reads := acc } : Ev).cells nil0 v) 32 := (hg.block q h.box.lt (hne q hq)).trans h.box
  have hin : ∀ (l : List Nat) (u : Value), SlAt wr (fun b => some b ≠ v.ownBlock ∧ w.heap.size ≤ b) u l.length (u16Cells l) → SlAt (w1.setCell ⟨q, 11, none⟩ (.slice (some ⟨gg, 0, none⟩) (acc.length + 1) cap)) (fun b => some b ≠ (Value.slice (some ⟨gg, 0, none⟩) (acc.length + 1) cap).ownBlock ∧ w.heap.size ≤ b) u l.length (u16Cells l) := fun l u hl => by
    obtain ⟨a, c, rfl, h1, h2, h3⟩ := hl
    refine ⟨a, c, rfl, h1, h2, ?_⟩
    rcases h3 with h3 | ⟨b, off, rfl, ⟨hz1, hz2⟩, hlt, hc⟩
    · exact .inl h3
    · refine .inr ⟨b, off, rfl, ⟨?_, hz2⟩, ?_, fun j y hj => ?_⟩
      · rcases hat with hat | hat
        · rw [hat] at hz1; simpa [Value.ownBlock] using hz1
        · subst hat; simp [Value.ownBlock]; omega
      · simp; exact Nat.lt_of_lt_of_le hlt hg.size
      · have e1 : (w1.setCell ⟨q, 11, none⟩ (.slice (some ⟨gg, 0, none⟩) (acc.length + 1) cap)).heap[b]? = w1.heap[b]? := Below.heap_setCell w1 _ _ b (fun e => by simp at e; omega)
        exact (World.cell?_of_block (a := ⟨b, off + j, none⟩) (e1.trans (hg.block b hlt hz1))).trans (hc j y hj)
  refine ⟨(h.rd.ch hpb).setOther hpq _ _, hqb.setAt 11 _, ?_, ?_, ?_, ?_⟩
  · rw [List.length_append]
    exact ownsRow_setCell_below hown (a := ⟨q, 11, none⟩) hq _
  · simp [h.len]
  · intro i l' u' hl hu'
    by_cases hi : i < acc.length
    · rw [List.getElem?_append_left hi] at hl
      rw [List.getElem?_append_left (by rw [h.len]; exact hi)] at hu'
      exact hin _ _ (h.inner i l' u' hl hu')
    · by_cases hi2 : i = acc.length
      · subst hi2
        rw [List.getElem?_append_right (Nat.le_refl _)] at hl
        rw [List.getElem?_append_right (by rw [h.len]; exact Nat.le_refl _)] at hu'
        simp at hl
        simp [h.len] at hu'
        subst hl hu'
        exact hin _ _ hu
      · have : (acc ++ [l]).length ≤ i := by simp; omega
        rw [List.getElem?_eq_none this] at hl
        cases hl
  · refine Ch2.set ⟨hg.os.trans h.ch.os, hg.tape.trans h.ch.tape, hg.output.trans h.ch.output, Nat.le_trans h.ch.size hg.size, fun k hk h1 h2 => ?_⟩ 11 _
    exact (hg.block k (Nat.lt_of_lt_of_le hk h.ch.size) (hne k hk)).trans (h.ch.block k hk h1 h2)
theorem ReadsSt.done {p q : Nat} {s : List UInt8} {x : Ev} {w : World} {e at_ : Nat} {acc : List (List Nat)} {v : Value} {vs : List Value} {wr W2 : World} (h : ReadsSt p q s x w e at_ acc v vs wr) (h1 : wr.heap.size ≤ W2.heap.size) (h2 : ∀ k, w.heap.size ≤ k → k < wr.heap.size → W2.heap[k]? = wr.heap[k]?) : RdR W2 v acc :=
  ⟨vs, h.len, ((SlAt.own h.own).keep h1 h2).mono fun _ _ => trivial, fun i l u hl hu => ((h.inner i l u hl hu).keep h1 fun k hz hk => h2 k hz.2 hk).mono fun _ _ => trivial⟩
theorem rList_s (p e at_ : Nat) (s : List UInt8) (w : World) (h : RdAt w p e s at_) :
    Calls Tryd.prog 103 #[.pointer (some ⟨p, 0, none⟩)] w fun e' w' => ∃ ua uc, e' = .returned (.slice ua (rdList e s at_).1.length uc) ∧ w'.ownsRow w.heap.size 22 1 (.slice ua (rdList e s at_).1.length uc) (rdList e s at_).1.length (u16Cells (rdList e s at_).1) ∧ Read p s (rdList e s at_).2 w w' :=
  (rList_c p e at_ s w h).mono fun e' w' ⟨v, he, ho, hr⟩ => by
    obtain ⟨a, c, hv, _⟩ := (SlAt.own ho).form
    subst hv
    exact ⟨a, c, he, ho, hr⟩
set_option maxRecDepth 100000 in
set_option maxHeartbeats 2000000 in
theorem takeReads_c (p q e at_ : Nat) (s : List UInt8) (x : Ev) (w : World) (h : RdAt w p e s at_) (hB : BoxAt w q (x.cells nil0 nil0) 32) (hpq : q ≠ p) (ht : x.txn = []) (hr : x.reads = []) :
    Calls Tryd.prog 82 #[.pointer (some ⟨p, 0, none⟩), .pointer (some ⟨q, 0, none⟩)] w (TakeP p q w ({ x with reads := (rdReads e s at_).1 }, (rdReads e s at_).2.1)) := by
  unfold rdReads
  simp only
  have la := ofBe1_lt e s at_
  have H1 := Lib.hid (fun W h => rU8_c p e at_ s W h)
  generalize rdRaw e s at_ 1 = a at la H1 ⊢
  obtain ⟨a0, ae, aa⟩ := a
  simp only at la H1 ⊢
  generalize ofBe a0 = N at la H1 ⊢
  generalize hZ : rdLists N ae s aa = Z
  have HZ := Lib.hid hZ
  clear hZ
  have hst0 : ∀ w1, RdAt w1 p ae s aa → Chp p w w1 → ReadsSt p q s x w ae aa [] nil0 [] w1 := fun w1 h1 hch => ⟨h1, by have := hB.chp hch hpq; rw [← hr]; exact this, World.ownsRow_nil w1 _ _ _, rfl, fun i l u h => by simp at h, hch.ch2⟩
  have H0 := Lib.hid hst0
  clear hst0
  have HPW := Lib.hid h.lt
  have HQW := Lib.hid hB.lt
  clear hB
  go_enter Tryd.func82, Tryd.ntmps82
  go_wp2_with fail
  refine (H1.out _ h).mono ?_
  rintro e' w1 ⟨rfl, hr1, hch1⟩
  have hs1 := H0.out w1 hr1 hch1
  clear H0 H1 hr1 hch1 h
  go_wp2_with fail
  go_loopw [5] (fun nv wr => ∃ (m e' at' : Nat) (acc : List (List Nat)) (v : Value) (vs : List Value), nv = .int .u8 m ∧ m < 256 ∧ acc.length + m ≤ 255 ∧ ReadsSt p q s x w e' at' acc v vs wr ∧ Z = (acc ++ (rdLists m e' s at').1, (rdLists m e' s at').2)) (fun nv _ => (intOf nv).toNat)
  case atStart => exact ⟨N, ae, aa, [], nil0, [], rfl, la, by simp; omega, hs1, by rw [← HZ.out]; rfl⟩
  case round =>
    clear hs1 HZ
    obtain ⟨m, e1, at1, acc, v, vs, rfl, hm, hlen, hst, hz⟩ := hrel
    have HZ := Lib.hid hz
    clear hz
    cases m with
    | zero =>
      have hP : TakeP p q w ({ x with reads := Z.1 }, Z.2.1) (.returned (.int .i64 e1)) wr := by
        have h0 : Z = (acc, e1, at1) := by rw [HZ.out]; simp [rdLists]
        rw [h0]
        exact ⟨rfl, nil0, v, hst.box, fun _ h1 h2 => ⟨by rw [show ({ x with reads := acc } : Ev).txn = [] from ht]; exact RdM.nil _, hst.done h1 h2⟩, hst.ch⟩
      have HP := Lib.hid hP
      have hrd := hst.rd
      clear hP hst
      go_wp2_with fail
      refine (Err_c p e1 at1 s _ hrd).mono ?_
      rintro e' w' ⟨rfl, rfl⟩
      go_wp2_with fail
      go_ret
      exact HP.out
    | succ m =>
      by_cases he : e1 = 0
      · subst he
        have hz := HZ.out
        rw [show rdLists (m + 1) 0 s at1 = ((rdList 0 s at1).1 :: (rdLists m (rdList 0 s at1).2.1 s (rdList 0 s at1).2.2).1, (rdLists m (rdList 0 s at1).2.1 s (rdList 0 s at1).2.2).2) by rw [rdLists, if_neg (by simp)]] at hz
        have H1 := Lib.hid (fun W h => rList_s p 0 at1 s W h)
        generalize rdList 0 s at1 = a at H1 hz
        obtain ⟨l, ae, aa⟩ := a
        simp only at H1 hz
        have HZ2 := Lib.hid hz
        have hpos : (0 : Int) < ((m + 1 : Nat) : Int) := by omega
        have hrd := hst.rd
        have hpw : p < w.heap.size := HPW.out
        have hqw : q < w.heap.size := HQW.out
        obtain ⟨i0, hi0, hz0, hz1, hz2'⟩ := info_parts Tryd.infoL16
        have hvl : ∀ b, v.ownBlock = some b → b < wr.heap.size := fun b hb => (hst.own.lt b hb).2
        have HVL := Lib.hid hvl
        have hqr := hst.box.lt
        have k11 : wr.cell? ⟨q, 11, none⟩ = some v := hst.box.at 11 rfl
        have kf11 := hst.box.free 11
        have hvq : v.ownBlock ≠ some q := fun e => by have := (hst.own.lt q e).1; omega
        have HST := Lib.hid hst
        have HRD := Lib.hid (hst.rd.keep ((Fr.refl wr).drew))
        clear hz HZ hvl hst
        go_wp2_with fail
        refine (Err_c p 0 at1 s _ hrd).mono ?_
        rintro e' w' ⟨rfl, rfl⟩
        clear hrd
        go_wp2_with fail
        go_region_law
          (first
            | (go_simp; go_at_call 103; refine (H1.out _ HRD.out).mono ?_; rintro e' w2 ⟨ua, uc, rfl, hou, hr2, hch2⟩; have hst2 := Lib.hid (((HST.out.fr ((Fr.refl wr).drew)).read hr2 hch2 hpq hpw)); have kq2 : w2.cell? ⟨q, 11, none⟩ = some v := hst2.out.box.at 11 rfl; have kg2 := hst2.out.box.free 11; have hown := hst2.out.own; have hq2 := hst2.out.box.lt; have hle2 := hst2.out.ch.size; have HOU := Lib.hid hou; clear hr2 hou)
            | (refine step_append_lies _ (by rfl) _ _ _ (by rfl) w.heap.size 35 i0 _ 1 24 Tryd.underlying28 hi0 hz0 hz1 hz2' rfl (by omega) v acc.length vs (by rfl) (hown.alloc _)
                ⟨w2.heap.size, 0, none⟩ 1 1 [.slice ua l.length uc] (by rfl) (by rfl) (World.news_of_block (cs := #[.slice ua l.length uc]) (t := 35) (fr := (0, 0)) (heap_alloc_new w2 _)) (by simp [Value.oneCell'])
                (by omega) (by unfold maxLen; omega) (by omega) (by simp; omega) (w2.heap.size + 1) (by simp) ?_; intro gg cap w3 hown3 hgrow hat hlt3; have kf3 : w3.frozen? ⟨q, 11, none⟩ = false := (hgrow.frozen_far ⟨q, 11, none⟩ (by simp; omega) (Ne.symm hvq)).trans ((World.frozen?_alloc_past _ _ _ hq2).trans kg2); have kc3 : w3.cell? ⟨q, 11, none⟩ = some v := (hgrow.cell_far ⟨q, 11, none⟩ (by simp; omega) (Ne.symm hvq)).trans ((World.cell?_alloc_past _ _ _ hq2).trans kq2)))
        all_goals
          have hwr : w.heap.size ≤ wr.heap.size := HST.out.ch.size
          have hin : SlAt (w2.alloc (.cells #[.slice ua l.length uc] 35)) (fun b => some b ≠ v.ownBlock ∧ w.heap.size ≤ b) (.slice ua l.length uc) l.length (u16Cells l) :=
            ((SlAt.own HOU.out).mono fun b hb => ⟨fun e => by have h1 := HVL.out b e.symm; have h2 : wr.heap.size ≤ b := hb; omega, by have h2 : wr.heap.size ≤ b := hb; omega⟩).fr ((Fr.refl w2).alloc _)
          have hst4 := Lib.hid ((hst2.out.fr ((Fr.refl w2).alloc (.cells #[.slice ua l.length uc] 35))).push (l := l) hpw hqw hpq hgrow hown3 (hat.imp id fun h => by rw [h]; simp) hin)
          clear hown hgrow hown3 hat hlt3 kf3 kc3 kq2 kg2 k11 kf11 HVL HOU HST HRD hch2 hst2 hin
          go_wp2_with fail
          go_roundw
          case rel => exact ⟨m, ae, aa, acc ++ [l], _, _, by go_num, by omega, by simp; omega, hst4.out, by rw [HZ2.out]; simp⟩
          case measure => simp [intOf]
      · have he2 : ((e1 : Int) == 0) = false := by simp; omega
        have hpos : (0 : Int) < ((m + 1 : Nat) : Int) := by omega
        have hP : TakeP p q w ({ x with reads := Z.1 }, Z.2.1) (.returned (.int .i64 e1)) wr := by
          have h0 : Z = (acc, e1, at1) := by rw [HZ.out, rdLists_err he]; simp
          rw [h0]
          exact ⟨rfl, nil0, v, hst.box, fun _ h1 h2 => ⟨by rw [show ({ x with reads := acc } : Ev).txn = [] from ht]; exact RdM.nil _, hst.done h1 h2⟩, hst.ch⟩
        have HP := Lib.hid hP
        have hrd := hst.rd
        clear hP hst he
        go_wp2_with fail
        refine (Err_c p e1 at1 s _ hrd).mono ?_
        rintro e' w' ⟨rfl, rfl⟩
        go_wp2_with fail
        refine (Err_c p e1 at1 s _ hrd).mono ?_
        rintro e' w' ⟨rfl, rfl⟩
        go_wp2_with fail
        go_ret
        exact HP.out
end Go.Proofs.YtdjjjnoecfbjeaaDoor
