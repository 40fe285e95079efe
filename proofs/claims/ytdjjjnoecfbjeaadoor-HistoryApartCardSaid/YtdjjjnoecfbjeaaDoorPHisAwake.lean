/- The chapter's answers are had. No condition but the tables' content. -/
import Derived.Test.YtdjjjnoecfbjeaaDoorPHisStepB
import Derived.Deep.Cut
import Derived.Deep.CutRange
set_option linter.all false
set_option linter.unusedVariables false
set_option linter.unusedSimpArgs false
set_option linter.unnecessarySimpa false
/- The chapter's answers are had. No condition but the tables' content. -/
namespace Go.Proofs.YtdjjjnoecfbjeaaDoor
open Go.RowKit
attribute [local go_sem] Oper.semAt_some

theorem invOk {c i f v : Nat} (hc : c < 256) (hi : i < 65536) (hf : f < 256) (hv : v < 65536) : (invEv c i f v).Ok := by
  refine ⟨?_, ?_, ?_, ?_, ?_, ?_, ?_, ?_, ?_, ?_, ?_, ?_, ?_⟩ <;> simp [invEv, Ev.zero, OpD.zero, Cfg.zero] <;> omega
theorem retOk {c i f v : Nat} (hc : c < 256) (hi : i < 65536) (hf : f < 256) (hv : v < 65536) : (retEv c i f v).Ok := by
  refine ⟨?_, ?_, ?_, ?_, ?_, ?_, ?_, ?_, ?_, ?_, ?_, ?_, ?_⟩ <;> simp [retEv, Ev.zero, OpD.zero, Cfg.zero] <;> omega
theorem plainOk {k c i : Nat} (hk : k < 256) (hc : c < 256) (hi : i < 65536) : (plainEv k c i).Ok := by
  refine ⟨?_, ?_, ?_, ?_, ?_, ?_, ?_, ?_, ?_, ?_, ?_, ?_, ?_⟩ <;> simp [plainEv, Ev.zero, OpD.zero, Cfg.zero] <;> omega
theorem cfgOk {m : Nat} (hm : m < 256) : (cfgEv m).Ok := by
  refine ⟨?_, ?_, ?_, ?_, ?_, ?_, ?_, ?_, ?_, ?_, ?_, ?_, ?_⟩ <;> simp [cfgEv, Ev.zero, OpD.zero, Cfg.zero] <;> omega
theorem beginOk {c i : Nat} {l : List Mic} (hc : c < 256) (hi : i < 65536) (hl : ∀ m ∈ l, m.key < 256 ∧ m.v < 65536) : (beginEv c i l).Ok := by
  refine ⟨?_, ?_, ?_, ?_, ?_, ?_, ?_, ?_, ?_, ?_, hl, ?_, ?_⟩ <;> simp [beginEv, Ev.zero, OpD.zero, Cfg.zero] <;> omega
def awakeL : List Ev := [invEv 0 5 1 0, cfgEv 0, cfgEv 0, invEv 0 5 1 0, invEv 0 6 1 0, retEv 0 5 1 0]
def awakeW : List Nat := [11, 0, 11, 0, 9, 0]
theorem answers_of {l : List Ev} {want : List Nat} (h : (List.range l.length).map (fun i => (l[i]?).map (stepWhy (runTo (l.take i)))) = want.map some) : answers l want := by
  have hl : want.length = l.length := by have := congrArg List.length h; simpa using this.symm
  refine ⟨hl, fun i hi hi2 => ?_⟩
  have := congrArg (fun x => x[i]?) h
  simp [hi, hi2] at this
  exact this.symm
theorem awakeA : answers awakeL awakeW := answers_of (by kernel_rfl)
theorem RdI.new (w : World) (l : List Nat) (T : TypeId) (n : Nat) (hn : n = w.heap.size) (hl : l.length ≤ 1000) : RdI (w.alloc (.cells (l.map fun n : Nat => Value.int .i64 (n : Int)).toArray T)) (.slice (some ⟨n, 0, none⟩) l.length l.length) l := by
  subst hn
  refine ⟨_, _, rfl, Nat.le_refl _, by unfold maxLen; omega, .inr ⟨w.heap.size, 0, rfl, trivial, by simp, fun j u hj => ?_⟩⟩
  rw [Nat.zero_add, (BoxAt.new w _ T).cell]
  simpa using hj
set_option maxRecDepth 100000 in
set_option maxHeartbeats 4000000 in
theorem awake7_c (w : World) (hE : Env w) : Calls Tryd.prog 13 #[] w fun e w' => e = .returned (.bool true) ∧ Fr w w' := by
  go_enter Tryd.func13, Tryd.ntmps13
  go_wp2_with fail
  refine (invoke_c 0 5 1 0 _).mono ?_
  rintro e w1 ⟨rfl, f1⟩
  go_wp2_with fail
  refine (config_c 0 _).mono ?_
  rintro e w2 ⟨rfl, f2⟩
  go_wp2_with fail
  refine (config_c 0 _).mono ?_
  rintro e w3 ⟨rfl, f3⟩
  go_wp2_with fail
  refine (invoke_c 0 5 1 0 _).mono ?_
  rintro e w4 ⟨rfl, f4⟩
  go_wp2_with fail
  refine (invoke_c 0 6 1 0 _).mono ?_
  rintro e w5 ⟨rfl, f5⟩
  go_wp2_with fail
  refine (ret_c 0 5 1 0 _).mono ?_
  rintro e w6 ⟨rfl, f6⟩
  have hF : Fr w w6 := ((((f1.trans f2).trans f3).trans f4).trans f5).trans f6
  clear f1 f2 f3 f4 f5 f6
  go_wp2_with (refine wpList_buildEvs 6 _ rfl [(invEv 0 5 1 0, nil0, nil0), (cfgEv 0, nil0, nil0), (cfgEv 0, nil0, nil0), (invEv 0 5 1 0, nil0, nil0), (invEv 0 6 1 0, nil0, nil0), (retEv 0 5 1 0, nil0, nil0)] ?hev rfl (by decide) (by decide) ?hr rfl ?_)
  case hr =>
    intro e he
    simp at he
    rcases he with rfl | rfl | rfl | rfl | rfl <;> exact ⟨RdM.nil _, RdR.nil _⟩
  intro w7 f7 hs7 hR7
  go_wp2_with fail
  have hok : ∀ x ∈ awakeL, x.Ok := by
    intro x hx
    simp only [awakeL, List.mem_cons, List.not_mem_nil, or_false] at hx
    rcases hx with rfl | rfl | rfl | rfl | rfl | rfl
    all_goals first | exact invOk (by omega) (by omega) (by omega) (by omega) | exact cfgOk (by omega) | exact retOk (by omega) (by omega) (by omega) (by omega)
  have hI : RdI (w7.alloc (.cells (awakeW.map fun n : Nat => Value.int .i64 (n : Int)).toArray 39)) (.slice (some ⟨w6.heap.size + 1, 0, none⟩) 6 6) awakeW := RdI.new w7 awakeW _ _ hs7.symm (by decide)
  have f8 := f7.alloc (.cells (awakeW.map fun n : Nat => Value.int .i64 (n : Int)).toArray 39)
  refine (steps_c awakeL awakeW _ _ _ (hE.keep (hF.trans f8)) (hR7.keep ((Fr.refl w7).alloc _)) hI hok (by decide) awakeA).mono ?_
  rintro e w8 ⟨rfl, hf8⟩
  go_wp2_with fail
  go_ret
  exact ⟨rfl, (hF.trans f8).trans hf8⟩
end Go.Proofs.YtdjjjnoecfbjeaaDoor

/- May events be gone through? No condition but that they can be read. -/
namespace Go.Proofs.YtdjjjnoecfbjeaaDoor
open Go.RowKit
attribute [local go_sem] Oper.semAt_some

theorem RdM.len {w : World} {a : Option Addr} {n c : Nat} {l : List Mic} (h : RdM w (.slice a n c) l) : n = l.length ∧ n ≤ c ∧ c ≤ maxLen := by
  obtain ⟨_, _, he, h1, h2, _⟩ := h
  cases he
  exact ⟨rfl, h1, h2⟩
theorem RdR.len {w : World} {a : Option Addr} {n c : Nat} {l : List (List Nat)} (h : RdR w (.slice a n c) l) : n = l.length ∧ n ≤ c ∧ c ≤ maxLen := by
  obtain ⟨_, _, ⟨_, _, he, h1, h2, _⟩, _⟩ := h
  cases he
  exact ⟨rfl, h1, h2⟩
theorem RdR.cellAt {w : World} {a : Option Addr} {n c : Nat} {l : List (List Nat)} (h : RdR w (.slice a n c) l) {k : Nat} (hk : k < l.length) : ∃ b off d m e, a = some ⟨b, off, none⟩ ∧ b < w.heap.size ∧ w.cell? ⟨b, off + k, none⟩ = some (.slice d m e) ∧ m ≤ e ∧ e ≤ maxLen := by
  obtain ⟨vs, h1, ⟨_, _, he, _, _, hx⟩, h3⟩ := h
  cases he
  have hk2 : k < vs.length := by omega
  rcases hx with rfl | ⟨b, off, rfl, _, hb, hc⟩
  · simp at hk2
  · obtain ⟨d, e, hu, h4, h5, _⟩ := h3 k l[k] vs[k] (by simp [hk]) (by simp [hk2])
    exact ⟨b, off, d, _, e, rfl, hb, by rw [← hu]; exact hc k _ (by simp [hk2]), h4, h5⟩
/-- A bool that tells them few. -/
def FewP (w : World) (l : List Ev) (e : Ending) (w' : World) : Prop := ∃ b, e = .returned (.bool b) ∧ (b = true → l.length ≤ 120) ∧ Fr w w'
set_option maxRecDepth 100000 in
set_option maxHeartbeats 4000000 in
theorem few7_c (l : List Ev) (v : Value) (w : World) (hl : RdE w v l) : Calls Tryd.prog 12 #[v] w (FewP w l) := by
  obtain ⟨a, cap, rfl, hcap, hmax, _⟩ := id hl
  unfold maxLen at hmax
  have HL := Lib.hid hl
  clear hl
  go_enter Tryd.func12, Tryd.ntmps12
  go_wp2_with fail
  go_loopw [3] (fun i wr => ∃ k : Nat, k ≤ l.length ∧ i = .int .i64 k ∧ Fr w wr) (fun i _ => l.length - (intOf i).toNat)
  case atStart => exact ⟨0, Nat.zero_le _, rfl, Fr.refl _⟩
  case round =>
    obtain ⟨k, hk, rfl, hfr⟩ := hrel
    by_cases hlt : k < l.length
    · by_cases h130 : k < 130
      · obtain ⟨b1, o1, t, r, rfl, hb1, hx, ht, hr⟩ := RdE.at (HL.out.keep hfr) hlt
        have h130' : (k : Int) < 130 := by omega
        have hk1 : k < cap := by omega
        obtain ⟨ta, tn, tc, rfl⟩ := ht.slice
        obtain ⟨ra, rn, rc, rfl⟩ := hr.slice
        obtain ⟨ht1, ht2, ht3⟩ := ht.len
        obtain ⟨hr1, hr2, hr3⟩ := hr.len
        have c10 : wr.cell? ⟨b1, o1 + k * 19 + 10, none⟩ = some (.slice ta tn tc) := hx 10 _ rfl
        have c11 : wr.cell? ⟨b1, o1 + k * 19 + 11, none⟩ = some (.slice ra rn rc) := hx 11 _ rfl
        have HR := Lib.hid hr
        unfold maxLen at ht3 hr3
        clear hx ht hr
        by_cases h20 : 20 < tn
        · have hi : (20 : Int) < tn := by omega
          go_wp2_with fail
          go_ret
          exact ⟨false, rfl, (fun h => by cases h), hfr⟩
        · have hi : ¬ (20 : Int) < tn := by omega
          by_cases h20r : 20 < rn
          · have hj : (20 : Int) < rn := by omega
            go_wp2_with fail
            go_ret
            exact ⟨false, rfl, (fun h => by cases h), hfr⟩
          · have hj : ¬ (20 : Int) < rn := by omega
            go_wp2_with fail
            obtain ⟨W1, hW1⟩ : ∃ W1, W1 = wr := ⟨wr, rfl⟩
            subst hW1
            go_loopw [4] (fun i wr => ∃ j : Nat, j ≤ rn ∧ i = .int .i64 j ∧ Fr W1 wr) (fun i _ => rn - (intOf i).toNat)
            case atStart => exact ⟨0, Nat.zero_le _, rfl, Fr.refl _⟩
            case round =>
              obtain ⟨j, hjl, rfl, hf2⟩ := hrel
              have d11 := hf2.keep c11
              have hb2 : b1 < wr.heap.size := lt_of_cell d11
              clear c10 c11 hb1
              by_cases hjr : j < rn
              · obtain ⟨b3, o3, d, m, e, rfl, hb3, c3, hm1, hm2⟩ := (HR.out.keep hf2).cellAt (k := j) (by omega)
                unfold maxLen at hm2
                have hj1 : j < rc := by omega
                by_cases h40 : 40 < m
                · have h40' : (40 : Int) < m := by omega
                  go_wp2_with fail
                  go_ret
                  exact ⟨false, rfl, (fun h => by cases h), hfr.trans hf2⟩
                · have h40' : ¬ (40 : Int) < m := by omega
                  go_wp2_with fail
                  go_roundw
                  case rel => exact ⟨j + 1, by omega, by go_num, hf2⟩
                  case measure => simp [intOf]; omega
              · go_wp2_with fail
                go_roundw
                case rel => exact ⟨k + 1, by omega, by go_num, hfr.trans hf2⟩
                case measure => simp [intOf]; omega
      · have h130' : ¬ (k : Int) < 130 := by omega
        have hd : ¬ l.length ≤ 120 := by omega
        have hdi : ¬ (l.length : Int) ≤ 120 := by omega
        go_wp2_with fail
        go_ret
        exact ⟨_, rfl, (fun h => by simp at h <;> omega), hfr⟩
    · go_wp2_with fail
      go_ret
      exact ⟨_, rfl, (fun h => by simp at h <;> omega), hfr⟩
end Go.Proofs.YtdjjjnoecfbjeaaDoor

/- Two ends of unlike clients: plain. No condition but what each says. -/
namespace Go.Proofs.YtdjjjnoecfbjeaaDoor
open Go.RowKit

theorem stepTo_ne {L : List Ev} {x : Ev} (h : stepWhy L x = 0) (h1 : x.kind ≠ 1) : L ≠ [] := fun e => h1 (stepTo_first e h)
theorem stepWhy_snoc {L : List Ev} {x y : Ev} (hL : L ≠ []) (hy1 : y.kind ≠ 1) (hyo : y.opens = false) (hne : x.client ≠ y.client) : stepWhy (L ++ [x]) y = stepWhy L y := by
  cases L with
  | nil => exact absurd rfl hL
  | cons c L =>
    have hp : pend (c :: L ++ [x]) y.client = pend (c :: L) y.client := by rw [pend_snoc (L := c :: L) (by simp), if_neg hne]
    show stepWhy (c :: (L ++ [x])) y = _
    unfold stepWhy
    simp only [hyo, if_neg hy1]
    have he : endsWhy (c :: (L ++ [x])) y = endsWhy (c :: L) y := by
      unfold endsWhy
      rw [show pend (c :: (L ++ [x])) y.client = pend (c :: L) y.client from hp]
    rw [he]
    simp
theorem end_free {L : List Ev} {x y : Ev} (hx1 : x.kind ≠ 1) (hy1 : y.kind ≠ 1) (hyo : y.opens = false) (hne : x.client ≠ y.client) : stepWhy (stepTo L x) y = stepWhy L y := by
  by_cases h : stepWhy L x = 0
  · rw [stepTo_yes h]
    exact stepWhy_snoc (stepTo_ne h hx1) hy1 hyo hne
  · rw [stepTo_no h]
theorem openTo_congr {L M : List Ev} (h : ∀ c, pend L c = pend M c) (k : Nat) : openTo L k = openTo M k := by
  unfold openTo
  congr 1
  exact List.filter_congr fun c _ => by rw [h c]
theorem open_swap {L : List Ev} {x y : Ev} (hx1 : x.kind ≠ 1) (hy1 : y.kind ≠ 1) (hxo : x.opens = false) (hyo : y.opens = false) (hne : x.client ≠ y.client) (k : Nat) : openTo (stepTo (stepTo L y) x) k = openTo (stepTo (stepTo L x) y) k := by
  have h1 := end_free (L := L) hx1 hy1 hyo hne
  have h2 := end_free (L := L) hy1 hx1 hxo (Ne.symm hne)
  by_cases hx : stepWhy L x = 0
  · by_cases hy : stepWhy L y = 0
    · have hL := stepTo_ne hx hx1
      rw [stepTo_yes (h2.trans hx), stepTo_yes (h1.trans hy), stepTo_yes hx, stepTo_yes hy]
      refine openTo_congr (fun c => ?_) k
      rw [pend_snoc (by simp), pend_snoc hL, pend_snoc (by simp), pend_snoc hL, hxo, hyo]
      by_cases hc : x.client = c
      · by_cases hd : y.client = c
        · exact absurd (hc.trans hd.symm) hne
        · simp [hc, hd]
      · by_cases hd : y.client = c
        · simp [hc, hd]
        · simp [hc, hd]
    · rw [stepTo_yes (h2.trans hx), stepTo_no (L := stepTo L x) (by rw [h1]; exact hy), stepTo_yes hx, stepTo_no hy]
  · by_cases hy : stepWhy L y = 0
    · rw [stepTo_no (L := stepTo L y) (by rw [h2]; exact hx), stepTo_yes (L := stepTo L x) (h1.trans hy), stepTo_no hx, stepTo_yes hy]
    · rw [stepTo_no (L := stepTo L y) (by rw [h2]; exact hx), stepTo_no (L := stepTo L x) (by rw [h1]; exact hy), stepTo_no hx, stepTo_no hy]
end Go.Proofs.YtdjjjnoecfbjeaaDoor

/- HistoryApart. No condition but that the events can be read, and the numbers' bounds. -/
namespace Go.Proofs.YtdjjjnoecfbjeaaDoor
open Go.RowKit
attribute [local go_sem] Oper.semAt_some

/-- Three automatons apart from each other, made by the call. -/
structure St3 (w0 : World) (p bm q bq r br : Nat) (A B C : List Ev) (W : World) : Prop where
  fr : Fr w0 W
  a : Aut W p bm A
  b : Aut W q bq B
  c : Aut W r br C
structure Far3 (w0 : World) (p bm q bq r br : Nat) : Prop where
  fp : w0.heap.size ≤ p
  fbm : w0.heap.size ≤ bm
  fq : w0.heap.size ≤ q
  fbq : w0.heap.size ≤ bq
  fr : w0.heap.size ≤ r
  fbr : w0.heap.size ≤ br
  pq : p ≠ q
  pr : p ≠ r
  qr : q ≠ r
  mq : bm ≠ bq
  mr : bm ≠ br
  nr : bq ≠ br
section
variable {w0 : World} {p bm q bq r br : Nat} {A B C : List Ev} {W : World}
theorem St3.drew (h : St3 w0 p bm q bq r br A B C W) : St3 w0 p bm q bq r br A B C W.drew := ⟨h.fr.drew, h.a.fr ((Fr.refl _).drew), h.b.fr ((Fr.refl _).drew), h.c.fr ((Fr.refl _).drew)⟩
theorem St3.keep {W' : World} (h : St3 w0 p bm q bq r br A B C W) (f : Fr W W') : St3 w0 p bm q bq r br A B C W' := ⟨h.fr.trans f, h.a.fr f, h.b.fr f, h.c.fr f⟩
theorem St3.stepA (F : Far3 w0 p bm q bq r br) (h : St3 w0 p bm q bq r br A B C W) (hE : Env w0) {x : Ev} {v : Value} (hx : EvAt w0 v x) (ok : x.Ok) (hL : A.length ≤ 100000000) :
    Calls Tryd.prog 15 #[.pointer (some ⟨p, 0, none⟩), v] W fun e W' => e = .returned (.int .i64 (stepWhy A x : Nat)) ∧ St3 w0 p bm q bq r br (stepTo A x) B C W' :=
  (step_c W h.a (hE.keep h.fr) (hx.keep h.fr) ok hL).mono fun e W' ⟨he, hA, hch⟩ => ⟨he, Ch2.fr h.fr hch F.fp F.fbm, hA, h.b.ch2 h.a (Ne.symm F.pq) (Ne.symm F.mq) hch, h.c.ch2 h.a (Ne.symm F.pr) (Ne.symm F.mr) hch⟩
theorem St3.stepB (F : Far3 w0 p bm q bq r br) (h : St3 w0 p bm q bq r br A B C W) (hE : Env w0) {x : Ev} {v : Value} (hx : EvAt w0 v x) (ok : x.Ok) (hL : B.length ≤ 100000000) :
    Calls Tryd.prog 15 #[.pointer (some ⟨q, 0, none⟩), v] W fun e W' => e = .returned (.int .i64 (stepWhy B x : Nat)) ∧ St3 w0 p bm q bq r br A (stepTo B x) C W' :=
  (step_c W h.b (hE.keep h.fr) (hx.keep h.fr) ok hL).mono fun e W' ⟨he, hB, hch⟩ => ⟨he, Ch2.fr h.fr hch F.fq F.fbq, h.a.ch2 h.b F.pq F.mq hch, hB, h.c.ch2 h.b (Ne.symm F.qr) (Ne.symm F.nr) hch⟩
theorem St3.stepC (F : Far3 w0 p bm q bq r br) (h : St3 w0 p bm q bq r br A B C W) (hE : Env w0) {x : Ev} {v : Value} (hx : EvAt w0 v x) (ok : x.Ok) (hL : C.length ≤ 100000000) :
    Calls Tryd.prog 15 #[.pointer (some ⟨r, 0, none⟩), v] W fun e W' => e = .returned (.int .i64 (stepWhy C x : Nat)) ∧ St3 w0 p bm q bq r br A B (stepTo C x) W' :=
  (step_c W h.c (hE.keep h.fr) (hx.keep h.fr) ok hL).mono fun e W' ⟨he, hC, hch⟩ => ⟨he, Ch2.fr h.fr hch F.fr F.fbr, h.a.ch2 h.c F.pr F.mr hch, h.b.ch2 h.c F.qr F.nr hch, hC⟩
end
set_option maxRecDepth 100000 in
set_option maxHeartbeats 8000000 in
theorem apart_c (l : List Ev) (x y : Ev) (v : Value) (tx rx ty ry : Value) (w : World) (hE : Env w) (hl : RdE w v l) (hx : EvAt w (x.val tx rx) x) (hy : EvAt w (y.val ty ry) y) (hok : ∀ e ∈ l, e.Ok) (okx : x.Ok) (oky : y.Ok)
    (htx : RdM w tx x.txn ∧ RdR w rx x.reads) (hty : RdM w ty y.txn ∧ RdR w ry y.reads) :
    Calls Tryd.prog 5 #[v, x.val tx rx, y.val ty ry] w fun e w' => e = .returned (.bool true) ∧ Fr w w' := by
  have hfew := fun W (f : Fr w W) => few7_c l v W (hl.keep f)
  have haw := fun W (f : Fr w W) => awake7_c W (hE.keep f)
  have hBx := (BoxAt.new w (x.cells tx rx) 32).alloc (.cells (y.cells ty ry) 32)
  have hBy := BoxAt.new' (w.alloc (.cells (x.cells tx rx) 32)) (y.cells ty ry) 32 (w.heap.size + 1) (by simp)
  have hF0 : Fr w ((w.alloc (.cells (x.cells tx rx) 32)).alloc (.cells (y.cells ty ry) 32)) := ((Fr.refl w).alloc _).alloc _
  obtain ⟨a, cap, rfl, hcap, hmax, _⟩ := id hl
  unfold maxLen at hmax
  have HFEW := Lib.hid hfew
  have HAW := Lib.hid haw
  have HL := Lib.hid hl
  have HE := Lib.hid hE
  have HX := Lib.hid hx
  have HY := Lib.hid hy
  clear hfew haw hl hE hx hy
  unfold Ev.val
  unfold Ev.cells at hBx hBy hF0
  go_enter Tryd.func5, Tryd.ntmps5
  go_wp2_with fail
  refine (HFEW.out _ hF0).mono ?_
  rintro e w1 ⟨b, rfl, hb, hf1⟩
  have hF1 := hF0.trans hf1
  have hBx1 := hBx.fr hf1
  have hBy1 := hBy.fr hf1
  clear hBx hBy hf1 hF0
  cases b
  · go_wp2_with fail
    refine (HAW.out _ hF1).mono ?_
    rintro e w2 ⟨rfl, hf2⟩
    go_wp2_with fail
    go_ret
    exact ⟨rfl, hF1.trans hf2⟩
  · have hl120 := hb rfl
    clear hb
    obtain ⟨hm1, hr1⟩ := htx
    obtain ⟨hm2, hr2⟩ := hty
    go_wp2_with (first | ((with_reducible refine wpList_here (.load 32 (.tmp 4)) rfl ?_); refine wpList_load_box 32 (.tmp 4) rfl _ rfl _ hBx1 _ Tryd.underlying32 rfl Tryd.infoEv rfl ?_) | ((with_reducible refine wpList_here (.load 32 (.tmp 5)) rfl ?_); refine wpList_load_box 32 (.tmp 5) rfl _ rfl _ hBy1 _ Tryd.underlying32 rfl Tryd.infoEv rfl ?_) | (refine wpList_buildEvs 2 _ rfl [(x, tx, rx), (y, ty, ry)] ?hev rfl (by decide) (by decide) ?hr rfl ?_))
    case hev => exact ⟨rfl, rfl⟩
    case hr =>
      intro e he
      simp only [List.mem_cons, List.not_mem_nil, or_false] at he
      rcases he with rfl | rfl
      · exact ⟨hm1.keep hF1, hr1.keep hF1⟩
      · exact ⟨hm2.keep hF1, hr2.keep hF1⟩
    intro w2 hf2 _ hR2
    go_wp2_with fail
    refine (few7_c _ _ _ hR2).mono ?_
    rintro e w3 ⟨b, rfl, _, hf3⟩
    have hF3 := (hF1.trans hf2).trans hf3
    have hBx3 := hBx1.fr (hf2.trans hf3)
    have hBy3 := hBy1.fr (hf2.trans hf3)
    clear hf2 hf3 hBx1 hBy1 hR2 hF1
    cases b
    · go_wp2_with fail
      refine (HAW.out _ hF3).mono ?_
      rintro e w4 ⟨rfl, hf4⟩
      go_wp2_with fail
      go_ret
      exact ⟨rfl, hF3.trans hf4⟩
    · go_wp2_with fail
      refine (new_c _).mono ?_
      rintro e w4 ⟨⟨p, bm, rfl, hp, hbm, hA⟩, hf4⟩
      go_wp2_with fail
      refine (new_c _).mono ?_
      rintro e w5 ⟨⟨q, bq, rfl, hq, hbq, hB⟩, hf5⟩
      have hA5 := hA.fr hf5
      have hlt := hA.lt
      have hf35 := hf4.trans hf5
      have hq3 : w3.heap.size ≤ q := by have := hf4.size; omega
      have hbq3 : w3.heap.size ≤ bq := by have := hf4.size; omega
      have hpq : p ≠ q := by omega
      have hmq : bm ≠ bq := by omega
      clear hA hq hbq hf4 hf5
      go_wp2_with fail
      go_loopw [9] (fun i wr => ∃ k : Nat, k ≤ l.length ∧ i = .int .i64 k ∧ Fr w3 wr ∧ Aut wr p bm (runTo (l.take k)) ∧ Aut wr q bq (runTo (l.take k))) (fun i _ => l.length - (intOf i).toNat)
      case atStart => exact ⟨0, Nat.zero_le _, rfl, hf35, hA5, hB⟩
      case round =>
        clear hA5 hB hf35
        obtain ⟨k, hk, rfl, hfr, hA, hB⟩ := hrel
        by_cases hlt2 : k < l.length
        · obtain ⟨b1, o1, t, r, rfl, hb1, hx0, ht0, hr0⟩ := RdE.at (HL.out.keep hF3) hlt2
          have hx := rangeAt_keep hx0 (hfr.block hb1)
          have hb1r : b1 < wr.heap.size := Nat.lt_of_lt_of_le hb1 hfr.size
          have hk1 : k < cap := by omega
          have hok1 := hok _ (List.getElem_mem hlt2)
          have hrt := runTo_take hlt2
          have hlen1 : (runTo (l.take k)).length ≤ 100000000 := by have := runTo_len (l.take k); simp at this; omega
          generalize l[k] = z at hx0 hx ht0 hr0 hok1 hrt
          obtain ⟨ta, tn, tc, rfl⟩ := ht0.slice
          obtain ⟨ra, rn, rc, rfl⟩ := hr0.slice
          have HZ : Hid (EvAt w3 (z.val (.slice ta tn tc) (.slice ra rn rc)) z) := ⟨_, _, rfl, ht0, hr0⟩
          have HA := Lib.hid hA
          have HB := Lib.hid hB
          have HRT := Lib.hid hrt
          clear hA hB ht0 hr0
          have hsA := fun W (h : Aut W p bm (runTo (l.take k))) (f : Fr w3 W) => step_c W h (HE.out.keep (hF3.trans f)) (HZ.out.keep f) hok1 hlen1
          have hsB := fun W (h : Aut W q bq (runTo (l.take k))) (f : Fr w3 W) => step_c W h (HE.out.keep (hF3.trans f)) (HZ.out.keep f) hok1 hlen1
          rw [← hrt] at hsA hsB
          by_cases h0 : stepWhy (runTo (l.take k)) z = 0
          · rw [h0] at hsA hsB
            have HSA := Lib.hid hsA
            have HSB := Lib.hid hsB
            clear hsA hsB
            go_wp2_with ((with_reducible refine wpList_here (.load 32 (.tmp 44)) rfl ?_); refine wpList_load_mid rfl 32 (.tmp 44) rfl b1 (o1 + k * 19) rfl (z.cells (.slice ta tn tc) (.slice ra rn rc)).toList _ hx Tryd.underlying32 rfl Tryd.infoEv ?_)
            refine (HSA.out _ HA.out hfr).mono ?_
            rintro e w6 ⟨rfl, hA6, hc6⟩
            have hf6 : Fr w3 w6 := Ch2.fr hfr hc6 hp hbm
            have hB6 := HB.out.ch2 HA.out (Ne.symm hpq) (Ne.symm hmq) hc6
            have hx6 := rangeAt_keep hx0 (hf6.block hb1)
            clear hc6 hx
            go_wp2_with ((with_reducible refine wpList_here (.load 32 (.tmp 52)) rfl ?_); refine wpList_load_midW 32 (.tmp 52) rfl b1 (o1 + k * 19) rfl (z.cells (.slice ta tn tc) (.slice ra rn rc)).toList _ hx6 Tryd.underlying32 rfl Tryd.infoEv rfl ?_)
            refine (HSB.out _ hB6 hf6).mono ?_
            rintro e w7 ⟨rfl, hB7, hc7⟩
            have hf7 : Fr w3 w7 := Ch2.fr hf6 hc7 hq3 hbq3
            have hA7 := hA6.ch2 hB6 hpq hmq hc7
            clear hc7 hx6 hA6 hB6
            go_wp2_with fail
            go_roundw
            case rel => exact ⟨k + 1, by omega, by go_num, hf7, hA7, hB7⟩
            case measure => simp [intOf]; omega
          · have hne : ((stepWhy (runTo (l.take k)) z : Int) == 0) = false := by simp; omega
            have hAB : runTo (l.take (k + 1)) = runTo (l.take k) := by rw [HRT.out, stepTo_no h0]
            rw [hAB] at hsA
            generalize stepWhy (runTo (l.take k)) z = S at hsA hne
            have HSA := Lib.hid hsA
            clear hsA hsB
            go_wp2_with ((with_reducible refine wpList_here (.load 32 (.tmp 44)) rfl ?_); refine wpList_load_mid rfl 32 (.tmp 44) rfl b1 (o1 + k * 19) rfl (z.cells (.slice ta tn tc) (.slice ra rn rc)).toList _ hx Tryd.underlying32 rfl Tryd.infoEv ?_)
            refine (HSA.out _ HA.out hfr).mono ?_
            rintro e w6 ⟨rfl, hA6, hc6⟩
            have hf6 : Fr w3 w6 := Ch2.fr hfr hc6 hp hbm
            have hB6 := HB.out.ch2 HA.out (Ne.symm hpq) (Ne.symm hmq) hc6
            rw [← hAB] at hA6 hB6
            clear hc6 hx h0
            go_wp2_with fail
            go_roundw
            case rel => exact ⟨k + 1, by omega, by go_num, hf6, hA6, hB6⟩
            case measure => simp [intOf]; omega
        · have hkk : l.take k = l := List.take_of_length_le (by omega)
          rw [hkk] at hA hB
          have hlenL : (runTo l).length ≤ 120 := by have := runTo_len l; omega
          generalize runTo l = L at hA hB hlenL
          have hcop := fun W (f : Fr wr W) => copy_c W (hA.fr f)
          have HCP := Lib.hid hcop
          have HA := Lib.hid hA
          have HB := Lib.hid hB
          clear hA hB hcop hkk
          go_wp2_with fail
          refine (HCP.out _ (Fr.refl _)).mono ?_
          rintro e w6 ⟨⟨r, br, rfl, hr, hbr, hC⟩, hf6⟩
          have hA6 := HA.out.fr hf6
          have hB6 := HB.out.fr hf6
          have hf36 := hfr.trans hf6
          have far : Far3 w3 p bm q bq r br := by
            have h1 := HA.out.lt
            have h2 := HB.out.lt
            have h3 := hfr.size
            exact ⟨hp, hbm, hq3, hbq3, by omega, by omega, hpq, by omega, by omega, hmq, by omega, by omega⟩
          have hSt : St3 w3 p bm q bq r br L L L w6 := ⟨hf36, hA6, hB6, hC⟩
          have HX3 : Hid (EvAt w3 (x.val tx rx) x) := HX.out.keep hF3
          have HY3 : Hid (EvAt w3 (y.val ty ry) y) := HY.out.keep hF3
          have HE3 := Lib.hid (HE.out.keep hF3)
          clear hA6 hB6 hC hf6 hr hbr HCP HA HB
          go_wp2_with fail
          refine wp_region_held (S := fun W' => Fr w3 W') (by kernel_rfl) ?_
          have hD := hSt.drew
          refine takeD 0 61 (v := .pointer (some ⟨p, 0, none⟩)) rfl rfl (by kernel_rfl) (by kernel_rfl) (by kernel_rfl) (fun _ _ _ h => h) (yRun rfl fun _ _ => rfl) hD.fr ?_
          simp only [Act.put, List.setIfInBounds_toArray, List.set_cons_succ, List.set_cons_zero]
          refine takeD 1 62 (v := .agg (x.cells tx rx)) rfl rfl (by kernel_rfl) (by kernel_rfl) (by kernel_rfl) (fun _ _ _ h => h) (yRun rfl fun W hS => run_load_box 32 (.tmp 4) rfl (w.heap.size) rfl (x.cells tx rx) (hBx3.fr hS) _ Tryd.underlying32 rfl Tryd.infoEv) hD.fr ?_
          simp only [Act.put, List.setIfInBounds_toArray, List.set_cons_succ, List.set_cons_zero]
          refine takeD 3 64 (v := .pointer (some ⟨q, 0, none⟩)) rfl rfl (by kernel_rfl) (by kernel_rfl) (by kernel_rfl) (fun _ _ _ h => h) (yRun rfl fun _ _ => rfl) hD.fr ?_
          simp only [Act.put, List.setIfInBounds_toArray, List.set_cons_succ, List.set_cons_zero]
          refine takeD 4 65 (v := .agg (x.cells tx rx)) rfl rfl (by kernel_rfl) (by kernel_rfl) (by kernel_rfl) (fun _ _ _ h => h) (yRun rfl fun W hS => run_load_box 32 (.tmp 4) rfl (w.heap.size) rfl (x.cells tx rx) (hBx3.fr hS) _ Tryd.underlying32 rfl Tryd.infoEv) hD.fr ?_
          simp only [Act.put, List.setIfInBounds_toArray, List.set_cons_succ, List.set_cons_zero]
          refine wpAnyH_all (rs := [2]) (by kernel_rfl) (by simp) (fun i hi => ?_)
          obtain rfl : i = 2 := by simpa using hi
          refine wpOp_enterD 63 rfl rfl rfl 15 #[.pointer (some ⟨p, 0, none⟩), x.val tx rx] (run_call Tryd.func15 (by kernel_rfl) rfl _ _ rfl _ (by simp [Act.eval]; first | done | rfl)) (.int .i64 (stepWhy (L) x : Nat)) ?_
          refine (hD.stepA far HE3.out HX3.out okx (by omega)).mono ?_
          rintro e w7 ⟨rfl, hDa⟩
          refine ⟨rfl, hDa.fr, ?_⟩
          simp only [Act.put, List.setIfInBounds_toArray, List.set_cons_succ, List.set_cons_zero]
          refine wpAnyH_all (rs := [5]) (by kernel_rfl) (by simp) (fun i hi => ?_)
          obtain rfl : i = 5 := by simpa using hi
          refine wpOp_enterD 66 rfl rfl rfl 15 #[.pointer (some ⟨q, 0, none⟩), x.val tx rx] (run_call Tryd.func15 (by kernel_rfl) rfl _ _ rfl _ (by simp [Act.eval]; first | done | rfl)) (.int .i64 (stepWhy (L) x : Nat)) ?_
          refine (hDa.stepB far HE3.out HX3.out okx (by omega)).mono ?_
          rintro e w8 ⟨rfl, hDb⟩
          refine ⟨rfl, hDb.fr, ?_⟩
          simp only [Act.put, List.setIfInBounds_toArray, List.set_cons_succ, List.set_cons_zero]
          refine wpAnyH_all (rs := [6]) (by kernel_rfl) (by simp) (fun i hi => ?_)
          obtain rfl : i = 6 := by simpa using hi
          refine wpOp_runD 11 rfl rfl rfl (.int .i64 (stepWhy (L) x : Nat)) w8 rfl ?_
          refine ⟨hDb.fr, ?_⟩
          simp only [Act.put, List.setIfInBounds_toArray, List.set_cons_succ, List.set_cons_zero]
          refine wpAnyH_all (rs := [7]) (by kernel_rfl) (by simp) (fun i hi => ?_)
          obtain rfl : i = 7 := by simpa using hi
          refine wpOp_runD 12 rfl rfl rfl (.int .i64 (stepWhy (L) x : Nat)) w8 rfl ?_
          refine ⟨hDb.fr, wpAnyH_done (by kernel_rfl) ?_ _⟩
          simp only [Act.put, List.setIfInBounds_toArray, List.set_cons_succ, List.set_cons_zero]
          clear hD hDa hSt
          have hSt := hDb
          clear hDb
          have hlen2 : (stepTo L x).length ≤ 1000 := by have := stepTo_len L x; omega
          go_wp2_with fail
          refine wp_region_held (S := fun W' => Fr w3 W') (by kernel_rfl) ?_
          have hD := hSt.drew
          refine takeD 0 67 (v := .pointer (some ⟨p, 0, none⟩)) rfl rfl (by kernel_rfl) (by kernel_rfl) (by kernel_rfl) (fun _ _ _ h => h) (yRun rfl fun _ _ => rfl) hD.fr ?_
          simp only [Act.put, List.setIfInBounds_toArray, List.set_cons_succ, List.set_cons_zero]
          refine takeD 1 68 (v := .agg (y.cells ty ry)) rfl rfl (by kernel_rfl) (by kernel_rfl) (by kernel_rfl) (fun _ _ _ h => h) (yRun rfl fun W hS => run_load_box 32 (.tmp 5) rfl (w.heap.size + 1) rfl (y.cells ty ry) (hBy3.fr hS) _ Tryd.underlying32 rfl Tryd.infoEv) hD.fr ?_
          simp only [Act.put, List.setIfInBounds_toArray, List.set_cons_succ, List.set_cons_zero]
          refine takeD 3 70 (v := .pointer (some ⟨q, 0, none⟩)) rfl rfl (by kernel_rfl) (by kernel_rfl) (by kernel_rfl) (fun _ _ _ h => h) (yRun rfl fun _ _ => rfl) hD.fr ?_
          simp only [Act.put, List.setIfInBounds_toArray, List.set_cons_succ, List.set_cons_zero]
          refine takeD 4 71 (v := .agg (y.cells ty ry)) rfl rfl (by kernel_rfl) (by kernel_rfl) (by kernel_rfl) (fun _ _ _ h => h) (yRun rfl fun W hS => run_load_box 32 (.tmp 5) rfl (w.heap.size + 1) rfl (y.cells ty ry) (hBy3.fr hS) _ Tryd.underlying32 rfl Tryd.infoEv) hD.fr ?_
          simp only [Act.put, List.setIfInBounds_toArray, List.set_cons_succ, List.set_cons_zero]
          refine wpAnyH_all (rs := [2]) (by kernel_rfl) (by simp) (fun i hi => ?_)
          obtain rfl : i = 2 := by simpa using hi
          refine wpOp_enterD 69 rfl rfl rfl 15 #[.pointer (some ⟨p, 0, none⟩), y.val ty ry] (run_call Tryd.func15 (by kernel_rfl) rfl _ _ rfl _ (by simp [Act.eval]; first | done | rfl)) (.int .i64 (stepWhy (stepTo L x) y : Nat)) ?_
          refine (hD.stepA far HE3.out HY3.out oky (by omega)).mono ?_
          rintro e w9 ⟨rfl, hDa⟩
          refine ⟨rfl, hDa.fr, ?_⟩
          simp only [Act.put, List.setIfInBounds_toArray, List.set_cons_succ, List.set_cons_zero]
          refine wpAnyH_all (rs := [5]) (by kernel_rfl) (by simp) (fun i hi => ?_)
          obtain rfl : i = 5 := by simpa using hi
          refine wpOp_enterD 72 rfl rfl rfl 15 #[.pointer (some ⟨q, 0, none⟩), y.val ty ry] (run_call Tryd.func15 (by kernel_rfl) rfl _ _ rfl _ (by simp [Act.eval]; first | done | rfl)) (.int .i64 (stepWhy (stepTo L x) y : Nat)) ?_
          refine (hDa.stepB far HE3.out HY3.out oky (by omega)).mono ?_
          rintro e w10 ⟨rfl, hDb⟩
          refine ⟨rfl, hDb.fr, ?_⟩
          simp only [Act.put, List.setIfInBounds_toArray, List.set_cons_succ, List.set_cons_zero]
          refine wpAnyH_all (rs := [6]) (by kernel_rfl) (by simp) (fun i hi => ?_)
          obtain rfl : i = 6 := by simpa using hi
          refine wpOp_runD 13 rfl rfl rfl (.int .i64 (stepWhy (stepTo L x) y : Nat)) w10 rfl ?_
          refine ⟨hDb.fr, ?_⟩
          simp only [Act.put, List.setIfInBounds_toArray, List.set_cons_succ, List.set_cons_zero]
          refine wpAnyH_all (rs := [7]) (by kernel_rfl) (by simp) (fun i hi => ?_)
          obtain rfl : i = 7 := by simpa using hi
          refine wpOp_runD 14 rfl rfl rfl (.int .i64 (stepWhy (stepTo L x) y : Nat)) w10 rfl ?_
          refine ⟨hDb.fr, wpAnyH_done (by kernel_rfl) ?_ _⟩
          simp only [Act.put, List.setIfInBounds_toArray, List.set_cons_succ, List.set_cons_zero]
          clear hD hDa hSt
          have hSt := hDb
          clear hDb
          have hf10 := hSt.fr
          have kx : w10.cell? ⟨w.heap.size, 0, none⟩ = some (.int .u8 x.kind) := (hBx3.fr hf10).at 0 rfl
          have ky : w10.cell? ⟨w.heap.size + 1, 0, none⟩ = some (.int .u8 y.kind) := (hBy3.fr hf10).at 0 rfl
          have jx : w10.cell? ⟨w.heap.size, 1, none⟩ = some (.int .u8 x.client) := (hBx3.fr hf10).at 1 rfl
          have jy : w10.cell? ⟨w.heap.size + 1, 1, none⟩ = some (.int .u8 y.client) := (hBy3.fr hf10).at 1 rfl
          have zx := (hBx3.fr hf10).lt
          have zy := (hBy3.fr hf10).lt
          have hF10 := hF3.trans hf10
          rcases (show x.kind = 2 ∨ (x.kind ≠ 2 ∧ x.kind = 5) ∨ (x.kind ≠ 2 ∧ x.kind ≠ 5 ∧ x.kind = 1) ∨ (x.kind ≠ 2 ∧ x.kind ≠ 5 ∧ x.kind ≠ 1 ∧ y.kind = 2) ∨ (x.kind ≠ 2 ∧ x.kind ≠ 5 ∧ x.kind ≠ 1 ∧ y.kind ≠ 2 ∧ y.kind = 5) ∨ (x.kind ≠ 2 ∧ x.kind ≠ 5 ∧ x.kind ≠ 1 ∧ y.kind ≠ 2 ∧ y.kind ≠ 5 ∧ y.kind = 1) ∨ (x.kind ≠ 2 ∧ x.kind ≠ 5 ∧ x.kind ≠ 1 ∧ y.kind ≠ 2 ∧ y.kind ≠ 5 ∧ y.kind ≠ 1) by omega) with h | h | h | h | h | h | h
          rotate_left 6
          · obtain ⟨hx2, hx5, hx1, hy2, hy5, hy1⟩ := h
            have a2 : ((x.kind : Int) != 2) = true := by simp; omega
            have a5 : ((x.kind : Int) != 5) = true := by simp; omega
            have a1 : ((x.kind : Int) != 1) = true := by simp; omega
            have b2 : ((y.kind : Int) != 2) = true := by simp; omega
            have b5 : ((y.kind : Int) != 5) = true := by simp; omega
            have b1 : ((y.kind : Int) != 1) = true := by simp; omega
            by_cases hcl : x.client = y.client
            · have hci : ((x.client : Int) == y.client) = true := by simp; omega
              clear hSt hcl hx2 hx5 hx1 hy2 hy5 hy1
              go_wp2_with fail
              refine (HAW.out _ hF10).mono ?_
              rintro e w11 ⟨rfl, hf11⟩
              go_wp2_with fail
              go_ret
              exact ⟨rfl, hF10.trans hf11⟩
            · have hci : ((x.client : Int) == y.client) = false := by simp; omega
              have hxo : x.opens = false := by cases hh : x.opens with | false => rfl | true => exact absurd (kind_opens.1 hh) (by omega)
              have hyo : y.opens = false := by cases hh : y.opens with | false => rfl | true => exact absurd (kind_opens.1 hh) (by omega)
              have g1 : stepWhy (stepTo L x) y = stepWhy L y := end_free hx1 hy1 hyo hcl
              have g2 : stepWhy (stepTo L y) x = stepWhy L x := end_free hy1 hx1 hxo (Ne.symm hcl)
              have g3 := open_swap (L := L) hx1 hy1 hxo hyo hcl 16
              have hlen3 : (stepTo L y).length ≤ 100000000 := by have := stepTo_len L y; omega
              rw [g1]
              have HST := Lib.hid hSt
              have HBx := Lib.hid hBx3
              have HBy := Lib.hid hBy3
              have hby10 := hBy3.fr hf10
              clear hSt hcl hx2 hx5 hx1 hy2 hy5 hy1 hxo hyo g1 hBx3 hBy3
              go_wp2_with ((with_reducible refine wpList_here (.load 32 (.tmp 5)) rfl ?_); refine wpList_load_box 32 (.tmp 5) rfl _ rfl _ hby10 _ Tryd.underlying32 rfl Tryd.infoEv rfl ?_)
              refine (HST.out.stepC far HE3.out HY3.out oky (by omega)).mono ?_
              rintro e w11 ⟨rfl, hS11⟩
              have hbx11 := HBx.out.fr hS11.fr
              clear hby10 kx ky jx jy zx zy
              go_wp2_with ((with_reducible refine wpList_here (.load 32 (.tmp 4)) rfl ?_); refine wpList_load_box 32 (.tmp 4) rfl _ rfl _ hbx11 _ Tryd.underlying32 rfl Tryd.infoEv rfl ?_)
              refine (hS11.stepC far HE3.out HX3.out okx hlen3).mono ?_
              rw [g2]
              rintro e w12 ⟨rfl, hS12⟩
              have HS12 := Lib.hid hS12
              clear hbx11 hS11 hS12
              go_wp2_with fail
              refine (open_c _ HS12.out.c).mono ?_
              rw [g3]
              rintro e w13 ⟨rfl, hf13⟩
              have HS13 := Lib.hid (HS12.out.keep hf13)
              clear hf13
              go_wp2_with fail
              refine (open_c _ HS13.out.a).mono ?_
              rintro e w14 ⟨rfl, hf14⟩
              have HF14 := Lib.hid (hF3.trans (HS13.out.fr.trans hf14))
              clear hf14
              go_wp2_with fail
              refine (HAW.out _ HF14.out).mono ?_
              rintro e w15 ⟨rfl, hf15⟩
              go_wp2_with fail
              go_ret
              exact ⟨rfl, HF14.out.trans hf15⟩
          all_goals
            try have a2 : ((x.kind : Int) != 2) = true := by simp; omega
            try have a5 : ((x.kind : Int) != 5) = true := by simp; omega
            try have a1 : ((x.kind : Int) != 1) = true := by simp; omega
            try have b2 : ((y.kind : Int) != 2) = true := by simp; omega
            try have b5 : ((y.kind : Int) != 5) = true := by simp; omega
            try have b1 : ((y.kind : Int) != 1) = true := by simp; omega
            try have c2 : ((x.kind : Int) != 2) = false := by simp; omega
            try have c5 : ((x.kind : Int) != 5) = false := by simp; omega
            try have c1 : ((x.kind : Int) != 1) = false := by simp; omega
            try have d2 : ((y.kind : Int) != 2) = false := by simp; omega
            try have d5 : ((y.kind : Int) != 5) = false := by simp; omega
            try have d1 : ((y.kind : Int) != 1) = false := by simp; omega
            clear h hSt
            go_wp2_with fail
            refine (HAW.out _ hF10).mono ?_
            rintro e w11 ⟨rfl, hf11⟩
            go_wp2_with fail
            go_ret
            exact ⟨rfl, hF10.trans hf11⟩
end Go.Proofs.YtdjjjnoecfbjeaaDoor
