/- event.Take. No condition but the bytes' length and the tables' content. -/
import Derived.Test.YtdjjjnoecfbjeaaDoorPEvTakeD
import Derived.Test.YtdjjjnoecfbjeaaDoorPEvPutK
import Derived.Test.YtdjjjnoecfbjeaaDoorPEvCheck
import Derived.Test.YtdjjjnoecfbjeaaDoorPOpTake
import Derived.StillTailTactics
import Derived.OrdersHeld
import Derived.Deep.Cut
set_option linter.all false
set_option linter.unusedVariables false
set_option linter.unusedSimpArgs false
set_option linter.unnecessarySimpa false
/- event.Take. No condition but the bytes' length and the tables' content. -/
namespace Go.Proofs.YtdjjjnoecfbjeaaDoor
open Go.RowKit

theorem results_ev2 {fn : Func} {p r : Tmp} (h : fn.results = #[.cell p 32, .tmp r]) (tmps : Array Value) (w : World) (g : Nat) (c : Array Value) (v : Value) (hp : tmps.getD p undef = .pointer (some ⟨g, 0, none⟩)) (hr : tmps.getD r undef = v) (hB : BoxAt w g c 32) (hc : c.size = 19) :
    (results fn tmps).run Tryd.prog w = .ok (.tuple #[.agg c, v]) w := by
  have hp' : tmps[p]?.getD undef = .pointer (some ⟨g, 0, none⟩) := by simpa using hp
  have hr' : tmps[r]?.getD undef = v := by simpa using hr
  have hl := run_loadVar_row (P := Tryd.prog) w g 32 32 c (0, 0) _ hB Tryd.underlying32 rfl (by rw [hc]; exact Tryd.infoEv)
  simp [results, h, hp', hr', asAddr, hl]
/-- What Take leaves: the event and the error. -/
def TookEv (w : World) (y : Ev × Nat) (e : Ending) (w' : World) : Prop := ∃ t r, e = .returned (.tuple #[y.1.val t r, .int .i64 y.2]) ∧ RdM w' t y.1.txn ∧ RdR w' r y.1.reads ∧ Fr w w'
theorem Ev.cells_size (x : Ev) (t r : Value) : (x.cells t r).size = 19 := rfl
theorem zeroCells_eq : zeroCells = Ev.zero.cells nil0 nil0 := rfl
theorem zero_oneCell : (Ev.zero.cells nil0 nil0).all (·.oneCell') = true := Ev.oneCell Ev.zero none none 0 0 0 0
set_option maxRecDepth 100000 in
theorem evTake_nil (w : World) : Calls Tryd.prog 29 #[.string ⟨#[]⟩] w (TookEv w (takeEv [])) := by
  have hP : ∀ (w2 : World), Fr w w2 → TookEv w (takeEv []) (.returned (.tuple #[.agg (Ev.zero.cells nil0 nil0), .int .i64 5])) w2 := fun w2 hf => ⟨nil0, nil0, rfl, RdM.nil _, RdR.nil _, hf⟩
  have HP := Lib.hid hP
  clear hP
  go_enter Tryd.func29, Tryd.ntmps29
  go_wp2_with ((with_reducible refine wpList_here (.store 32 (.tmp 2) (.tmp 13)) rfl ?_); refine wpList_store_new 32 (.tmp 2) (.tmp 13) rfl _ _ _ rfl rfl rfl Tryd.infoEv rfl zero_oneCell rfl rfl ?_)
  exact bodyPost_ret (v := .tuple #[.agg (Ev.zero.cells nil0 nil0), .int .i64 5]) (results_ev2 rfl _ _ w.heap.size _ _ rfl rfl (BoxAt.new _ _ _) rfl) rfl (HP.out _ ((Fr.refl w).alloc _))
theorem rdRaw_first (k : UInt8) (s : List UInt8) : rdRaw 0 (k :: s) 0 1 = ([k], 0, 1) := by simp [rdRaw]
theorem ofBe_single (k : UInt8) : ofBe [k] = k.toNat := by simp [ofBe]
set_option maxRecDepth 100000 in
set_option maxHeartbeats 1000000 in
theorem evTake_kind (k : UInt8) (s : List UInt8) (w : World) (hk : k.toNat < 1 ∨ 7 < k.toNat) (hs : (k :: s).length < 1000000) : Calls Tryd.prog 29 #[.string ⟨(k :: s).toArray⟩] w (TookEv w (takeEv (k :: s))) := by
  have ht : takeEv (k :: s) = (.zero, 4) := if_pos hk
  rw [ht]
  have hP : ∀ (w2 : World), Fr w w2 → TookEv w (.zero, 4) (.returned (.tuple #[.agg (Ev.zero.cells nil0 nil0), .int .i64 4])) w2 := fun w2 hf => ⟨nil0, nil0, rfl, RdM.nil _, RdR.nil _, hf⟩
  have HP := Lib.hid hP
  have HOV := Lib.hid (fun W => Over_c (k :: s) W (by simp at hs ⊢; omega))
  have h1 := fun p W h => rU8_c p 0 0 (k :: s) W h
  rw [rdRaw_first, ofBe_single] at h1
  have H1 := Lib.hid h1
  have HO := Lib.hid (fun W => of_no (k.toNat : Int) W (by omega))
  clear hP ht h1 hk hs
  go_enter Tryd.func29, Tryd.ntmps29
  go_wp2_with fail
  refine (HOV.out _).mono ?_
  rintro e w1 ⟨p, rfl, hr1, hf1, hp⟩
  go_wp2_with fail
  refine (H1.out p _ hr1).mono ?_
  rintro e w2 ⟨rfl, hr2, hch2⟩
  have hA := BoxAt.new w (Ev.zero.cells nil0 nil0) 32
  have hp' : w.heap.size < p := by simp at hp; omega
  have hA2 := (hA.fr hf1).chp hch2 (by omega)
  have hfr2 : Fr w w2 := Chp.fr (((Fr.refl w).alloc _).trans hf1) hch2 (by omega)
  clear hA hr1 hf1 hr2 hch2
  go_wp2_with ((with_reducible refine wpList_here (.store 32 (.tmp 5) (.tmp 18)) rfl ?_); refine wpList_store_new 32 (.tmp 5) (.tmp 18) rfl _ _ _ rfl rfl rfl Tryd.infoEv rfl (Ev.oneCell ⟨k.toNat, 0, 0, .zero, 0, 0, [], [], .zero⟩ none none 0 0 0 0) rfl rfl ?_)
  refine (HO.out _).mono ?_
  rintro e w3 ⟨rfl, hb3⟩
  have hA3 := (hA2.alloc _).fr hb3
  have hfr3 : Fr w w3 := (hfr2.alloc _).trans hb3
  have hA4 := hA3.alloc (.cells #[.nilFunc, .nilFunc, .nilFunc, .nilFunc] 89)
  have hz3 := hA3.lt
  clear hA2 hb3
  go_wp2_with (first | ((with_reducible refine wpList_here (.store 89 (.tmp 6) (.tmp 23)) rfl ?_); refine wpList_store_new 89 (.tmp 6) (.tmp 23) rfl _ _ _ rfl rfl rfl Tryd.info67 rfl rfl rfl rfl ?_) | ((with_reducible refine wpList_here (.store 32 (.tmp 2) (.tmp 27)) rfl ?_); refine wpList_store_old 32 (.tmp 2) (.tmp 27) rfl w.heap.size _ _ rfl rfl hA4 Tryd.infoEv rfl zero_oneCell rfl rfl ?_; rintro w4 hR; have hB4 := hR.box; have hfr4 := hR.fr (hfr3.alloc _) (Nat.le_refl _)))
  exact bodyPost_ret (v := .tuple #[.agg (Ev.zero.cells nil0 nil0), .int .i64 4]) (results_ev2 rfl _ _ w.heap.size _ _ rfl rfl hB4 rfl) rfl (HP.out _ hfr4)
end Go.Proofs.YtdjjjnoecfbjeaaDoor

/- umpireref05.body of kinds 2 and 3. No condition but the bytes' length. -/
namespace Go.Proofs.YtdjjjnoecfbjeaaDoor
open Go.RowKit

/-- What body leaves: the event, the error. -/
def BodyQ (p : Nat) (W : World) (y : Ev × Nat) (e' : Ending) (W' : World) : Prop := ∃ t r, e' = .returned (.tuple #[y.1.val t r, .int .i64 y.2]) ∧ Stays W W' t r y.1 ∧ Chp p W W'
end Go.Proofs.YtdjjjnoecfbjeaaDoor

/- umpireref05.body of kinds 2, 3, 4, 7. No condition but the bytes' length. -/
namespace Go.Proofs.YtdjjjnoecfbjeaaDoor
open Go.RowKit

section
variable {P : Program} {ops : Array Oper} {rest : List Oper} {o : Oper} {a : Act} {Q : Act → Prop}
theorem wpStill_load_box {w : World} (ty : TypeId) (x : Operand) (ho : o.op = .load ty x)
    (g : Nat) (hx : a.eval x = .pointer (some ⟨g, 0, none⟩)) (cs : Array Value) (hg : BoxAt w g cs ty) (d : TypeDesc)
    (hu : P.underlying ty = some d) (hd : (match d with | .struct _ | .array _ _ => true | _ => false) = true) (hi : (P.info? ty).map (·.size) = some cs.size)
    (hw : Region.wanted o (yielded ops a.tmps) = true) (h : wpStill P ops w Q rest (a.put o.dst (.agg cs))) : wpStill P ops w Q (o :: rest) a :=
  wpStill_step fun K hK => by
    simp only [hw, if_true]
    have hl := run_loadVar_row (P := P) w g ty ty cs (0, 0) d hg hu hd hi
    unfold Oper.still execOp
    simp only [ho, hx, Instr.loadAt, Instr.sureAddr, Sem.run_bind, Sem.run_pure, Result.andThen_ok, hl]
    exact ⟨rfl, hK _ h⟩
end
theorem wp_region_st {P : Program} {id : Nat} {Q : Exit → Act → World → Prop} {a : Act} {w : World} {l : List Oper} (n : Nat) (hm : P.follows .mixedOrders = true) (hB : Region.lexTailB .any l.toArray n = true)
    (h : wpStill P l.toArray w.drew (fun a' => wpList P l.toArray Q (l.drop n) a' w.drew) (l.take n) a) : (Code.region id l.toArray true).wp P Q a w := wp_region_still_tail n hm hB h
theorem yieldsIf_load_box {P : Program} {ops : Array Oper} {S : World → Prop} {o : Oper} {a : Act} (hw : Region.wanted o (yielded ops a.tmps) = true) (ty : TypeId) (x : Operand) (ho : o.op = .load ty x)
    (g : Nat) (hx : a.eval x = .pointer (some ⟨g, 0, none⟩)) (cs : Array Value) (hS : ∀ w, S w → BoxAt w g cs ty) (d : TypeDesc)
    (hu : P.underlying ty = some d) (hd : (match d with | .struct _ | .array _ _ => true | _ => false) = true) (hi : (P.info? ty).map (·.size) = some cs.size) : YieldsIf P ops S o (.agg cs) a :=
  .inl ⟨hw, fun w hs => by
    have hl := run_loadVar_row (P := P) w g ty ty cs (0, 0) d (hS w hs) hu hd hi
    unfold execOp
    simp only [ho, hx, Instr.loadAt, Instr.sureAddr, Sem.run_bind, Sem.run_pure, Result.andThen_ok, hl]⟩
theorem wpOp_store_old {P : Program} {ops : Array Oper} {Q : Exit → Act → World → Prop} {K : Act → World → Prop} {i : Nat} {o : Oper} {a : Act} {w : World} (ho' : ops[i]? = some o) (hw : Region.wanted o (yielded ops a.tmps) = true) (ty : TypeId) (x y : Operand) (ho : o.op = .store ty x y) (b : Nat) (c c' : Array Value)
    (hx : a.eval x = .pointer (some ⟨b, 0, none⟩)) (hy : a.eval y = .agg c') (hB : BoxAt w b c ty) (hi : (P.info? ty).map (·.size) = some c'.size) (hs : c.size = c'.size) (h1 : c'.all (·.oneCell') = true) (hdst : o.dst = none)
    (h : ∀ w', Relaid b c' ty w w' → K a w') : wpOp P ops Q i K a w := by
  have hst : (Instr.storeAt ty (.pointer (some ⟨b, 0, none⟩)) (.agg c')).run P w = .ok () (w.setRow b c') := by
    simp only [Instr.storeAt, Instr.sureAddr, Sem.run_bind, Sem.run_pure, Result.andThen]
    exact run_storeVar_row w b ty ty c c' hB hi hs h1
  have hp : a.put o.dst undef = a := by rw [hdst]; rfl
  unfold wpOp
  simp only [ho', hw, if_true]
  left
  unfold Oper.wp execOp
  simp only [ho, hx, hy, Sem.run_bind, hst, Result.andThen_ok, Sem.run_pure]
  show K (a.put o.dst undef) _
  rw [hp]
  exact h _ ⟨rfl, rfl, rfl, by simp, setRow_heap w b c c' ty _ hB, fun k hk => setRow_other w b k c' hk⟩
theorem wpOp_assign {P : Program} {ops : Array Oper} {Q : Exit → Act → World → Prop} {K : Act → World → Prop} {i : Nat} {o : Oper} {t : Array Value} {df : List Deferred} {w : World} (ho' : ops[i]? = some o) (hw : Region.wanted o (yielded ops t) = true) (x : Operand) (ho : o.op = .assign x) (dst : Tmp) (hd : o.dst = some dst) (v : Value) (hv : (⟨t, df⟩ : Act).eval x = v)
    (h : K ⟨t.setIfInBounds dst v, df⟩ w) : wpOp P ops Q i K ⟨t, df⟩ w := by
  subst hv
  have h : K ((⟨t, df⟩ : Act).put o.dst ((⟨t, df⟩ : Act).eval x)) w := by rw [hd]; exact h
  unfold wpOp
  simp only [ho', hw, if_true]
  left
  unfold Oper.wp execOp
  simp only [ho]
  exact h
theorem yieldsIf_load {P : Program} {ops : Array Oper} {S : World → Prop} {o : Oper} {a : Act} (hw : Region.wanted o (yielded ops a.tmps) = true) (ty : TypeId) (x : Operand) (ho : o.op = .load ty x)
    (g : Addr) (hx : a.eval x = .pointer (some g)) (v : Value) (hS : ∀ w, S w → w.cell? g = some v) (hl : ∀ w, w.cell? g = some v → (Instr.loadAt ty (.pointer (some g))).run P w = .ok v w) : YieldsIf P ops S o v a :=
  .inl ⟨hw, fun w hs => by
    have := hl w (hS w hs)
    unfold execOp
    simp only [ho, hx, Sem.run_bind, Sem.run_pure, Result.andThen_ok, this]⟩
theorem wpAnyH_takeD {P : Program} {ops : Array Oper} {md : Region.Mode} {Q : Exit → Act → World → Prop} {S : World → Prop} (i : Nat) (dst : Tmp) {oi : Oper} {v : Value} {fuel : Nat} {listed : Array Bool} {t : Array Value} {df : List Deferred} {w : World} (hi : ops[i]? = some oi) (hd : oi.dst = some dst)
    (hs : Region.noSelect ops = true) (hf : Region.free md ops listed i = true) (hr : (Region.ready md ops listed).contains i = true)
    (hQ : ∀ c a w, Q (.panic c) (a.put oi.dst v) w → Q (.panic c) a w) (hy : YieldsIf P ops S oi v ⟨t, df⟩) (hS : S w)
    (h : wpAnyH P md ops Q S fuel (listed.setIfInBounds i true) ⟨t.setIfInBounds dst v, df⟩ w) : wpAnyH P md ops Q S (fuel + 1) listed ⟨t, df⟩ w :=
  wpAnyH_take hi hs hf hr hQ hy hS (by rw [hd]; exact h)
/-- What body leaves: the event, the error. -/
def BodyP (p : Nat) (W : World) (y : Ev × Nat) (e' : Ending) (W' : World) : Prop := ∃ t r, e' = .returned (.tuple #[y.1.val t r, .int .i64 y.2]) ∧ Stays W W' t r y.1 ∧ Chp p W W'
end Go.Proofs.YtdjjjnoecfbjeaaDoor

/- umpireref05.body of kind 5. No condition. -/
namespace Go.Proofs.YtdjjjnoecfbjeaaDoor
open Go.RowKit

/-- Between the rounds. -/
structure RTxnSt (p : Nat) (s : List UInt8) (x : Ev) (w : World) (e at_ : Nat) (acc : List Mic) (v : Value) (wr : World) : Prop where
  rd : RfAt wr p e s at_
  box : BoxAt wr w.heap.size (({ x with txn := acc } : Ev).cells v nil0) 32
  zero : BoxAt wr (w.heap.size + 1) (Ev.zero.cells nil0 nil0) 32
  own : wr.ownsRow (w.heap.size + 2) 34 3 v acc.length (micCells acc)
  ch : Chp p w wr
theorem RTxnSt.fin {p : Nat} {s : List UInt8} {x : Ev} {w : World} {e at_ : Nat} {acc : List Mic} {v : Value} {wr wz : World} (h : RTxnSt p s x w e at_ acc v wr) {c : Array Value} {t : TypeId} (hR : Relaid (w.heap.size + 1) c t wr.drew wz) : Chp p w wz :=
  ⟨hR.os.trans h.ch.os, hR.tape.trans h.ch.tape, hR.output.trans h.ch.output, by rw [hR.size]; exact h.ch.size, fun k hk h1 h2 => (hR.other k (by omega)).trans (h.ch.block k hk h1 h2)⟩
theorem RTxnSt.read {p : Nat} {s : List UInt8} {x : Ev} {w : World} {e at_ e1 at1 : Nat} {acc : List Mic} {v : Value} {wr w1 : World} (h : RTxnSt p s x w e at_ acc v wr) (hr : RfAt w1 p e1 s at1) (hc : Chp p wr w1) (hp : p < w.heap.size) : RTxnSt p s x w e1 at1 acc v w1 :=
  ⟨hr, h.box.chp hc (by omega), h.zero.chp hc (by omega), ownsRow_chp h.own (by omega) hc, h.ch.trans hc⟩
theorem RTxnSt.fr {p : Nat} {s : List UInt8} {x : Ev} {w : World} {e at_ : Nat} {acc : List Mic} {v : Value} {wr w1 : World} (h : RTxnSt p s x w e at_ acc v wr) (f : Fr wr w1) : RTxnSt p s x w e at_ acc v w1 :=
  ⟨h.rd.keep f, h.box.fr f, h.zero.fr f, h.own.kept (row := none) ⟨f.os, f.tape, f.output, f.size, fun k hk _ => f.block hk⟩ (by cases v.ownBlock <;> simp), h.ch.trans f.chp⟩
theorem RTxnSt.setNew {p : Nat} {s : List UInt8} {x : Ev} {w : World} {e at_ : Nat} {acc : List Mic} {v : Value} {wr : World} (h : RTxnSt p s x w e at_ acc v wr) {b : Nat} (hp : p < w.heap.size) (hb : w.heap.size + 2 ≤ b) (hbv : v.ownBlock ≠ some b) (o : Nat) (u : Value) : RTxnSt p s x w e at_ acc v (wr.setCell ⟨b, o, none⟩ u) :=
  ⟨h.rd.setOther (by omega) o u, h.box.set (by simp; omega) u, h.zero.set (by simp; omega) u, ownsRow_setCell_other h.own hbv u, h.ch.setAt (by omega) o u⟩
theorem RTxnSt.push {p : Nat} {s : List UInt8} {x : Ev} {w : World} {e at_ : Nat} {acc : List Mic} {v v' : Value} {wr w1 : World} {m : Mic} (h : RTxnSt p s x w e at_ acc v wr) (hp : p < w.heap.size) (hg : wr.grownBy w1 v.ownBlock)
    (hown : w1.ownsRow (w.heap.size + 2) 34 3 v' (acc.length + 1) (micCells acc ++ m.cells)) : RTxnSt p s x w e at_ (acc ++ [m]) v' (w1.setCell ⟨w.heap.size, 10, none⟩ v') := by
  have hne : ∀ b, b < w.heap.size + 2 → some b ≠ v.ownBlock := fun b hb e => by have := (h.own.lt b e.symm).1; omega
  have hpb : w1.heap[p]? = wr.heap[p]? := hg.block p h.rd.lt (hne p (by omega))
  have hqb : BoxAt w1 w.heap.size (({ x with txn := acc } : Ev).cells v nil0) 32 := (hg.block _ h.box.lt (hne _ (by omega))).trans h.box
  have hzb : BoxAt w1 (w.heap.size + 1) (Ev.zero.cells nil0 nil0) 32 := (hg.block _ h.zero.lt (hne _ (by omega))).trans h.zero
  refine ⟨(h.rd.block hpb).setOther (by omega) _ _, hqb.setAt 10 v', hzb.set (by simp) _, ?_, ?_⟩
  · rw [List.length_append, micCells_snoc]
    exact ownsRow_setCell_below hown (a := ⟨w.heap.size, 10, none⟩) (by simp) _
  · refine Chp.setAt (q := w.heap.size) ⟨hg.os.trans h.ch.os, hg.tape.trans h.ch.tape, hg.output.trans h.ch.output, Nat.le_trans h.ch.size hg.size, fun k hk h1 h2 => ?_⟩ (Nat.le_refl _) 10 v'
    exact (hg.block k (Nat.lt_of_lt_of_le hk h.ch.size) (hne k (by omega))).trans (h.ch.block k hk h1 h2)
theorem own_slice {w : World} {base : Nat} {e : TypeId} {size : Nat} {v : Value} {n : Nat} {xs : List Value} (h : w.ownsRow base e size v n xs) : ∃ a k c, v = .slice a k c := by
  obtain ⟨a, c, hv, _⟩ := (SlAt.own h).form
  exact ⟨a, _, c, hv⟩
end Go.Proofs.YtdjjjnoecfbjeaaDoor

/- umpireref05.body of kind 6. No condition. -/
namespace Go.Proofs.YtdjjjnoecfbjeaaDoor
open Go.RowKit

/-- Between the rounds. -/
structure RReadsSt (p : Nat) (s : List UInt8) (x : Ev) (w : World) (e at_ : Nat) (acc : List (List Nat)) (v : Value) (vs : List Value) (wr : World) : Prop where
  rd : RfAt wr p e s at_
  box : BoxAt wr w.heap.size (({ x with reads := acc } : Ev).cells nil0 v) 32
  zero : BoxAt wr (w.heap.size + 1) (Ev.zero.cells nil0 nil0) 32
  own : wr.ownsRow (w.heap.size + 2) 35 1 v acc.length vs
  len : vs.length = acc.length
  inner : ∀ (i : Nat) (l : List Nat) (u : Value), acc[i]? = some l → vs[i]? = some u → SlAt wr (fun b => some b ≠ v.ownBlock ∧ w.heap.size + 2 ≤ b) u l.length (u16Cells l)
  ch : Chp p w wr
theorem RReadsSt.fin {p : Nat} {s : List UInt8} {x : Ev} {w : World} {e at_ : Nat} {acc : List (List Nat)} {v : Value} {vs : List Value} {wr wz : World} (h : RReadsSt p s x w e at_ acc v vs wr) {c : Array Value} {t : TypeId} (hR : Relaid (w.heap.size + 1) c t wr.drew wz) : Chp p w wz :=
  ⟨hR.os.trans h.ch.os, hR.tape.trans h.ch.tape, hR.output.trans h.ch.output, by rw [hR.size]; exact h.ch.size, fun k hk h1 h2 => (hR.other k (by omega)).trans (h.ch.block k hk h1 h2)⟩
theorem RReadsSt.read {p : Nat} {s : List UInt8} {x : Ev} {w : World} {e at_ e1 at1 : Nat} {acc : List (List Nat)} {v : Value} {vs : List Value} {wr w1 : World} (h : RReadsSt p s x w e at_ acc v vs wr) (hr : RfAt w1 p e1 s at1) (hc : Chp p wr w1) (hp : p < w.heap.size) : RReadsSt p s x w e1 at1 acc v vs w1 :=
  ⟨hr, h.box.chp hc (by omega), h.zero.chp hc (by omega), ownsRow_chp h.own (by omega) hc, h.len, fun i l u hl hu => (h.inner i l u hl hu).keep hc.size fun k hz hk => hc.block k hk (by have := hz.2; omega) (by simp [Value.ownBlock]), h.ch.trans hc⟩
theorem RReadsSt.fr {p : Nat} {s : List UInt8} {x : Ev} {w : World} {e at_ : Nat} {acc : List (List Nat)} {v : Value} {vs : List Value} {wr w1 : World} (h : RReadsSt p s x w e at_ acc v vs wr) (f : Fr wr w1) : RReadsSt p s x w e at_ acc v vs w1 :=
  ⟨h.rd.keep f, h.box.fr f, h.zero.fr f, h.own.kept (row := none) ⟨f.os, f.tape, f.output, f.size, fun k hk _ => f.block hk⟩ (by cases v.ownBlock <;> simp), h.len, fun i l u hl hu => (h.inner i l u hl hu).fr f, h.ch.trans f.chp⟩
theorem RReadsSt.push {p : Nat} {s : List UInt8} {x : Ev} {w : World} {e at_ gg cap : Nat} {acc : List (List Nat)} {v u : Value} {vs : List Value} {wr w1 : World} {l : List Nat} (h : RReadsSt p s x w e at_ acc v vs wr) (hp : p < w.heap.size) (hg : wr.grownBy w1 v.ownBlock)
    (hown : w1.ownsRow (w.heap.size + 2) 35 1 (.slice (some ⟨gg, 0, none⟩) (acc.length + 1) cap) (acc.length + 1) (vs ++ [u])) (hat : v.ownBlock = some gg ∨ gg = wr.heap.size)
    (hu : SlAt wr (fun b => some b ≠ v.ownBlock ∧ w.heap.size + 2 ≤ b) u l.length (u16Cells l)) :
    RReadsSt p s x w e at_ (acc ++ [l]) (.slice (some ⟨gg, 0, none⟩) (acc.length + 1) cap) (vs ++ [u]) (w1.setCell ⟨w.heap.size, 11, none⟩ (.slice (some ⟨gg, 0, none⟩) (acc.length + 1) cap)) := by
  have hne : ∀ b, b < w.heap.size + 2 → some b ≠ v.ownBlock := fun b hb e => by have := (h.own.lt b e.symm).1; omega
  have hpb : w1.heap[p]? = wr.heap[p]? := hg.block p h.rd.lt (hne p (by omega))
  have hqb : BoxAt w1 w.heap.size (({ x with reads := acc } : Ev).cells nil0 v) 32 := (hg.block _ h.box.lt (hne _ (by omega))).trans h.box
  have hzb : BoxAt w1 (w.heap.size + 1) (Ev.zero.cells nil0 nil0) 32 := (hg.block _ h.zero.lt (hne _ (by omega))).trans h.zero
  have hin : ∀ (l : List Nat) (u : Value), SlAt wr (fun b => some b ≠ v.ownBlock ∧ w.heap.size + 2 ≤ b) u l.length (u16Cells l) → SlAt (w1.setCell ⟨w.heap.size, 11, none⟩ (.slice (some ⟨gg, 0, none⟩) (acc.length + 1) cap)) (fun b => some b ≠ (Value.slice (some ⟨gg, 0, none⟩) (acc.length + 1) cap).ownBlock ∧ w.heap.size + 2 ≤ b) u l.length (u16Cells l) := fun l u hl => by
    obtain ⟨a, c, rfl, h1, h2, h3⟩ := hl
    refine ⟨a, c, rfl, h1, h2, ?_⟩
    rcases h3 with h3 | ⟨b, off, rfl, ⟨hz1, hz2⟩, hlt, hc⟩
    · exact .inl h3
    · refine .inr ⟨b, off, rfl, ⟨?_, hz2⟩, ?_, fun j y hj => ?_⟩
      · rcases hat with hat | hat
        · rw [hat] at hz1; simpa [Value.ownBlock] using hz1
        · subst hat; simp [Value.ownBlock]; omega
      · simp; exact Nat.lt_of_lt_of_le hlt hg.size
      · have e1 : (w1.setCell ⟨w.heap.size, 11, none⟩ (.slice (some ⟨gg, 0, none⟩) (acc.length + 1) cap)).heap[b]? = w1.heap[b]? := Below.heap_setCell w1 _ _ b (fun e => by simp at e; omega)
        exact (World.cell?_of_block (a := ⟨b, off + j, none⟩) (e1.trans (hg.block b hlt hz1))).trans (hc j y hj)
  refine ⟨(h.rd.block hpb).setOther (by omega) _ _, hqb.setAt 11 _, hzb.set (by simp) _, ?_, ?_, ?_, ?_⟩
  · rw [List.length_append]
    exact ownsRow_setCell_below hown (a := ⟨w.heap.size, 11, none⟩) (by simp) _
  · simp [h.len]
  · intro i l' u' hl hu'
    by_cases hi : i < acc.length
    · rw [List.getElem?_append_left hi] at hl
      rw [List.getElem?_append_left (by rw [h.len]; exact hi)] at hu'
      exact hin _ _ (h.inner i l' u' hl hu')
    · by_cases hi2 : i = acc.length
      · subst hi2
        rw [List.getElem?_append_right (Nat.le_refl _)] at hl
        rw [List.getElem?_append_right (by rw [h.len]; exact Nat.le_refl _)] at hu'
        simp at hl
        simp [h.len] at hu'
        subst hl hu'
        exact hin _ _ hu
      · have : (acc ++ [l]).length ≤ i := by simp; omega
        rw [List.getElem?_eq_none this] at hl
        cases hl
  · refine Chp.setAt (q := w.heap.size) ⟨hg.os.trans h.ch.os, hg.tape.trans h.ch.tape, hg.output.trans h.ch.output, Nat.le_trans h.ch.size hg.size, fun k hk h1 h2 => ?_⟩ (Nat.le_refl _) 11 _
    exact (hg.block k (Nat.lt_of_lt_of_le hk h.ch.size) (hne k (by omega))).trans (h.ch.block k hk h1 h2)
theorem RReadsSt.done {p : Nat} {s : List UInt8} {x : Ev} {w : World} {e at_ : Nat} {acc : List (List Nat)} {v : Value} {vs : List Value} {wr W2 : World} (h : RReadsSt p s x w e at_ acc v vs wr) (h1 : wr.heap.size ≤ W2.heap.size) (h2 : ∀ k, w.heap.size + 2 ≤ k → k < wr.heap.size → W2.heap[k]? = wr.heap[k]?) : RdR W2 v acc :=
  ⟨vs, h.len, ((SlAt.own h.own).keep h1 h2).mono fun _ _ => trivial, fun i l u hl hu => ((h.inner i l u hl hu).keep h1 fun k hz hk => h2 k hz.2 hk).mono fun _ _ => trivial⟩
end Go.Proofs.YtdjjjnoecfbjeaaDoor
