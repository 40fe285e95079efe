/- umpireref05.body of kinds 2, 3, 4, 7. No condition but the bytes' length. -/
import Derived.Test.YtgbaanioppblhaaDoorPRefMay
import Derived.Test.YtgbaanioppblhaaDoorPEvTakeE
import Derived.StillTailTactics
import Derived.OrdersHeld
import Derived.Test.YtgbaanioppblhaaDoorPEvCheck
import Derived.Deep.Cut
import Derived.Test.YtgbaanioppblhaaDoorPEvTakeD
set_option linter.all false
set_option linter.unusedVariables false
set_option linter.unusedSimpArgs false
set_option linter.unnecessarySimpa false
/- umpireref05.body of kinds 2, 3, 4, 7. No condition but the bytes' length. -/
namespace Go.Proofs.YtgbaanioppblhaaDoor
open Go.RowKit

section
variable {P : Program} {ops : Array Oper} {rest : List Oper} {o : Oper} {a : Act} {Q : Act → Prop}
theorem wpStill_load_box {w : World} (ty : TypeId) (x : Operand) (ho : o.op = .load ty x)
    (g : Nat) (hx : a.eval x = .pointer (some ⟨g, 0, none⟩)) (cs : Array Value) (hg : BoxAt w g cs ty) (d : TypeDesc)
    (hu : P.underlying ty = some d) (hd : (match d with | .struct _ | .array _ _ => true | _ => false) = true) (hi : (P.info? ty).map (·.size) = some cs.size)
    (hw : Region.wanted o (yielded ops a.tmps) = true) (h : wpStill P ops w Q rest (a.put o.dst (.agg cs))) : wpStill P ops w Q (o :: rest) a :=
  wpStill_step fun K hK => by
    simp only [hw, if_true]
    have hl := run_loadVar_row (P := P) w g ty ty cs (0, 0) d hg hu hd hi
    unfold Oper.still execOp
    simp only [ho, hx, Instr.loadAt, Instr.sureAddr, Sem.run_bind, Sem.run_pure, Result.andThen_ok, hl]
    exact ⟨rfl, hK _ h⟩
end
theorem wp_region_st {P : Program} {id : Nat} {Q : Exit → Act → World → Prop} {a : Act} {w : World} {l : List Oper} (n : Nat) (hm : P.follows .mixedOrders = true) (hB : Region.lexTailB .any l.toArray n = true)
    (h : wpStill P l.toArray w.drew (fun a' => wpList P l.toArray Q (l.drop n) a' w.drew) (l.take n) a) : (Code.region id l.toArray true).wp P Q a w := wp_region_still_tail n hm hB h
theorem yieldsIf_load_box {P : Program} {ops : Array Oper} {S : World → Prop} {o : Oper} {a : Act} (hw : Region.wanted o (yielded ops a.tmps) = true) (ty : TypeId) (x : Operand) (ho : o.op = .load ty x)
    (g : Nat) (hx : a.eval x = .pointer (some ⟨g, 0, none⟩)) (cs : Array Value) (hS : ∀ w, S w → BoxAt w g cs ty) (d : TypeDesc)
    (hu : P.underlying ty = some d) (hd : (match d with | .struct _ | .array _ _ => true | _ => false) = true) (hi : (P.info? ty).map (·.size) = some cs.size) : YieldsIf P ops S o (.agg cs) a :=
  .inl ⟨hw, fun w hs => by
    have hl := run_loadVar_row (P := P) w g ty ty cs (0, 0) d (hS w hs) hu hd hi
    unfold execOp
    simp only [ho, hx, Instr.loadAt, Instr.sureAddr, Sem.run_bind, Sem.run_pure, Result.andThen_ok, hl]⟩
theorem wpOp_store_old {P : Program} {ops : Array Oper} {Q : Exit → Act → World → Prop} {K : Act → World → Prop} {i : Nat} {o : Oper} {a : Act} {w : World} (ho' : ops[i]? = some o) (hw : Region.wanted o (yielded ops a.tmps) = true) (ty : TypeId) (x y : Operand) (ho : o.op = .store ty x y) (b : Nat) (c c' : Array Value)
    (hx : a.eval x = .pointer (some ⟨b, 0, none⟩)) (hy : a.eval y = .agg c') (hB : BoxAt w b c ty) (hi : (P.info? ty).map (·.size) = some c'.size) (hs : c.size = c'.size) (h1 : c'.all (·.oneCell') = true) (hdst : o.dst = none)
    (h : ∀ w', Relaid b c' ty w w' → K a w') : wpOp P ops Q i K a w := by
  have hst : (Instr.storeAt ty (.pointer (some ⟨b, 0, none⟩)) (.agg c')).run P w = .ok () (w.setRow b c') := by
    simp only [Instr.storeAt, Instr.sureAddr, Sem.run_bind, Sem.run_pure, Result.andThen]
    exact run_storeVar_row w b ty ty c c' hB hi hs h1
  have hp : a.put o.dst undef = a := by rw [hdst]; rfl
  unfold wpOp
  simp only [ho', hw, if_true]
  left
  unfold Oper.wp execOp
  simp only [ho, hx, hy, Sem.run_bind, hst, Result.andThen_ok, Sem.run_pure]
  show K (a.put o.dst undef) _
  rw [hp]
  exact h _ ⟨rfl, rfl, rfl, by simp, setRow_heap w b c c' ty _ hB, fun k hk => setRow_other w b k c' hk⟩
theorem wpOp_assign {P : Program} {ops : Array Oper} {Q : Exit → Act → World → Prop} {K : Act → World → Prop} {i : Nat} {o : Oper} {t : Array Value} {df : List Deferred} {w : World} (ho' : ops[i]? = some o) (hw : Region.wanted o (yielded ops t) = true) (x : Operand) (ho : o.op = .assign x) (dst : Tmp) (hd : o.dst = some dst) (v : Value) (hv : (⟨t, df⟩ : Act).eval x = v)
    (h : K ⟨t.setIfInBounds dst v, df⟩ w) : wpOp P ops Q i K ⟨t, df⟩ w := by
  subst hv
  have h : K ((⟨t, df⟩ : Act).put o.dst ((⟨t, df⟩ : Act).eval x)) w := by rw [hd]; exact h
  unfold wpOp
  simp only [ho', hw, if_true]
  left
  unfold Oper.wp execOp
  simp only [ho]
  exact h
theorem yieldsIf_load {P : Program} {ops : Array Oper} {S : World → Prop} {o : Oper} {a : Act} (hw : Region.wanted o (yielded ops a.tmps) = true) (ty : TypeId) (x : Operand) (ho : o.op = .load ty x)
    (g : Addr) (hx : a.eval x = .pointer (some g)) (v : Value) (hS : ∀ w, S w → w.cell? g = some v) (hl : ∀ w, w.cell? g = some v → (Instr.loadAt ty (.pointer (some g))).run P w = .ok v w) : YieldsIf P ops S o v a :=
  .inl ⟨hw, fun w hs => by
    have := hl w (hS w hs)
    unfold execOp
    simp only [ho, hx, Sem.run_bind, Sem.run_pure, Result.andThen_ok, this]⟩
theorem wpAnyH_takeD {P : Program} {ops : Array Oper} {md : Region.Mode} {Q : Exit → Act → World → Prop} {S : World → Prop} (i : Nat) (dst : Tmp) {oi : Oper} {v : Value} {fuel : Nat} {listed : Array Bool} {t : Array Value} {df : List Deferred} {w : World} (hi : ops[i]? = some oi) (hd : oi.dst = some dst)
    (hs : Region.noSelect ops = true) (hf : Region.free md ops listed i = true) (hr : (Region.ready md ops listed).contains i = true)
    (hQ : ∀ c a w, Q (.panic c) (a.put oi.dst v) w → Q (.panic c) a w) (hy : YieldsIf P ops S oi v ⟨t, df⟩) (hS : S w)
    (h : wpAnyH P md ops Q S fuel (listed.setIfInBounds i true) ⟨t.setIfInBounds dst v, df⟩ w) : wpAnyH P md ops Q S (fuel + 1) listed ⟨t, df⟩ w :=
  wpAnyH_take hi hs hf hr hQ hy hS (by rw [hd]; exact h)
/-- What body leaves: the event, the error. -/
def BodyP (p : Nat) (W : World) (y : Ev × Nat) (e' : Ending) (W' : World) : Prop := ∃ t r, e' = .returned (.tuple #[y.1.val t r, .int .i64 y.2]) ∧ Stays W W' t r y.1 ∧ Chp p W W'
set_option maxRecDepth 100000 in
set_option maxHeartbeats 8000000 in
theorem rBody_none (p e at_ : Nat) (s : List UInt8) (x : Ev) (w : World) (h : RfAt w p e s at_) (hk : x.kind = 4 ∨ x.kind = 7) (ht : x.txn = []) (hr : x.reads = []) :
    Calls Tryd.prog 42 #[x.val nil0 nil0, .pointer (some ⟨p, 0, none⟩)] w (BodyP p w (x, e)) := by
  have h2 : ((x.kind : Int) == 2) = false := by simp; omega
  have h3 : ((x.kind : Int) == 3) = false := by simp; omega
  have h5 : ((x.kind : Int) == 5) = false := by simp; omega
  have h6 : ((x.kind : Int) == 6) = false := by simp; omega
  have hB := (BoxAt.new w (x.cells nil0 nil0) 32).alloc (.cells (Ev.zero.cells nil0 nil0) 32)
  have hZ := BoxAt.new' (w.alloc (.cells (x.cells nil0 nil0) 32)) (Ev.zero.cells nil0 nil0) 32 (w.heap.size + 1) (by simp)
  have hrd := h.keep (((Fr.refl w).alloc (.cells (x.cells nil0 nil0) 32)).alloc (.cells (Ev.zero.cells nil0 nil0) 32))
  have c2 := h.c2
  have c2' := hrd.c2
  have hp := h.lt
  have hP : ∀ w2, Relaid (w.heap.size + 1) (x.cells nil0 nil0) 32 (((w.alloc (.cells (x.cells nil0 nil0) 32)).alloc (.cells (Ev.zero.cells nil0 nil0) 32)).drew) w2 → BodyP p w (x, e) (.returned (.tuple #[.agg (x.cells nil0 nil0), .int .i64 e])) w2 := fun w2 hR =>
    ⟨nil0, nil0, rfl, fun _ _ _ => ⟨by rw [ht]; exact RdM.nil _, by rw [hr]; exact RdR.nil _⟩, (hR.fr ((((Fr.refl w).alloc _).alloc _).drew) (by omega)).chp⟩
  have HP := Lib.hid hP
  unfold Ev.val
  clear hP h hrd hk ht hr
  go_enter Tryd.func42, Tryd.ntmps42
  go_wp2_with fail
  refine wp_region_held (S := fun W' => BoxAt W' w.heap.size (x.cells nil0 nil0) 32 ∧ W'.cell? ⟨p, 2, none⟩ = some (.int .i64 e) ∧ ∃ c, c.size = 19 ∧ BoxAt W' (w.heap.size + 1) c 32) (by kernel_rfl) ?_
  refine wpAnyH_takeD 0 115 rfl rfl (by kernel_rfl) (by kernel_rfl) (by kernel_rfl) (fun _ _ _ h => h) (yieldsIf_load_box rfl 32 (.tmp 2) rfl w.heap.size rfl (x.cells nil0 nil0) (fun W hS => hS.1) _ Tryd.underlying32 rfl Tryd.infoEv) ⟨hB, c2', _, rfl, hZ⟩ ?_
  simp only [List.setIfInBounds_toArray, List.set_cons_succ, List.set_cons_zero]
  refine wpAnyH_takeD 1 116 (v := .pointer (some ⟨p, 0, none⟩)) rfl rfl (by kernel_rfl) (by kernel_rfl) (by kernel_rfl) (fun _ _ _ h => h) (.inl ⟨rfl, fun W hS => rfl⟩) ⟨hB, c2', _, rfl, hZ⟩ ?_
  simp only [List.setIfInBounds_toArray, List.set_cons_succ, List.set_cons_zero]
  refine wpAnyH_takeD 2 117 (v := .pointer (some ⟨p, 0, none⟩)) rfl rfl (by kernel_rfl) (by kernel_rfl) (by kernel_rfl) (fun _ _ _ h => h) (.inl ⟨rfl, fun W hS => rfl⟩) ⟨hB, c2', _, rfl, hZ⟩ ?_
  simp only [List.setIfInBounds_toArray, List.set_cons_succ, List.set_cons_zero]
  refine wpAnyH_takeD 3 118 (v := .pointer (some ⟨p, 2, none⟩)) rfl rfl (by kernel_rfl) (by kernel_rfl) (by kernel_rfl) (fun _ _ _ h => h) (.inl ⟨rfl, fun W hS => rfl⟩) ⟨hB, c2', _, rfl, hZ⟩ ?_
  simp only [List.setIfInBounds_toArray, List.set_cons_succ, List.set_cons_zero]
  refine wpAnyH_takeD 4 119 (v := .int .i64 e) rfl rfl (by kernel_rfl) (by kernel_rfl) (by kernel_rfl) (fun _ _ _ h => h) (yieldsIf_load rfl 3 (.tmp 118) rfl ⟨p, 2, none⟩ rfl _ (fun W hS => hS.2.1) fun W hc => by simp [go_sem, Instr.loadAt, hc]) ⟨hB, c2', _, rfl, hZ⟩ ?_
  simp only [List.setIfInBounds_toArray, List.set_cons_succ, List.set_cons_zero]
  refine wpAnyH_all (rs := [5]) (by kernel_rfl) (by simp) (fun i hi => ?_)
  obtain rfl : i = 5 := by simpa using hi
  refine wpOp_store_old (o := _) rfl rfl 32 (.tmp 4) (.tmp 115) rfl (w.heap.size + 1) _ (x.cells nil0 nil0) rfl rfl hZ Tryd.infoEv rfl (Ev.oneCell x none none 0 0 0 0) rfl ?_
  intro wz hR
  have hR' : Relaid (w.heap.size + 1) (x.cells nil0 nil0) 32 (((w.alloc (.cells (x.cells nil0 nil0) 32)).alloc (.cells (Ev.zero.cells nil0 nil0) 32)).drew) wz := hR
  have hp1 : p ≠ w.heap.size + 1 := by omega
  have hBz := hR.boxOther hB (by omega)
  have hcz : wz.cell? ⟨p, 2, none⟩ = some (.int .i64 e) := (World.cell?_of_block (a := ⟨p, 2, none⟩) (hR.other p hp1)).trans c2'
  refine ⟨⟨hBz, hcz, _, rfl, hR.box⟩, ?_⟩
  refine wpAnyH_all (rs := [6]) (by kernel_rfl) (by simp) (fun i hi => ?_)
  obtain rfl : i = 6 := by simpa using hi
  refine wpOp_assign rfl rfl (.tmp 119) rfl 5 rfl (.int .i64 e) rfl ?_
  simp only [List.setIfInBounds_toArray, List.set_cons_succ, List.set_cons_zero]
  refine ⟨⟨hBz, hcz, _, rfl, hR.box⟩, wpAnyH_done (by kernel_rfl) ?_ _⟩
  have HR := Lib.hid hR'
  have hRb := Lib.hid hR.box
  clear hR hR' hBz hcz hB hZ c2 c2' hi hp hp1
  go_wp2_with fail
  exact bodyPost_ret (v := .tuple #[.agg (x.cells nil0 nil0), .int .i64 e]) (results_ev2 rfl _ _ (w.heap.size + 1) _ _ rfl rfl hRb.out rfl) rfl (HP.out _ HR.out)
end Go.Proofs.YtgbaanioppblhaaDoor

/- umpireref05.body of kind 5. No condition. -/
namespace Go.Proofs.YtgbaanioppblhaaDoor
open Go.RowKit

/-- Between the rounds. -/
structure RTxnSt (p : Nat) (s : List UInt8) (x : Ev) (w : World) (e at_ : Nat) (acc : List Mic) (v : Value) (wr : World) : Prop where
  rd : RfAt wr p e s at_
  box : BoxAt wr w.heap.size (({ x with txn := acc } : Ev).cells v nil0) 32
  zero : BoxAt wr (w.heap.size + 1) (Ev.zero.cells nil0 nil0) 32
  own : wr.ownsRow (w.heap.size + 2) 48 3 v acc.length (micCells acc)
  ch : Chp p w wr
theorem RTxnSt.fin {p : Nat} {s : List UInt8} {x : Ev} {w : World} {e at_ : Nat} {acc : List Mic} {v : Value} {wr wz : World} (h : RTxnSt p s x w e at_ acc v wr) {c : Array Value} {t : TypeId} (hR : Relaid (w.heap.size + 1) c t wr.drew wz) : Chp p w wz :=
  ⟨hR.os.trans h.ch.os, hR.tape.trans h.ch.tape, hR.output.trans h.ch.output, by rw [hR.size]; exact h.ch.size, fun k hk h1 h2 => (hR.other k (by omega)).trans (h.ch.block k hk h1 h2)⟩
theorem RTxnSt.read {p : Nat} {s : List UInt8} {x : Ev} {w : World} {e at_ e1 at1 : Nat} {acc : List Mic} {v : Value} {wr w1 : World} (h : RTxnSt p s x w e at_ acc v wr) (hr : RfAt w1 p e1 s at1) (hc : Chp p wr w1) (hp : p < w.heap.size) : RTxnSt p s x w e1 at1 acc v w1 :=
  ⟨hr, h.box.chp hc (by omega), h.zero.chp hc (by omega), ownsRow_chp h.own (by omega) hc, h.ch.trans hc⟩
theorem RTxnSt.fr {p : Nat} {s : List UInt8} {x : Ev} {w : World} {e at_ : Nat} {acc : List Mic} {v : Value} {wr w1 : World} (h : RTxnSt p s x w e at_ acc v wr) (f : Fr wr w1) : RTxnSt p s x w e at_ acc v w1 :=
  ⟨h.rd.keep f, h.box.fr f, h.zero.fr f, h.own.kept (row := none) ⟨f.os, f.tape, f.output, f.size, fun k hk _ => f.block hk⟩ (by cases v.ownBlock <;> simp), h.ch.trans f.chp⟩
theorem RTxnSt.setNew {p : Nat} {s : List UInt8} {x : Ev} {w : World} {e at_ : Nat} {acc : List Mic} {v : Value} {wr : World} (h : RTxnSt p s x w e at_ acc v wr) {b : Nat} (hp : p < w.heap.size) (hb : w.heap.size + 2 ≤ b) (hbv : v.ownBlock ≠ some b) (o : Nat) (u : Value) : RTxnSt p s x w e at_ acc v (wr.setCell ⟨b, o, none⟩ u) :=
  ⟨h.rd.setOther (by omega) o u, h.box.set (by simp; omega) u, h.zero.set (by simp; omega) u, ownsRow_setCell_other h.own hbv u, h.ch.setAt (by omega) o u⟩
theorem RTxnSt.push {p : Nat} {s : List UInt8} {x : Ev} {w : World} {e at_ : Nat} {acc : List Mic} {v v' : Value} {wr w1 : World} {m : Mic} (h : RTxnSt p s x w e at_ acc v wr) (hp : p < w.heap.size) (hg : wr.grownBy w1 v.ownBlock)
    (hown : w1.ownsRow (w.heap.size + 2) 48 3 v' (acc.length + 1) (micCells acc ++ m.cells)) : RTxnSt p s x w e at_ (acc ++ [m]) v' (w1.setCell ⟨w.heap.size, 10, none⟩ v') := by
  have hne : ∀ b, b < w.heap.size + 2 → some b ≠ v.ownBlock := fun b hb e => by have := (h.own.lt b e.symm).1; omega
  have hpb : w1.heap[p]? = wr.heap[p]? := hg.block p h.rd.lt (hne p (by omega))
  have hqb : BoxAt w1 w.heap.size (({ x with txn := acc } : Ev).cells v nil0) 32 := (hg.block _ h.box.lt (hne _ (by omega))).trans h.box
  have hzb : BoxAt w1 (w.heap.size + 1) (Ev.zero.cells nil0 nil0) 32 := (hg.block _ h.zero.lt (hne _ (by omega))).trans h.zero
  refine ⟨(h.rd.block hpb).setOther (by omega) _ _, hqb.setAt 10 v', hzb.set (by simp) _, ?_, ?_⟩
  · rw [List.length_append, micCells_snoc]
    exact ownsRow_setCell_below hown (a := ⟨w.heap.size, 10, none⟩) (by simp) _
  · refine Chp.setAt (q := w.heap.size) ⟨hg.os.trans h.ch.os, hg.tape.trans h.ch.tape, hg.output.trans h.ch.output, Nat.le_trans h.ch.size hg.size, fun k hk h1 h2 => ?_⟩ (Nat.le_refl _) 10 v'
    exact (hg.block k (Nat.lt_of_lt_of_le hk h.ch.size) (hne k (by omega))).trans (h.ch.block k hk h1 h2)
theorem own_slice {w : World} {base : Nat} {e : TypeId} {size : Nat} {v : Value} {n : Nat} {xs : List Value} (h : w.ownsRow base e size v n xs) : ∃ a k c, v = .slice a k c := by
  obtain ⟨a, c, hv, _⟩ := (SlAt.own h).form
  exact ⟨a, _, c, hv⟩
set_option maxRecDepth 100000 in
set_option maxHeartbeats 4000000 in
theorem rBody_5 (p e at_ : Nat) (s : List UInt8) (x : Ev) (w : World) (h : RfAt w p e s at_) (hk : x.kind = 5) (ht : x.txn = []) (hr : x.reads = []) :
    Calls Tryd.prog 42 #[x.val nil0 nil0, .pointer (some ⟨p, 0, none⟩)] w (BodyP p w ({ x with txn := (rdTxn e s at_).1 }, (rdTxn e s at_).2.1)) := by
  have h2 : ((x.kind : Int) == 2) = false := by simp [hk]
  have h3 : ((x.kind : Int) == 3) = false := by simp [hk]
  have h4 : ((x.kind : Int) == 4) = false := by simp [hk]
  have h5 : ((x.kind : Int) == 5) = true := by simp [hk]
  have h7 : ((x.kind : Int) == 7) = false := by simp [hk]
  unfold rdTxn
  simp only
  have la := ofBe1_lt e s at_
  have H1 := Lib.hid (fun W h => fNum_c p e at_ 1 s W h (by omega) (by omega))
  generalize rdRaw e s at_ 1 = a at la H1 ⊢
  obtain ⟨a0, ae, aa⟩ := a
  simp only at la H1 ⊢
  generalize ofBe a0 = M at la H1 ⊢
  generalize hZ : rdMics M ae s aa = Z
  have HZ := Lib.hid hZ
  clear hZ
  have hp := h.lt
  have hst0 : RTxnSt p s x w e at_ [] nil0 ((w.alloc (.cells (x.cells nil0 nil0) 32)).alloc (.cells (Ev.zero.cells nil0 nil0) 32)) :=
    ⟨h.keep (((Fr.refl w).alloc _).alloc _), by rw [← ht]; exact (BoxAt.new w (x.cells nil0 nil0) 32).alloc _, BoxAt.new' _ _ _ _ (by simp), World.ownsRow_nil _ _ _ _, ((Chp.refl p w).alloc _).alloc _⟩
  have HS := Lib.hid hst0
  have hrd0 := Lib.hid hst0.rd
  unfold Ev.val
  clear hst0 h hk
  go_enter Tryd.func42, Tryd.ntmps42
  go_wp2_with fail
  refine (H1.out _ hrd0.out).mono ?_
  rintro e' w1 ⟨rfl, hr1, hch1⟩
  have hs1 := HS.out.read hr1 hch1 hp
  clear HS hrd0 H1 hr1 hch1
  go_wp2_with fail
  go_loopw [12] (fun iv wr => ∃ (j m e' at' : Nat) (acc : List Mic) (v : Value), iv = .int .i64 j ∧ j + m = M ∧ acc.length = j ∧ RTxnSt p s x w e' at' acc v wr ∧ Z = (acc ++ (rdMics m e' s at').1, (rdMics m e' s at').2)) (fun iv _ => M - (intOf iv).toNat)
  case atStart => exact ⟨0, M, ae, aa, [], nil0, rfl, by omega, rfl, hs1, by rw [← HZ.out]; rfl⟩
  case round =>
    clear hs1 HZ
    obtain ⟨j, m, e1, at1, acc, v, rfl, hm, hlen, hst, hz⟩ := hrel
    have HZ := Lib.hid hz
    have HL := Lib.hid hlen
    clear hz hlen
    obtain ⟨va, vn, vc, rfl⟩ := own_slice hst.own
    cases m with
    | zero =>
      have h0 : Z = (acc, e1, at1) := by rw [HZ.out]; simp [rdMics]
      have hP : ∀ wz, Relaid (w.heap.size + 1) (({ x with txn := acc } : Ev).cells (.slice va vn vc) nil0) 32 wr.drew wz → BodyP p w ({ x with txn := Z.1 }, Z.2.1) (.returned (.tuple #[.agg (({ x with txn := acc } : Ev).cells (.slice va vn vc) nil0), .int .i64 e1])) wz := fun wz hR => by
        rw [h0]
        exact ⟨_, nil0, rfl, fun W2 h1 h2 => ⟨((SlAt.own hst.own).keep (by have := hR.size; simp at this; omega) fun k hz hk => by
          have hz' : w.heap.size + 2 ≤ k := hz
          have e1 := hR.other k (by omega)
          have e2 : W2.heap[k]? = wz.heap[k]? := h2 k (by omega) (by rw [hR.size]; exact hk)
          exact e2.trans e1).mono fun _ _ => trivial, by rw [show ({ x with txn := acc } : Ev).reads = [] from hr]; exact RdR.nil _⟩, hst.fin hR⟩
      have HP := Lib.hid hP
      have hB := hst.box.drew
      have hZ := hst.zero.drew
      have c2 : wr.drew.cell? ⟨p, 2, none⟩ = some (.int .i64 e1) := hst.rd.c2
      have c2' := hst.rd.c2
      have hq0 := hst.box.lt
      have hjM : ¬ (j : Int) < M := by omega
      clear hP hst h0
      go_wp2_with fail
      refine wp_region_held (S := fun W' => BoxAt W' w.heap.size (({ x with txn := acc } : Ev).cells (.slice va vn vc) nil0) 32 ∧ W'.cell? ⟨p, 2, none⟩ = some (.int .i64 e1) ∧ ∃ c, c.size = 19 ∧ BoxAt W' (w.heap.size + 1) c 32) (by kernel_rfl) ?_
      refine wpAnyH_takeD 0 115 rfl rfl (by kernel_rfl) (by kernel_rfl) (by kernel_rfl) (fun _ _ _ h => h) (yieldsIf_load_box rfl 32 (.tmp 2) rfl w.heap.size rfl (({ x with txn := acc } : Ev).cells (.slice va vn vc) nil0) (fun W hS => hS.1) _ Tryd.underlying32 rfl Tryd.infoEv) ⟨hB, c2, _, rfl, hZ⟩ ?_
      simp only [List.setIfInBounds_toArray, List.set_cons_succ, List.set_cons_zero]
      refine wpAnyH_takeD 1 116 (v := .pointer (some ⟨p, 0, none⟩)) rfl rfl (by kernel_rfl) (by kernel_rfl) (by kernel_rfl) (fun _ _ _ h => h) (.inl ⟨rfl, fun W hS => rfl⟩) ⟨hB, c2, _, rfl, hZ⟩ ?_
      simp only [List.setIfInBounds_toArray, List.set_cons_succ, List.set_cons_zero]
      refine wpAnyH_takeD 2 117 (v := .pointer (some ⟨p, 0, none⟩)) rfl rfl (by kernel_rfl) (by kernel_rfl) (by kernel_rfl) (fun _ _ _ h => h) (.inl ⟨rfl, fun W hS => rfl⟩) ⟨hB, c2, _, rfl, hZ⟩ ?_
      simp only [List.setIfInBounds_toArray, List.set_cons_succ, List.set_cons_zero]
      refine wpAnyH_takeD 3 118 (v := .pointer (some ⟨p, 2, none⟩)) rfl rfl (by kernel_rfl) (by kernel_rfl) (by kernel_rfl) (fun _ _ _ h => h) (.inl ⟨rfl, fun W hS => rfl⟩) ⟨hB, c2, _, rfl, hZ⟩ ?_
      simp only [List.setIfInBounds_toArray, List.set_cons_succ, List.set_cons_zero]
      refine wpAnyH_takeD 4 119 (v := .int .i64 e1) rfl rfl (by kernel_rfl) (by kernel_rfl) (by kernel_rfl) (fun _ _ _ h => h) (yieldsIf_load rfl 3 (.tmp 118) rfl ⟨p, 2, none⟩ rfl _ (fun W hS => hS.2.1) fun W hc => by simp [go_sem, Instr.loadAt, hc]) ⟨hB, c2, _, rfl, hZ⟩ ?_
      simp only [List.setIfInBounds_toArray, List.set_cons_succ, List.set_cons_zero]
      refine wpAnyH_all (rs := [5]) (by kernel_rfl) (by simp) (fun i hi => ?_)
      obtain rfl : i = 5 := by simpa using hi
      refine wpOp_store_old (o := _) rfl rfl 32 (.tmp 4) (.tmp 115) rfl (w.heap.size + 1) _ (({ x with txn := acc } : Ev).cells (.slice va vn vc) nil0) rfl rfl hZ Tryd.infoEv rfl (Ev.oneCell { x with txn := acc } va none vn vc 0 0) rfl ?_
      intro wz hR
      have hR' : Relaid (w.heap.size + 1) (({ x with txn := acc } : Ev).cells (.slice va vn vc) nil0) 32 (wr).drew wz := hR
      have hp1 : p ≠ w.heap.size + 1 := by omega
      have hBz := hR.boxOther hB (by omega)
      have hcz : wz.cell? ⟨p, 2, none⟩ = some (.int .i64 e1) := (World.cell?_of_block (a := ⟨p, 2, none⟩) (hR.other p hp1)).trans c2
      refine ⟨⟨hBz, hcz, _, rfl, hR.box⟩, ?_⟩
      refine wpAnyH_all (rs := [6]) (by kernel_rfl) (by simp) (fun i hi => ?_)
      obtain rfl : i = 6 := by simpa using hi
      refine wpOp_assign rfl rfl (.tmp 119) rfl 5 rfl (.int .i64 e1) rfl ?_
      simp only [List.setIfInBounds_toArray, List.set_cons_succ, List.set_cons_zero]
      refine ⟨⟨hBz, hcz, _, rfl, hR.box⟩, wpAnyH_done (by kernel_rfl) ?_ _⟩
      have HR := Lib.hid hR'
      have hRb := Lib.hid hR.box
      clear hR hR' hBz hcz hB hZ c2 hi hp1
      go_wp2_with fail
      exact bodyPost_ret (v := .tuple #[.agg (({ x with txn := acc } : Ev).cells (.slice va vn vc) nil0), .int .i64 e1]) (results_ev2 rfl _ _ (w.heap.size + 1) _ _ rfl rfl hRb.out rfl) rfl (HP.out _ HR.out)
    | succ m =>
      have hjM : (j : Int) < M := by omega
      by_cases he : e1 = 0
      · subst he
        have hu : rdMics (m + 1) 0 s at1 = ((⟨decide (128 ≤ ofBe (rdRaw 0 s at1 1).1), ofBe (rdRaw 0 s at1 1).1 % 128, ofBe (if 128 ≤ ofBe (rdRaw 0 s at1 1).1 then ([], (rdRaw 0 s at1 1).2) else rdRaw (rdRaw 0 s at1 1).2.1 s (rdRaw 0 s at1 1).2.2 2).1⟩ : Mic) :: (rdMics m (if 128 ≤ ofBe (rdRaw 0 s at1 1).1 then ([], (rdRaw 0 s at1 1).2) else rdRaw (rdRaw 0 s at1 1).2.1 s (rdRaw 0 s at1 1).2.2 2).2.1 s (if 128 ≤ ofBe (rdRaw 0 s at1 1).1 then ([], (rdRaw 0 s at1 1).2) else rdRaw (rdRaw 0 s at1 1).2.1 s (rdRaw 0 s at1 1).2.2 2).2.2).1,
            (rdMics m (if 128 ≤ ofBe (rdRaw 0 s at1 1).1 then ([], (rdRaw 0 s at1 1).2) else rdRaw (rdRaw 0 s at1 1).2.1 s (rdRaw 0 s at1 1).2.2 2).2.1 s (if 128 ≤ ofBe (rdRaw 0 s at1 1).1 then ([], (rdRaw 0 s at1 1).2) else rdRaw (rdRaw 0 s at1 1).2.1 s (rdRaw 0 s at1 1).2.2 2).2.2).2) := by
          rw [rdMics, if_neg (by simp)]
        have hz := HZ.out
        rw [hu] at hz
        have lk := ofBe1_lt 0 s at1
        have H1 := Lib.hid (fun W h => fNum_c p 0 at1 1 s W h (by omega) (by omega))
        generalize rdRaw 0 s at1 1 = a at lk H1 hz
        obtain ⟨a0, ae, aa⟩ := a
        simp only at lk H1 hz
        generalize ofBe a0 = K at lk H1 hz
        have hrd := hst.rd
        have c2 := hrd.c2
        have hq1 := hrd.lt
        obtain ⟨i0, hi0, hz0, hz1, hz2'⟩ := info_parts Tryd.infoMic
        have hvl : ∀ b, (Value.slice va vn vc).ownBlock = some b → b < wr.heap.size := fun b hb => (hst.own.lt b hb).2
        have hwr : w.heap.size + 2 ≤ wr.heap.size := by have := hst.zero.lt; omega
        by_cases hk : 128 ≤ K
        · have hki : decide ((128 : Int) ≤ (K : Int)) = true := by simp; omega
          rw [if_pos hk, decide_eq_true hk] at hz
          have HZ2 := Lib.hid hz
          clear hk hz hu HZ
          go_wp2_with fail
          refine (H1.out _ hrd).mono ?_
          rintro e' w1 ⟨rfl, hr1, hch1⟩
          have hst1 := hst.read hr1 hch1 hp
          have hstW := hst1.fr ((Fr.refl w1).alloc (.cells #[.bool true, .int .u8 ((K : Int) % 128), .int .u16 0] 48))
          have hM := BoxAt.new w1 #[.bool true, .int .u8 ((K : Int) % 128), .int .u16 0] 48
          have hwr1 := hch1.size
          clear hst hr1 hch1 hrd hst1 hvl c2
          go_upto_region 21 with fail
          generalize w1.alloc (.cells #[.bool true, .int .u8 ((K : Int) % 128), .int .u16 0] 48) = W at hstW hM ⊢
          have hown := hstW.own
          have hB := hstW.box
          have k10 : W.cell? ⟨w.heap.size, 10, none⟩ = some (.slice va vn vc) := hB.at 10 rfl
          have kf10 := hB.free 10
          have hqW := hB.lt
          have m0 : W.cell? ⟨w1.heap.size, 0, none⟩ = some (.bool true) := hM.at 0 rfl
          have m1 : W.cell? ⟨w1.heap.size, 1, none⟩ = some (.int .u8 ((K : Int) % 128)) := hM.at 1 rfl
          have m2 : W.cell? ⟨w1.heap.size, 2, none⟩ = some (.int .u16 0) := hM.at 2 rfl
          have hz2 : w1.heap.size < W.heap.size := lt_of_cell m0
          have hvq : (Value.slice va vn vc).ownBlock ≠ some w.heap.size := fun e => by have := (hown.lt w.heap.size e).1; omega
          have HST := Lib.hid hstW
          have hlen := HL.out
          have hM' := Lib.hid hM
          clear hstW hM hB
          go_wp2_with (at_builtin; refine wpList_append_lies _ rfl (.tmp 85) (.tmp 87) 27 rfl (w.heap.size + 2) 48 i0 _ 3 4 Tryd.underlying27 hi0 hz0 hz1 hz2' rfl (by omega) (.slice va vn vc) acc.length (micCells acc) rfl (hown.alloc _) ⟨W.heap.size, 0, none⟩ 1 1 [.bool true, .int .u8 ((K : Int) % 128), .int .u16 0] rfl rfl (World.news_of_block (cs := #[.bool true, .int .u8 ((K : Int) % 128), .int .u16 0]) (t := 48) (fr := (0, 0)) (heap_alloc_new W _)) (by simp [Value.oneCell']) (by omega) (by unfold maxLen; omega) (by omega) (by simp; omega) (W.heap.size + 1) (by simp) ?_; intro gg cap w3 hown3 hgrow hat hlt3; have kf3 : w3.frozen? ⟨w.heap.size, 10, none⟩ = false := (hgrow.frozen_far ⟨w.heap.size, 10, none⟩ (by simp; omega) (Ne.symm hvq)).trans ((World.frozen?_alloc_past _ _ _ hqW).trans kf10); have kc3 : w3.cell? ⟨w.heap.size, 10, none⟩ = some (.slice va vn vc) := (hgrow.cell_far ⟨w.heap.size, 10, none⟩ (by simp; omega) (Ne.symm hvq)).trans ((World.cell?_alloc_past _ _ _ hqW).trans k10); have hst4 := Lib.hid ((HST.out.fr ((Fr.refl W).alloc (.cells #[.bool true, .int .u8 ((K : Int) % 128), .int .u16 0] 48))).push (m := ⟨true, K % 128, 0⟩) hp hgrow hown3); clear hown hgrow hown3 hat hlt3 m0 m1 m2 k10 kf10 hlen)
          go_roundw
          case rel => exact ⟨j + 1, m, ae, aa, acc ++ [⟨true, K % 128, 0⟩], _, by go_num, by omega, by rw [List.length_append, HL.out]; rfl, hst4.out, by rw [HZ2.out]; simp [ofBe]⟩
          case measure => simp [intOf]; omega
        · have hki : decide ((128 : Int) ≤ (K : Int)) = false := by simp; omega
          rw [if_neg hk, decide_eq_false hk] at hz
          have lv := ofBe2_lt ae s aa
          have H2 := Lib.hid (fun W h => fNum_c p ae aa 2 s W h (by omega) (by omega))
          generalize rdRaw ae s aa 2 = b at lv H2 hz
          obtain ⟨b0, be', ba⟩ := b
          simp only at lv H2 hz
          generalize ofBe b0 = V at lv H2 hz
          have HZ2 := Lib.hid hz
          clear hk hz hu HZ
          go_wp2_with fail
          refine (H1.out _ hrd).mono ?_
          rintro e' w1 ⟨rfl, hr1, hch1⟩
          have hst1 := (hst.read hr1 hch1 hp).fr ((Fr.refl w1).alloc (.cells #[.bool false, .int .u8 ((K : Int) % 128), .int .u16 0] 48))
          have hM1 := BoxAt.new w1 #[.bool false, .int .u8 ((K : Int) % 128), .int .u16 0] 48
          have hwr1 := hch1.size
          have HVM := Lib.hid (show (Value.slice va vn vc).ownBlock ≠ some w1.heap.size from fun e => by have := hvl _ e; omega)
          have hwp : w1.heap.size ≠ p := by have := hr1.lt; omega
          have hww : w.heap.size + 2 ≤ w1.heap.size := by omega
          clear hst hr1 hch1 hrd hvl c2
          go_wp2_with fail
          refine (H2.out _ hst1.rd).mono ?_
          rintro e' w2 ⟨rfl, hr2, hch2⟩
          have hM2 := hM1.chp hch2 hwp
          have hM : BoxAt (w2.setCell ⟨w1.heap.size, 2, none⟩ (.int .u16 V)) w1.heap.size #[.bool false, .int .u8 ((K : Int) % 128), .int .u16 V] 48 := hM2.setAt 2 _
          have hstW := (hst1.read hr2 hch2 hp).setNew (b := w1.heap.size) hp hww HVM.out 2 (.int .u16 V)
          have b2 := hM2.at 2 rfl
          have g2 := hM2.free 2
          have hzm := hM2.lt
          clear hst1 hM1 hM2 hr2 hch2
          go_upto_region 21 with fail
          generalize w2.setCell ⟨w1.heap.size, 2, none⟩ (.int .u16 V) = W at hstW hM ⊢
          have hown := hstW.own
          have hB := hstW.box
          have k10 : W.cell? ⟨w.heap.size, 10, none⟩ = some (.slice va vn vc) := hB.at 10 rfl
          have kf10 := hB.free 10
          have hqW := hB.lt
          have m0 : W.cell? ⟨w1.heap.size, 0, none⟩ = some (.bool false) := hM.at 0 rfl
          have m1 : W.cell? ⟨w1.heap.size, 1, none⟩ = some (.int .u8 ((K : Int) % 128)) := hM.at 1 rfl
          have m2 : W.cell? ⟨w1.heap.size, 2, none⟩ = some (.int .u16 V) := hM.at 2 rfl
          have hz2 : w1.heap.size < W.heap.size := lt_of_cell m0
          have hvq : (Value.slice va vn vc).ownBlock ≠ some w.heap.size := fun e => by have := (hown.lt w.heap.size e).1; omega
          have HST := Lib.hid hstW
          have hlen := HL.out
          have hM' := Lib.hid hM
          clear hstW hM hB
          go_wp2_with (at_builtin; refine wpList_append_lies _ rfl (.tmp 85) (.tmp 87) 27 rfl (w.heap.size + 2) 48 i0 _ 3 4 Tryd.underlying27 hi0 hz0 hz1 hz2' rfl (by omega) (.slice va vn vc) acc.length (micCells acc) rfl (hown.alloc _) ⟨W.heap.size, 0, none⟩ 1 1 [.bool false, .int .u8 ((K : Int) % 128), .int .u16 V] rfl rfl (World.news_of_block (cs := #[.bool false, .int .u8 ((K : Int) % 128), .int .u16 V]) (t := 48) (fr := (0, 0)) (heap_alloc_new W _)) (by simp [Value.oneCell']) (by omega) (by unfold maxLen; omega) (by omega) (by simp; omega) (W.heap.size + 1) (by simp) ?_; intro gg cap w3 hown3 hgrow hat hlt3; have kf3 : w3.frozen? ⟨w.heap.size, 10, none⟩ = false := (hgrow.frozen_far ⟨w.heap.size, 10, none⟩ (by simp; omega) (Ne.symm hvq)).trans ((World.frozen?_alloc_past _ _ _ hqW).trans kf10); have kc3 : w3.cell? ⟨w.heap.size, 10, none⟩ = some (.slice va vn vc) := (hgrow.cell_far ⟨w.heap.size, 10, none⟩ (by simp; omega) (Ne.symm hvq)).trans ((World.cell?_alloc_past _ _ _ hqW).trans k10); have hst4 := Lib.hid ((HST.out.fr ((Fr.refl W).alloc (.cells #[.bool false, .int .u8 ((K : Int) % 128), .int .u16 V] 48))).push (m := ⟨false, K % 128, V⟩) hp hgrow hown3); clear hown hgrow hown3 hat hlt3 m0 m1 m2 k10 kf10 hlen)
          go_roundw
          case rel => exact ⟨j + 1, m, be', ba, acc ++ [⟨false, K % 128, V⟩], _, by go_num, by omega, by rw [List.length_append, HL.out]; rfl, hst4.out, by rw [HZ2.out]; simp [ofBe]⟩
          case measure => simp [intOf]; omega
      · have he2 : ((e1 : Int) == 0) = false := by simp; omega
        have h0 : Z = (acc, e1, at1) := by rw [HZ.out, rdMics_err he]; simp
        have hP : ∀ wz, Relaid (w.heap.size + 1) (({ x with txn := acc } : Ev).cells (.slice va vn vc) nil0) 32 wr.drew wz → BodyP p w ({ x with txn := Z.1 }, Z.2.1) (.returned (.tuple #[.agg (({ x with txn := acc } : Ev).cells (.slice va vn vc) nil0), .int .i64 e1])) wz := fun wz hR => by
          rw [h0]
          exact ⟨_, nil0, rfl, fun W2 h1 h2 => ⟨((SlAt.own hst.own).keep (by have := hR.size; simp at this; omega) fun k hz hk => by
            have hz' : w.heap.size + 2 ≤ k := hz
            have e1 := hR.other k (by omega)
            have e2 : W2.heap[k]? = wz.heap[k]? := h2 k (by omega) (by rw [hR.size]; exact hk)
            exact e2.trans e1).mono fun _ _ => trivial, by rw [show ({ x with txn := acc } : Ev).reads = [] from hr]; exact RdR.nil _⟩, hst.fin hR⟩
        have HP := Lib.hid hP
        have hB := hst.box.drew
        have hZ := hst.zero.drew
        have c2 : wr.drew.cell? ⟨p, 2, none⟩ = some (.int .i64 e1) := hst.rd.c2
        have c2' := hst.rd.c2
        have hq0 := hst.box.lt
        have hq1 := hst.rd.lt
        clear hP hst he h0
        go_wp2_with fail
        refine wp_region_held (S := fun W' => BoxAt W' w.heap.size (({ x with txn := acc } : Ev).cells (.slice va vn vc) nil0) 32 ∧ W'.cell? ⟨p, 2, none⟩ = some (.int .i64 e1) ∧ ∃ c, c.size = 19 ∧ BoxAt W' (w.heap.size + 1) c 32) (by kernel_rfl) ?_
        refine wpAnyH_takeD 0 115 rfl rfl (by kernel_rfl) (by kernel_rfl) (by kernel_rfl) (fun _ _ _ h => h) (yieldsIf_load_box rfl 32 (.tmp 2) rfl w.heap.size rfl (({ x with txn := acc } : Ev).cells (.slice va vn vc) nil0) (fun W hS => hS.1) _ Tryd.underlying32 rfl Tryd.infoEv) ⟨hB, c2, _, rfl, hZ⟩ ?_
        simp only [List.setIfInBounds_toArray, List.set_cons_succ, List.set_cons_zero]
        refine wpAnyH_takeD 1 116 (v := .pointer (some ⟨p, 0, none⟩)) rfl rfl (by kernel_rfl) (by kernel_rfl) (by kernel_rfl) (fun _ _ _ h => h) (.inl ⟨rfl, fun W hS => rfl⟩) ⟨hB, c2, _, rfl, hZ⟩ ?_
        simp only [List.setIfInBounds_toArray, List.set_cons_succ, List.set_cons_zero]
        refine wpAnyH_takeD 2 117 (v := .pointer (some ⟨p, 0, none⟩)) rfl rfl (by kernel_rfl) (by kernel_rfl) (by kernel_rfl) (fun _ _ _ h => h) (.inl ⟨rfl, fun W hS => rfl⟩) ⟨hB, c2, _, rfl, hZ⟩ ?_
        simp only [List.setIfInBounds_toArray, List.set_cons_succ, List.set_cons_zero]
        refine wpAnyH_takeD 3 118 (v := .pointer (some ⟨p, 2, none⟩)) rfl rfl (by kernel_rfl) (by kernel_rfl) (by kernel_rfl) (fun _ _ _ h => h) (.inl ⟨rfl, fun W hS => rfl⟩) ⟨hB, c2, _, rfl, hZ⟩ ?_
        simp only [List.setIfInBounds_toArray, List.set_cons_succ, List.set_cons_zero]
        refine wpAnyH_takeD 4 119 (v := .int .i64 e1) rfl rfl (by kernel_rfl) (by kernel_rfl) (by kernel_rfl) (fun _ _ _ h => h) (yieldsIf_load rfl 3 (.tmp 118) rfl ⟨p, 2, none⟩ rfl _ (fun W hS => hS.2.1) fun W hc => by simp [go_sem, Instr.loadAt, hc]) ⟨hB, c2, _, rfl, hZ⟩ ?_
        simp only [List.setIfInBounds_toArray, List.set_cons_succ, List.set_cons_zero]
        refine wpAnyH_all (rs := [5]) (by kernel_rfl) (by simp) (fun i hi => ?_)
        obtain rfl : i = 5 := by simpa using hi
        refine wpOp_store_old (o := _) rfl rfl 32 (.tmp 4) (.tmp 115) rfl (w.heap.size + 1) _ (({ x with txn := acc } : Ev).cells (.slice va vn vc) nil0) rfl rfl hZ Tryd.infoEv rfl (Ev.oneCell { x with txn := acc } va none vn vc 0 0) rfl ?_
        intro wz hR
        have hR' : Relaid (w.heap.size + 1) (({ x with txn := acc } : Ev).cells (.slice va vn vc) nil0) 32 (wr).drew wz := hR
        have hp1 : p ≠ w.heap.size + 1 := by omega
        have hBz := hR.boxOther hB (by omega)
        have hcz : wz.cell? ⟨p, 2, none⟩ = some (.int .i64 e1) := (World.cell?_of_block (a := ⟨p, 2, none⟩) (hR.other p hp1)).trans c2
        refine ⟨⟨hBz, hcz, _, rfl, hR.box⟩, ?_⟩
        refine wpAnyH_all (rs := [6]) (by kernel_rfl) (by simp) (fun i hi => ?_)
        obtain rfl : i = 6 := by simpa using hi
        refine wpOp_assign rfl rfl (.tmp 119) rfl 5 rfl (.int .i64 e1) rfl ?_
        simp only [List.setIfInBounds_toArray, List.set_cons_succ, List.set_cons_zero]
        refine ⟨⟨hBz, hcz, _, rfl, hR.box⟩, wpAnyH_done (by kernel_rfl) ?_ _⟩
        have HR := Lib.hid hR'
        have hRb := Lib.hid hR.box
        clear hR hR' hBz hcz hB hZ c2 hi hp1
        go_wp2_with fail
        exact bodyPost_ret (v := .tuple #[.agg (({ x with txn := acc } : Ev).cells (.slice va vn vc) nil0), .int .i64 e1]) (results_ev2 rfl _ _ (w.heap.size + 1) _ _ rfl rfl hRb.out rfl) rfl (HP.out _ HR.out)
end Go.Proofs.YtgbaanioppblhaaDoor

/- umpireref05.body of kind 6. No condition. -/
namespace Go.Proofs.YtgbaanioppblhaaDoor
open Go.RowKit

/-- Between the rounds. -/
structure RReadsSt (p : Nat) (s : List UInt8) (x : Ev) (w : World) (e at_ : Nat) (acc : List (List Nat)) (v : Value) (vs : List Value) (wr : World) : Prop where
  rd : RfAt wr p e s at_
  box : BoxAt wr w.heap.size (({ x with reads := acc } : Ev).cells nil0 v) 32
  zero : BoxAt wr (w.heap.size + 1) (Ev.zero.cells nil0 nil0) 32
  own : wr.ownsRow (w.heap.size + 2) 49 1 v acc.length vs
  len : vs.length = acc.length
  inner : ∀ (i : Nat) (l : List Nat) (u : Value), acc[i]? = some l → vs[i]? = some u → SlAt wr (fun b => some b ≠ v.ownBlock ∧ w.heap.size + 2 ≤ b) u l.length (u16Cells l)
  ch : Chp p w wr
theorem RReadsSt.fin {p : Nat} {s : List UInt8} {x : Ev} {w : World} {e at_ : Nat} {acc : List (List Nat)} {v : Value} {vs : List Value} {wr wz : World} (h : RReadsSt p s x w e at_ acc v vs wr) {c : Array Value} {t : TypeId} (hR : Relaid (w.heap.size + 1) c t wr.drew wz) : Chp p w wz :=
  ⟨hR.os.trans h.ch.os, hR.tape.trans h.ch.tape, hR.output.trans h.ch.output, by rw [hR.size]; exact h.ch.size, fun k hk h1 h2 => (hR.other k (by omega)).trans (h.ch.block k hk h1 h2)⟩
theorem RReadsSt.read {p : Nat} {s : List UInt8} {x : Ev} {w : World} {e at_ e1 at1 : Nat} {acc : List (List Nat)} {v : Value} {vs : List Value} {wr w1 : World} (h : RReadsSt p s x w e at_ acc v vs wr) (hr : RfAt w1 p e1 s at1) (hc : Chp p wr w1) (hp : p < w.heap.size) : RReadsSt p s x w e1 at1 acc v vs w1 :=
  ⟨hr, h.box.chp hc (by omega), h.zero.chp hc (by omega), ownsRow_chp h.own (by omega) hc, h.len, fun i l u hl hu => (h.inner i l u hl hu).keep hc.size fun k hz hk => hc.block k hk (by have := hz.2; omega) (by simp [Value.ownBlock]), h.ch.trans hc⟩
theorem RReadsSt.fr {p : Nat} {s : List UInt8} {x : Ev} {w : World} {e at_ : Nat} {acc : List (List Nat)} {v : Value} {vs : List Value} {wr w1 : World} (h : RReadsSt p s x w e at_ acc v vs wr) (f : Fr wr w1) : RReadsSt p s x w e at_ acc v vs w1 :=
  ⟨h.rd.keep f, h.box.fr f, h.zero.fr f, h.own.kept (row := none) ⟨f.os, f.tape, f.output, f.size, fun k hk _ => f.block hk⟩ (by cases v.ownBlock <;> simp), h.len, fun i l u hl hu => (h.inner i l u hl hu).fr f, h.ch.trans f.chp⟩
theorem RReadsSt.push {p : Nat} {s : List UInt8} {x : Ev} {w : World} {e at_ gg cap : Nat} {acc : List (List Nat)} {v u : Value} {vs : List Value} {wr w1 : World} {l : List Nat} (h : RReadsSt p s x w e at_ acc v vs wr) (hp : p < w.heap.size) (hg : wr.grownBy w1 v.ownBlock)
    (hown : w1.ownsRow (w.heap.size + 2) 49 1 (.slice (some ⟨gg, 0, none⟩) (acc.length + 1) cap) (acc.length + 1) (vs ++ [u])) (hat : v.ownBlock = some gg ∨ gg = wr.heap.size)
    (hu : SlAt wr (fun b => some b ≠ v.ownBlock ∧ w.heap.size + 2 ≤ b) u l.length (u16Cells l)) :
    RReadsSt p s x w e at_ (acc ++ [l]) (.slice (some ⟨gg, 0, none⟩) (acc.length + 1) cap) (vs ++ [u]) (w1.setCell ⟨w.heap.size, 11, none⟩ (.slice (some ⟨gg, 0, none⟩) (acc.length + 1) cap)) := by
  have hne : ∀ b, b < w.heap.size + 2 → some b ≠ v.ownBlock := fun b hb e => by have := (h.own.lt b e.symm).1; omega
  have hpb : w1.heap[p]? = wr.heap[p]? := hg.block p h.rd.lt (hne p (by omega))
  have hqb : BoxAt w1 w.heap.size (({ x with reads := acc } : Ev).cells nil0 v) 32 := (hg.block _ h.box.lt (hne _ (by omega))).trans h.box
  have hzb : BoxAt w1 (w.heap.size + 1) (Ev.zero.cells nil0 nil0) 32 := (hg.block _ h.zero.lt (hne _ (by omega))).trans h.zero
  have hin : ∀ (l : List Nat) (u : Value), SlAt wr (fun b => some b ≠ v.ownBlock ∧ w.heap.size + 2 ≤ b) u l.length (u16Cells l) → SlAt (w1.setCell ⟨w.heap.size, 11, none⟩ (.slice (some ⟨gg, 0, none⟩) (acc.length + 1) cap)) (fun b => some b ≠ (Value.slice (some ⟨gg, 0, none⟩) (acc.length + 1) cap).ownBlock ∧ w.heap.size + 2 ≤ b) u l.length (u16Cells l) := fun l u hl => by
    obtain ⟨a, c, rfl, h1, h2, h3⟩ := hl
    refine ⟨a, c, rfl, h1, h2, ?_⟩
    rcases h3 with h3 | ⟨b, off, rfl, ⟨hz1, hz2⟩, hlt, hc⟩
    · exact .inl h3
    · refine .inr ⟨b, off, rfl, ⟨?_, hz2⟩, ?_, fun j y hj => ?_⟩
      · rcases hat with hat | hat
        · rw [hat] at hz1; simpa [Value.ownBlock] using hz1
        · subst hat; simp [Value.ownBlock]; omega
      · simp; exact Nat.lt_of_lt_of_le hlt hg.size
      · have e1 : (w1.setCell ⟨w.heap.size, 11, none⟩ (.slice (some ⟨gg, 0, none⟩) (acc.length + 1) cap)).heap[b]? = w1.heap[b]? := Below.heap_setCell w1 _ _ b (fun e => by simp at e; omega)
        exact (World.cell?_of_block (a := ⟨b, off + j, none⟩) (e1.trans (hg.block b hlt hz1))).trans (hc j y hj)
  refine ⟨(h.rd.block hpb).setOther (by omega) _ _, hqb.setAt 11 _, hzb.set (by simp) _, ?_, ?_, ?_, ?_⟩
  · rw [List.length_append]
    exact ownsRow_setCell_below hown (a := ⟨w.heap.size, 11, none⟩) (by simp) _
  · simp [h.len]
  · intro i l' u' hl hu'
    by_cases hi : i < acc.length
    · rw [List.getElem?_append_left hi] at hl
      rw [List.getElem?_append_left (by rw [h.len]; exact hi)] at hu'
      exact hin _ _ (h.inner i l' u' hl hu')
    · by_cases hi2 : i = acc.length
      · subst hi2
        rw [List.getElem?_append_right (Nat.le_refl _)] at hl
        rw [List.getElem?_append_right (by rw [h.len]; exact Nat.le_refl _)] at hu'
        simp at hl
        simp [h.len] at hu'
        subst hl hu'
        exact hin _ _ hu
      · have : (acc ++ [l]).length ≤ i := by simp; omega
        rw [List.getElem?_eq_none this] at hl
        cases hl
  · refine Chp.setAt (q := w.heap.size) ⟨hg.os.trans h.ch.os, hg.tape.trans h.ch.tape, hg.output.trans h.ch.output, Nat.le_trans h.ch.size hg.size, fun k hk h1 h2 => ?_⟩ (Nat.le_refl _) 11 _
    exact (hg.block k (Nat.lt_of_lt_of_le hk h.ch.size) (hne k (by omega))).trans (h.ch.block k hk h1 h2)
theorem RReadsSt.done {p : Nat} {s : List UInt8} {x : Ev} {w : World} {e at_ : Nat} {acc : List (List Nat)} {v : Value} {vs : List Value} {wr W2 : World} (h : RReadsSt p s x w e at_ acc v vs wr) (h1 : wr.heap.size ≤ W2.heap.size) (h2 : ∀ k, w.heap.size + 2 ≤ k → k < wr.heap.size → W2.heap[k]? = wr.heap[k]?) : RdR W2 v acc :=
  ⟨vs, h.len, ((SlAt.own h.own).keep h1 h2).mono fun _ _ => trivial, fun i l u hl hu => ((h.inner i l u hl hu).keep h1 fun k hz hk => h2 k hz.2 hk).mono fun _ _ => trivial⟩
theorem fList_s (p e at_ : Nat) (s : List UInt8) (w : World) (h : RfAt w p e s at_) :
    Calls Tryd.prog 55 #[.pointer (some ⟨p, 0, none⟩)] w fun e' w' => ∃ ua uc, e' = .returned (.slice ua (rdList e s at_).1.length uc) ∧ w'.ownsRow w.heap.size 22 1 (.slice ua (rdList e s at_).1.length uc) (rdList e s at_).1.length (u16Cells (rdList e s at_).1) ∧ RRead p s (rdList e s at_).2 w w' :=
  (fList_c p e at_ s w h).mono fun e' w' ⟨v, he, ho, hr⟩ => by
    obtain ⟨a, c, hv, _⟩ := (SlAt.own ho).form
    subst hv
    exact ⟨a, c, he, ho, hr⟩
set_option maxRecDepth 100000 in
set_option maxHeartbeats 4000000 in
theorem rBody_6 (p e at_ : Nat) (s : List UInt8) (x : Ev) (w : World) (h : RfAt w p e s at_) (hk : x.kind = 6) (ht : x.txn = []) (hr : x.reads = []) :
    Calls Tryd.prog 42 #[x.val nil0 nil0, .pointer (some ⟨p, 0, none⟩)] w (BodyP p w ({ x with reads := (rdReads e s at_).1 }, (rdReads e s at_).2.1)) := by
  have h2 : ((x.kind : Int) == 2) = false := by simp [hk]
  have h3 : ((x.kind : Int) == 3) = false := by simp [hk]
  have h4 : ((x.kind : Int) == 4) = false := by simp [hk]
  have h5 : ((x.kind : Int) == 5) = false := by simp [hk]
  have h6 : ((x.kind : Int) == 6) = true := by simp [hk]
  have h7 : ((x.kind : Int) == 7) = false := by simp [hk]
  unfold rdReads
  simp only
  have la := ofBe1_lt e s at_
  have H1 := Lib.hid (fun W h => fNum_c p e at_ 1 s W h (by omega) (by omega))
  generalize rdRaw e s at_ 1 = a at la H1 ⊢
  obtain ⟨a0, ae, aa⟩ := a
  simp only at la H1 ⊢
  generalize ofBe a0 = M at la H1 ⊢
  generalize hZ : rdLists M ae s aa = Z
  have HZ := Lib.hid hZ
  clear hZ
  have hp := h.lt
  have hst0 : RReadsSt p s x w e at_ [] nil0 [] ((w.alloc (.cells (x.cells nil0 nil0) 32)).alloc (.cells (Ev.zero.cells nil0 nil0) 32)) :=
    ⟨h.keep (((Fr.refl w).alloc _).alloc _), by rw [← hr]; exact (BoxAt.new w (x.cells nil0 nil0) 32).alloc _, BoxAt.new' _ _ _ _ (by simp), World.ownsRow_nil _ _ _ _, rfl, fun i l u h => by simp at h, ((Chp.refl p w).alloc _).alloc _⟩
  have HS := Lib.hid hst0
  have hrd0 := Lib.hid hst0.rd
  unfold Ev.val
  clear hst0 h hk
  go_enter Tryd.func42, Tryd.ntmps42
  go_wp2_with fail
  refine (H1.out _ hrd0.out).mono ?_
  rintro e' w1 ⟨rfl, hr1, hch1⟩
  have hs1 := HS.out.read hr1 hch1 hp
  clear HS hrd0 H1 hr1 hch1
  go_wp2_with fail
  go_loopw [16] (fun iv wr => ∃ (j m e' at' : Nat) (acc : List (List Nat)) (v : Value) (vs : List Value), iv = .int .i64 j ∧ j + m = M ∧ acc.length = j ∧ RReadsSt p s x w e' at' acc v vs wr ∧ Z = (acc ++ (rdLists m e' s at').1, (rdLists m e' s at').2)) (fun iv _ => M - (intOf iv).toNat)
  case atStart => exact ⟨0, M, ae, aa, [], nil0, [], rfl, by omega, rfl, hs1, by rw [← HZ.out]; rfl⟩
  case round =>
    clear hs1 HZ
    obtain ⟨j, m, e1, at1, acc, v, vs, rfl, hm, hlen, hst, hz⟩ := hrel
    have HZ := Lib.hid hz
    have HL := Lib.hid hlen
    clear hz hlen
    obtain ⟨va, vn, vc, rfl⟩ := own_slice hst.own
    cases m with
    | zero =>
      have h0 : Z = (acc, e1, at1) := by rw [HZ.out]; simp [rdLists]
      have hP : ∀ wz, Relaid (w.heap.size + 1) (({ x with reads := acc } : Ev).cells nil0 (.slice va vn vc)) 32 wr.drew wz → BodyP p w ({ x with reads := Z.1 }, Z.2.1) (.returned (.tuple #[.agg (({ x with reads := acc } : Ev).cells nil0 (.slice va vn vc)), .int .i64 e1])) wz := fun wz hR => by
        rw [h0]
        exact ⟨nil0, _, rfl, fun W2 h1 h2 => ⟨by rw [show ({ x with reads := acc } : Ev).txn = [] from ht]; exact RdM.nil _, hst.done (by have := hR.size; simp at this; omega) fun k hz hk => by
          have e1 := hR.other k (by omega)
          have e2 : W2.heap[k]? = wz.heap[k]? := h2 k (by omega) (by rw [hR.size]; exact hk)
          exact e2.trans e1⟩, hst.fin hR⟩
      have HP := Lib.hid hP
      have hB := hst.box.drew
      have hZ := hst.zero.drew
      have c2 : wr.drew.cell? ⟨p, 2, none⟩ = some (.int .i64 e1) := hst.rd.c2
      have c2' := hst.rd.c2
      have hq0 := hst.box.lt
      have hjM : ¬ (j : Int) < M := by omega
      clear hP hst h0
      go_wp2_with fail
      refine wp_region_held (S := fun W' => BoxAt W' w.heap.size (({ x with reads := acc } : Ev).cells nil0 (.slice va vn vc)) 32 ∧ W'.cell? ⟨p, 2, none⟩ = some (.int .i64 e1) ∧ ∃ c, c.size = 19 ∧ BoxAt W' (w.heap.size + 1) c 32) (by kernel_rfl) ?_
      refine wpAnyH_takeD 0 115 rfl rfl (by kernel_rfl) (by kernel_rfl) (by kernel_rfl) (fun _ _ _ h => h) (yieldsIf_load_box rfl 32 (.tmp 2) rfl w.heap.size rfl (({ x with reads := acc } : Ev).cells nil0 (.slice va vn vc)) (fun W hS => hS.1) _ Tryd.underlying32 rfl Tryd.infoEv) ⟨hB, c2, _, rfl, hZ⟩ ?_
      simp only [List.setIfInBounds_toArray, List.set_cons_succ, List.set_cons_zero]
      refine wpAnyH_takeD 1 116 (v := .pointer (some ⟨p, 0, none⟩)) rfl rfl (by kernel_rfl) (by kernel_rfl) (by kernel_rfl) (fun _ _ _ h => h) (.inl ⟨rfl, fun W hS => rfl⟩) ⟨hB, c2, _, rfl, hZ⟩ ?_
      simp only [List.setIfInBounds_toArray, List.set_cons_succ, List.set_cons_zero]
      refine wpAnyH_takeD 2 117 (v := .pointer (some ⟨p, 0, none⟩)) rfl rfl (by kernel_rfl) (by kernel_rfl) (by kernel_rfl) (fun _ _ _ h => h) (.inl ⟨rfl, fun W hS => rfl⟩) ⟨hB, c2, _, rfl, hZ⟩ ?_
      simp only [List.setIfInBounds_toArray, List.set_cons_succ, List.set_cons_zero]
      refine wpAnyH_takeD 3 118 (v := .pointer (some ⟨p, 2, none⟩)) rfl rfl (by kernel_rfl) (by kernel_rfl) (by kernel_rfl) (fun _ _ _ h => h) (.inl ⟨rfl, fun W hS => rfl⟩) ⟨hB, c2, _, rfl, hZ⟩ ?_
      simp only [List.setIfInBounds_toArray, List.set_cons_succ, List.set_cons_zero]
      refine wpAnyH_takeD 4 119 (v := .int .i64 e1) rfl rfl (by kernel_rfl) (by kernel_rfl) (by kernel_rfl) (fun _ _ _ h => h) (yieldsIf_load rfl 3 (.tmp 118) rfl ⟨p, 2, none⟩ rfl _ (fun W hS => hS.2.1) fun W hc => by simp [go_sem, Instr.loadAt, hc]) ⟨hB, c2, _, rfl, hZ⟩ ?_
      simp only [List.setIfInBounds_toArray, List.set_cons_succ, List.set_cons_zero]
      refine wpAnyH_all (rs := [5]) (by kernel_rfl) (by simp) (fun i hi => ?_)
      obtain rfl : i = 5 := by simpa using hi
      refine wpOp_store_old (o := _) rfl rfl 32 (.tmp 4) (.tmp 115) rfl (w.heap.size + 1) _ (({ x with reads := acc } : Ev).cells nil0 (.slice va vn vc)) rfl rfl hZ Tryd.infoEv rfl (Ev.oneCell { x with reads := acc } none va 0 0 vn vc) rfl ?_
      intro wz hR
      have hR' : Relaid (w.heap.size + 1) (({ x with reads := acc } : Ev).cells nil0 (.slice va vn vc)) 32 (wr).drew wz := hR
      have hp1 : p ≠ w.heap.size + 1 := by omega
      have hBz := hR.boxOther hB (by omega)
      have hcz : wz.cell? ⟨p, 2, none⟩ = some (.int .i64 e1) := (World.cell?_of_block (a := ⟨p, 2, none⟩) (hR.other p hp1)).trans c2
      refine ⟨⟨hBz, hcz, _, rfl, hR.box⟩, ?_⟩
      refine wpAnyH_all (rs := [6]) (by kernel_rfl) (by simp) (fun i hi => ?_)
      obtain rfl : i = 6 := by simpa using hi
      refine wpOp_assign rfl rfl (.tmp 119) rfl 5 rfl (.int .i64 e1) rfl ?_
      simp only [List.setIfInBounds_toArray, List.set_cons_succ, List.set_cons_zero]
      refine ⟨⟨hBz, hcz, _, rfl, hR.box⟩, wpAnyH_done (by kernel_rfl) ?_ _⟩
      have HR := Lib.hid hR'
      have hRb := Lib.hid hR.box
      clear hR hR' hBz hcz hB hZ c2 hi hp1
      go_wp2_with fail
      exact bodyPost_ret (v := .tuple #[.agg (({ x with reads := acc } : Ev).cells nil0 (.slice va vn vc)), .int .i64 e1]) (results_ev2 rfl _ _ (w.heap.size + 1) _ _ rfl rfl hRb.out rfl) rfl (HP.out _ HR.out)
    | succ m =>
      have hjM : (j : Int) < M := by omega
      by_cases he : e1 = 0
      · subst he
        have hz := HZ.out
        rw [show rdLists (m + 1) 0 s at1 = ((rdList 0 s at1).1 :: (rdLists m (rdList 0 s at1).2.1 s (rdList 0 s at1).2.2).1, (rdLists m (rdList 0 s at1).2.1 s (rdList 0 s at1).2.2).2) by rw [rdLists, if_neg (by simp)]] at hz
        have H1 := Lib.hid (fun W h => fList_s p 0 at1 s W h)
        generalize rdList 0 s at1 = a at H1 hz
        obtain ⟨l, ae, aa⟩ := a
        simp only at H1 hz
        have HZ2 := Lib.hid hz
        have hrd := hst.rd
        have c2 := hrd.c2
        have hq1 := hrd.lt
        obtain ⟨i0, hi0, hz0, hz1, hz2'⟩ := info_parts Tryd.infoL16
        have HVL := Lib.hid (show ∀ b, (Value.slice va vn vc).ownBlock = some b → b < wr.heap.size from fun b hb => (hst.own.lt b hb).2)
        have hwr : w.heap.size + 2 ≤ wr.heap.size := by have := hst.zero.lt; omega
        have hvq : (Value.slice va vn vc).ownBlock ≠ some w.heap.size := fun e => by have := (hst.own.lt w.heap.size e).1; omega
        clear hz HZ
        go_wp2_with fail
        refine (H1.out _ hrd).mono ?_
        rintro e' w2 ⟨ua, uc, rfl, hou, hr2, hch2⟩
        have hst2 := hst.read hr2 hch2 hp
        have kq2 : w2.cell? ⟨w.heap.size, 11, none⟩ = some (.slice va vn vc) := hst2.box.at 11 rfl
        have kg2 := hst2.box.free 11
        have hown := hst2.own
        have hq2 := hst2.box.lt
        have hwr1 := hch2.size
        have HOU := Lib.hid hou
        have HST := Lib.hid hst2
        have hlen := HL.out
        clear hst hr2 hou hrd hst2 hch2 c2
        go_wp2_with (at_builtin; refine wpList_append_lies _ rfl (.tmp 110) (.tmp 112) 28 rfl (w.heap.size + 2) 49 i0 _ 1 24 Tryd.underlying28 hi0 hz0 hz1 hz2' rfl (by omega) (.slice va vn vc) acc.length vs rfl (hown.alloc _) ⟨w2.heap.size, 0, none⟩ 1 1 [.slice ua l.length uc] rfl rfl (World.news_of_block (cs := #[.slice ua l.length uc]) (t := 49) (fr := (0, 0)) (heap_alloc_new w2 _)) (by simp [Value.oneCell']) (by omega) (by unfold maxLen; omega) (by omega) (by simp; omega) (w2.heap.size + 1) (by simp) ?_; intro gg cap w3 hown3 hgrow hat hlt3; have kf3 : w3.frozen? ⟨w.heap.size, 11, none⟩ = false := (hgrow.frozen_far ⟨w.heap.size, 11, none⟩ (by simp; omega) (Ne.symm hvq)).trans ((World.frozen?_alloc_past _ _ _ hq2).trans kg2); have kc3 : w3.cell? ⟨w.heap.size, 11, none⟩ = some (.slice va vn vc) := (hgrow.cell_far ⟨w.heap.size, 11, none⟩ (by simp; omega) (Ne.symm hvq)).trans ((World.cell?_alloc_past _ _ _ hq2).trans kq2); have hin : SlAt (w2.alloc (.cells #[.slice ua l.length uc] 49)) (fun b => some b ≠ (Value.slice va vn vc).ownBlock ∧ w.heap.size + 2 ≤ b) (.slice ua l.length uc) l.length (u16Cells l) := ((SlAt.own HOU.out).mono fun b hb => ⟨fun e => by have h1 := HVL.out b e.symm; have h2 : wr.heap.size ≤ b := hb; omega, by have h2 : wr.heap.size ≤ b := hb; omega⟩).fr ((Fr.refl w2).alloc _); have hst4 := Lib.hid ((HST.out.fr ((Fr.refl w2).alloc (.cells #[.slice ua l.length uc] 49))).push (l := l) hp hgrow hown3 (hat.imp id fun h => by rw [h]; simp) hin); clear hown hgrow hown3 hat hlt3 kq2 kg2 hlen hin)
        go_roundw
        case rel => exact ⟨j + 1, m, ae, aa, acc ++ [l], _, _, by go_num, by omega, by rw [List.length_append, HL.out]; rfl, hst4.out, by rw [HZ2.out]; simp⟩
        case measure => simp [intOf]; omega
      · have he2 : ((e1 : Int) == 0) = false := by simp; omega
        have h0 : Z = (acc, e1, at1) := by rw [HZ.out, rdLists_err he]; simp
        have hP : ∀ wz, Relaid (w.heap.size + 1) (({ x with reads := acc } : Ev).cells nil0 (.slice va vn vc)) 32 wr.drew wz → BodyP p w ({ x with reads := Z.1 }, Z.2.1) (.returned (.tuple #[.agg (({ x with reads := acc } : Ev).cells nil0 (.slice va vn vc)), .int .i64 e1])) wz := fun wz hR => by
          rw [h0]
          exact ⟨nil0, _, rfl, fun W2 h1 h2 => ⟨by rw [show ({ x with reads := acc } : Ev).txn = [] from ht]; exact RdM.nil _, hst.done (by have := hR.size; simp at this; omega) fun k hz hk => by
            have e1 := hR.other k (by omega)
            have e2 : W2.heap[k]? = wz.heap[k]? := h2 k (by omega) (by rw [hR.size]; exact hk)
            exact e2.trans e1⟩, hst.fin hR⟩
        have HP := Lib.hid hP
        have hB := hst.box.drew
        have hZ := hst.zero.drew
        have c2 : wr.drew.cell? ⟨p, 2, none⟩ = some (.int .i64 e1) := hst.rd.c2
        have c2' := hst.rd.c2
        have hq0 := hst.box.lt
        have hq1 := hst.rd.lt
        clear hP hst he h0
        go_wp2_with fail
        refine wp_region_held (S := fun W' => BoxAt W' w.heap.size (({ x with reads := acc } : Ev).cells nil0 (.slice va vn vc)) 32 ∧ W'.cell? ⟨p, 2, none⟩ = some (.int .i64 e1) ∧ ∃ c, c.size = 19 ∧ BoxAt W' (w.heap.size + 1) c 32) (by kernel_rfl) ?_
        refine wpAnyH_takeD 0 115 rfl rfl (by kernel_rfl) (by kernel_rfl) (by kernel_rfl) (fun _ _ _ h => h) (yieldsIf_load_box rfl 32 (.tmp 2) rfl w.heap.size rfl (({ x with reads := acc } : Ev).cells nil0 (.slice va vn vc)) (fun W hS => hS.1) _ Tryd.underlying32 rfl Tryd.infoEv) ⟨hB, c2, _, rfl, hZ⟩ ?_
        simp only [List.setIfInBounds_toArray, List.set_cons_succ, List.set_cons_zero]
        refine wpAnyH_takeD 1 116 (v := .pointer (some ⟨p, 0, none⟩)) rfl rfl (by kernel_rfl) (by kernel_rfl) (by kernel_rfl) (fun _ _ _ h => h) (.inl ⟨rfl, fun W hS => rfl⟩) ⟨hB, c2, _, rfl, hZ⟩ ?_
        simp only [List.setIfInBounds_toArray, List.set_cons_succ, List.set_cons_zero]
        refine wpAnyH_takeD 2 117 (v := .pointer (some ⟨p, 0, none⟩)) rfl rfl (by kernel_rfl) (by kernel_rfl) (by kernel_rfl) (fun _ _ _ h => h) (.inl ⟨rfl, fun W hS => rfl⟩) ⟨hB, c2, _, rfl, hZ⟩ ?_
        simp only [List.setIfInBounds_toArray, List.set_cons_succ, List.set_cons_zero]
        refine wpAnyH_takeD 3 118 (v := .pointer (some ⟨p, 2, none⟩)) rfl rfl (by kernel_rfl) (by kernel_rfl) (by kernel_rfl) (fun _ _ _ h => h) (.inl ⟨rfl, fun W hS => rfl⟩) ⟨hB, c2, _, rfl, hZ⟩ ?_
        simp only [List.setIfInBounds_toArray, List.set_cons_succ, List.set_cons_zero]
        refine wpAnyH_takeD 4 119 (v := .int .i64 e1) rfl rfl (by kernel_rfl) (by kernel_rfl) (by kernel_rfl) (fun _ _ _ h => h) (yieldsIf_load rfl 3 (.tmp 118) rfl ⟨p, 2, none⟩ rfl _ (fun W hS => hS.2.1) fun W hc => by simp [go_sem, Instr.loadAt, hc]) ⟨hB, c2, _, rfl, hZ⟩ ?_
        simp only [List.setIfInBounds_toArray, List.set_cons_succ, List.set_cons_zero]
        refine wpAnyH_all (rs := [5]) (by kernel_rfl) (by simp) (fun i hi => ?_)
        obtain rfl : i = 5 := by simpa using hi
        refine wpOp_store_old (o := _) rfl rfl 32 (.tmp 4) (.tmp 115) rfl (w.heap.size + 1) _ (({ x with reads := acc } : Ev).cells nil0 (.slice va vn vc)) rfl rfl hZ Tryd.infoEv rfl (Ev.oneCell { x with reads := acc } none va 0 0 vn vc) rfl ?_
        intro wz hR
        have hR' : Relaid (w.heap.size + 1) (({ x with reads := acc } : Ev).cells nil0 (.slice va vn vc)) 32 (wr).drew wz := hR
        have hp1 : p ≠ w.heap.size + 1 := by omega
        have hBz := hR.boxOther hB (by omega)
        have hcz : wz.cell? ⟨p, 2, none⟩ = some (.int .i64 e1) := (World.cell?_of_block (a := ⟨p, 2, none⟩) (hR.other p hp1)).trans c2
        refine ⟨⟨hBz, hcz, _, rfl, hR.box⟩, ?_⟩
        refine wpAnyH_all (rs := [6]) (by kernel_rfl) (by simp) (fun i hi => ?_)
        obtain rfl : i = 6 := by simpa using hi
        refine wpOp_assign rfl rfl (.tmp 119) rfl 5 rfl (.int .i64 e1) rfl ?_
        simp only [List.setIfInBounds_toArray, List.set_cons_succ, List.set_cons_zero]
        refine ⟨⟨hBz, hcz, _, rfl, hR.box⟩, wpAnyH_done (by kernel_rfl) ?_ _⟩
        have HR := Lib.hid hR'
        have hRb := Lib.hid hR.box
        clear hR hR' hBz hcz hB hZ c2 hi hp1
        go_wp2_with fail
        exact bodyPost_ret (v := .tuple #[.agg (({ x with reads := acc } : Ev).cells nil0 (.slice va vn vc)), .int .i64 e1]) (results_ev2 rfl _ _ (w.heap.size + 1) _ _ rfl rfl hRb.out rfl) rfl (HP.out _ HR.out)
end Go.Proofs.YtgbaanioppblhaaDoor
