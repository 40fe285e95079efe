/- An automaton in memory, and what reads it. No condition but that it lies there. -/
import Derived.Test.YtdjjjnoecfbjeaaGreatDoorPHisSpec
import Derived.Test.YtdjjjnoecfbjeaaGreatDoorPEvCheck
import Derived.Lib.SliceRun
import Derived.Test.YtdjjjnoecfbjeaaGreatDoorPOpen
import Derived.Test.YtdjjjnoecfbjeaaGreatDoorPResMay
import Derived.RegionTactic
import Derived.Test.YtdjjjnoecfbjeaaGreatDoorPArms
import Derived.Maps.OwnSet
import Derived.WideKeyEntry
set_option linter.all false
set_option linter.unusedVariables false
set_option linter.unusedSimpArgs false
set_option linter.unnecessarySimpa false
/- An automaton in memory, and what reads it. No condition but that it lies there. -/
namespace Go.Proofs.YtdjjjnoecfbjeaaGreatDoor
open Go.RowKit
attribute [local go_sem] Oper.semAt_some

/-- An event in a block of its own. -/
def EvBox (w : World) (b : Nat) (x : Ev) : Prop := ∃ t r, BoxAt w b (x.cells t r) 39 ∧ RdM w t x.txn ∧ RdR w r x.reads
/-- A pointer to what is open, or none. -/
def PendAt (w : World) (v : Value) : Option Ev → Prop
  | none => v = .pointer none
  | some x => ∃ b, v = .pointer (some ⟨b, 0, none⟩) ∧ EvBox w b x
/-- A pointer to the configuration, or none. -/
def CfgAt (w : World) (v : Value) : List Ev → Prop
  | [] => v = .pointer none
  | c :: _ => ∃ b, v = .pointer (some ⟨b, 0, none⟩) ∧ BoxAt w b c.cfg.cells.toArray 37
/-- An automaton's cells. -/
def autCells (cv : Value) (pv : List Value) (n : Int) (bm : Nat) : Array Value := (cv :: (pv ++ [.int .i64 n, .map (some bm)])).toArray
theorem aut_0 (cv : Value) (pv : List Value) (n : Int) (bm : Nat) : (autCells cv pv n bm)[0]? = some cv := rfl
theorem aut_p {cv : Value} {pv : List Value} {n : Int} {bm : Nat} {c : Nat} (h : c < pv.length) : (autCells cv pv n bm)[1 + c]? = pv[c]? := by
  simp [autCells, Nat.add_comm 1 c, List.getElem?_append_left h]
theorem aut_17 {cv : Value} {pv : List Value} {n : Int} {bm : Nat} (h : pv.length = 16) : (autCells cv pv n bm)[17]? = some (.int .i64 n) := by
  simp [autCells, List.getElem?_append_right, h]
theorem aut_18 {cv : Value} {pv : List Value} {n : Int} {bm : Nat} (h : pv.length = 16) : (autCells cv pv n bm)[18]? = some (.map (some bm)) := by
  simp [autCells, List.getElem?_append_right, h]
/-- A map that tells what has been appended. -/
structure MapAt (w : World) (bm n : Nat) (D : DataW Unit) (L : List Ev) : Prop where
  own : w.ownsMap Tryz.prog 60 (plainElem Tryz.prog 4) bm n D
  at_ : ∀ k v, k < 256 → v < 65536 → D.atKey (ekey k v) (.lit (.bool false)) = .lit (.bool (app L k v))
/-- An automaton that has taken these events. -/
structure AutAt (w : World) (p : Nat) (cv : Value) (pv : List Value) (bm n : Nat) (D : DataW Unit) (L : List Ev) : Prop where
  box : BoxAt w p (autCells cv pv (lastId L) bm) 56
  len : pv.length = 16
  cfg : CfgAt w cv L
  pend : ∀ c v, pv[c]? = some v → PendAt w v (pend L c)
  map : MapAt w bm n D L
theorem EvBox.fr {a w : World} {b : Nat} {x : Ev} (h : EvBox a b x) (f : Fr a w) : EvBox w b x := by
  obtain ⟨t, r, h1, h2, h3⟩ := h
  exact ⟨t, r, h1.fr f, h2.keep f, h3.keep f⟩
theorem PendAt.fr {a w : World} {v : Value} {o : Option Ev} (h : PendAt a v o) (f : Fr a w) : PendAt w v o := by
  cases o with
  | none => exact h
  | some x => obtain ⟨b, h1, h2⟩ := h; exact ⟨b, h1, h2.fr f⟩
theorem CfgAt.fr {a w : World} {v : Value} {L : List Ev} (h : CfgAt a v L) (f : Fr a w) : CfgAt w v L := by
  cases L with
  | nil => exact h
  | cons x l => obtain ⟨b, h1, h2⟩ := h; exact ⟨b, h1, h2.fr f⟩
theorem MapAt.fr {a w : World} {bm n : Nat} {D : DataW Unit} {L : List Ev} (h : MapAt a bm n D L) (f : Fr a w) : MapAt w bm n D L := by
  refine ⟨?_, h.at_⟩
  have hlt := h.own.lt
  obtain ⟨es, clock, hb, F, hs, hD⟩ := h.own
  exact ⟨es, clock, (f.block hlt).trans hb, F, hs, hD⟩
theorem AutAt.fr {a w : World} {p : Nat} {cv : Value} {pv : List Value} {bm n : Nat} {D : DataW Unit} {L : List Ev} (h : AutAt a p cv pv bm n D L) (f : Fr a w) : AutAt w p cv pv bm n D L :=
  ⟨h.box.fr f, h.len, h.cfg.fr f, fun c v hc => (h.pend c v hc).fr f, h.map.fr f⟩
theorem run_equalIn_mnil (n : Nat) {P : Program} {t k e : TypeId} (h : P.underlying t = some (.map k e)) (b : Nat) (W : World) : (Op.equalIn (n + 1) t (.map (some b)) (.map none)).run P W = .ok false W := by
  simp [Op.equalIn, run_underlying h]
/-- A map that is there is not nil. -/
theorem run_neq_mnil {P : Program} {t k e : TypeId} (h : P.underlying t = some (.map k e)) (b : Nat) (W : World) : (binOp .neq t (.map (some b)) (.map none)).run P W = .ok (.bool true) W := by
  have e1 : (binOp .neq t (.map (some b)) (.map none)).run P W = ((Op.equalIn 10000 t (.map (some b)) (.map none)).run P W).andThen fun b w' => .ok (.bool !b) w' := by
    simp only [binOp]
    simp [Op.equal, Op.maxDepth]
  rw [e1, run_equalIn_mnil 9999 h]
  rfl
set_option maxRecDepth 100000 in
theorem autIs_c {p : Nat} {cv : Value} {pv : List Value} {bm n : Nat} {D : DataW Unit} {L : List Ev} (w : World) (h : AutAt w p cv pv bm n D L) :
    Calls Tryz.prog 17 #[.pointer (some ⟨p, 0, none⟩)] w fun e w' => e = .returned (.bool true) ∧ Fr w w' := by
  have c18 := h.box.at 18 (aut_18 h.len)
  have hlt := h.box.lt
  have hnil := run_neq_mnil (P := Tryz.prog) Tryz.underlying51 bm w
  clear h
  go_enter Tryz.func17, Tryz.ntmps17
  go_wp2
  all_goals go_ret
  all_goals exact ⟨rfl, Fr.refl _⟩
set_option maxRecDepth 100000 in
theorem autLast_c {p : Nat} {cv : Value} {pv : List Value} {bm n : Nat} {D : DataW Unit} {L : List Ev} (w : World) (h : AutAt w p cv pv bm n D L) :
    Calls Tryz.prog 23 #[.pointer (some ⟨p, 0, none⟩)] w fun e w' => e = .returned (.int .i64 (lastId L)) ∧ Fr w w' := by
  have c17 := h.box.at 17 (aut_17 h.len)
  have hlt := h.box.lt
  have hI := Lib.hid (fun W (f : Fr w W) => autIs_c W (h.fr f))
  clear h
  go_enter Tryz.func23, Tryz.ntmps23
  go_wp2_with fail
  refine (hI.out _ (Fr.refl _)).mono ?_
  rintro e w1 ⟨rfl, hb⟩
  have c17 := hb.keep c17
  have hl1 := hb.size
  go_wp2
  go_ret
  exact ⟨rfl, hb⟩
set_option maxRecDepth 100000 in
theorem autConfigNone_c {p : Nat} {cv : Value} {pv : List Value} {bm n : Nat} {D : DataW Unit} (w : World) (h : AutAt w p cv pv bm n D []) :
    Calls Tryz.prog 20 #[.pointer (some ⟨p, 0, none⟩)] w fun e w' => e = .returned (.tuple #[.agg Cfg.zero.cells.toArray, .bool false]) ∧ Fr w w' := by
  have c0 := h.box.at 0 (aut_0 _ _ _ _)
  have hlt := h.box.lt
  have hcv := h.cfg
  have hI := Lib.hid (fun W (f : Fr w W) => autIs_c W (h.fr f))
  clear h
  change cv = _ at hcv
  subst hcv
  go_enter Tryz.func20, Tryz.ntmps20
  go_wp2_with fail
  refine (hI.out _ ((Fr.refl _).alloc _)).mono ?_
  rintro e w1 ⟨rfl, hb⟩
  have c0 := (((Fr.refl _).alloc _).trans hb).keep c0
  have hf := ((Fr.refl _).alloc _).trans hb
  have hl1 : w.heap.size < w1.heap.size := by have := hb.size; simp at this; omega
  have hB := BoxAt.of_fr hb
  clear hb hI
  have e0 := hB.at 0 rfl
  have e1 := hB.at 1 rfl
  have e2 := hB.at 2 rfl
  have e3 := hB.at 3 rfl
  have e4 := hB.at 4 rfl
  have e5 := hB.at 5 rfl
  have e6 := hB.at 6 rfl
  have z0 := hB.free 0
  have z1 := hB.free 1
  have z2 := hB.free 2
  have z3 := hB.free 3
  have z4 := hB.free 4
  have z5 := hB.free 5
  have z6 := hB.free 6
  go_wp2
  refine bodyPost_ret (v := .tuple #[.agg Cfg.zero.cells.toArray, .bool false]) (by simp [results, Tryz.results20, go_sem, Cfg.zero, Cfg.cells, e0, e1, e2, e3, e4, e5, e6]) rfl ⟨rfl, ?_⟩
  exact (((((((hf.setCell (by simp) _).setCell (by simp) _).setCell (by simp) _).setCell (by simp) _).setCell (by simp) _).setCell (by simp) _).setCell (by simp) _)
set_option maxRecDepth 100000 in
theorem autConfig_c {p : Nat} {cv : Value} {pv : List Value} {bm n : Nat} {D : DataW Unit} {c : Ev} {L : List Ev} (w : World) (h : AutAt w p cv pv bm n D (c :: L)) :
    Calls Tryz.prog 20 #[.pointer (some ⟨p, 0, none⟩)] w fun e w' => e = .returned (.tuple #[.agg c.cfg.cells.toArray, .bool true]) ∧ Fr w w' := by
  have c0 := h.box.at 0 (aut_0 _ _ _ _)
  have hlt := h.box.lt
  have hcv := h.cfg
  have hI := Lib.hid (fun W (f : Fr w W) => autIs_c W (h.fr f))
  clear h
  obtain ⟨b, rfl, hC⟩ := hcv
  go_enter Tryz.func20, Tryz.ntmps20
  go_wp2_with fail
  refine (hI.out _ ((Fr.refl _).alloc _)).mono ?_
  rintro e w1 ⟨rfl, hb⟩
  have c0 := (((Fr.refl _).alloc _).trans hb).keep c0
  have hf := ((Fr.refl _).alloc _).trans hb
  have hl1 : w.heap.size < w1.heap.size := by have := hb.size; simp at this; omega
  have hB := BoxAt.of_fr hb
  have hD := hC.fr hf
  have hlb := hD.lt
  have g0 : w1.cell? ⟨b, 0, none⟩ = some (.int .u8 c.cfg.model) := hD.at 0 rfl
  have g1 : w1.cell? ⟨b, 1, none⟩ = some (.int .i64 c.cfg.opens) := hD.at 1 rfl
  have g2 : w1.cell? ⟨b, 2, none⟩ = some (.int .i64 c.cfg.states) := hD.at 2 rfl
  have g3 : w1.cell? ⟨b, 3, none⟩ = some (.int .i64 c.cfg.steps) := hD.at 3 rfl
  have g4 : w1.cell? ⟨b, 4, none⟩ = some (.bool c.cfg.part) := hD.at 4 rfl
  have g5 : w1.cell? ⟨b, 5, none⟩ = some (.bool c.cfg.cut) := hD.at 5 rfl
  have g6 : w1.cell? ⟨b, 6, none⟩ = some (.bool c.cfg.memo) := hD.at 6 rfl
  have hbn : b ≠ w.heap.size := by have := hC.lt; omega
  clear hb hI hC
  have e0 := hB.at 0 rfl
  have e1 := hB.at 1 rfl
  have e2 := hB.at 2 rfl
  have e3 := hB.at 3 rfl
  have e4 := hB.at 4 rfl
  have e5 := hB.at 5 rfl
  have e6 := hB.at 6 rfl
  have z0 := hB.free 0
  have z1 := hB.free 1
  have z2 := hB.free 2
  have z3 := hB.free 3
  have z4 := hB.free 4
  have z5 := hB.free 5
  have z6 := hB.free 6
  go_wp2
  refine bodyPost_ret (v := .tuple #[.agg c.cfg.cells.toArray, .bool true]) (by simp [results, Tryz.results20, go_sem, Cfg.cells, e0, e1, e2, e3, e4, e5, e6]) rfl ⟨rfl, ?_⟩
  exact (((((((hf.setCell (by simp) _).setCell (by simp) _).setCell (by simp) _).setCell (by simp) _).setCell (by simp) _).setCell (by simp) _).setCell (by simp) _)
theorem app_nil (k v : Nat) : app [] k v = false := rfl
theorem MapAt.made (w : World) : MapAt (w.alloc (.map #[] 0)) w.heap.size 0 (.map []) [] :=
  ⟨World.ownsMap_made w _ _ _, fun _ _ _ _ => rfl⟩
set_option maxRecDepth 100000 in
theorem autNew_c (w : World) : Calls Tryz.prog 9 #[] w fun e w' => (∃ p cv pv bm n D, e = .returned (.pointer (some ⟨p, 0, none⟩)) ∧ w.heap.size ≤ p ∧ AutAt w' p cv pv bm n D []) ∧ Fr w w' := by
  have hmm := @run_makeMap Tryz.prog
  go_enter Tryz.func9, Tryz.ntmps9
  go_wp2
  go_ret
  refine ⟨⟨_, .pointer none, List.replicate 16 (.pointer none), w.heap.size, 0, .map [], rfl, ?_, ⟨?_, rfl, rfl, ?_, ?_⟩⟩, ?_⟩
  · simp
  · exact BoxAt.new' _ (autCells (.pointer none) (List.replicate 16 (.pointer none)) (lastId []) w.heap.size) 56 _ (by simp)
  · intro c v hc
    have := List.mem_of_getElem? hc
    exact List.eq_of_mem_replicate this
  · exact (MapAt.made w).fr ((Fr.refl _).alloc _)
  · exact ((Fr.refl _).alloc _).alloc _
end Go.Proofs.YtdjjjnoecfbjeaaGreatDoor

/- What stays readable while an automaton is written. No condition but what each says. -/
namespace Go.Proofs.YtdjjjnoecfbjeaaGreatDoor
open Go.RowKit

/-- A block in which no event, no list and no number of 8 or 16 bits stands. -/
def Shut (w : World) (b : Nat) : Prop := ∀ o u, w.cell? ⟨b, o, none⟩ = some u → (match u with | .pointer _ => True | .int .i64 _ => True | .map _ => True | _ => False)
theorem SlAt.apart {w : World} {v : Value} {n : Nat} {xs : List Value} (h : SlAt w Any v n xs) {Z : Nat → Prop} (hx : ∀ u b o, xs[0]? = some u → w.cell? ⟨b, o, none⟩ = some u → Z b) : SlAt w Z v n xs := by
  obtain ⟨a, cap, rfl, h1, h2, h3⟩ := h
  refine ⟨a, cap, rfl, h1, h2, ?_⟩
  rcases h3 with h3 | ⟨b, off, rfl, _, hlt, hc⟩
  · exact .inl h3
  · cases xs with
    | nil => exact .inl rfl
    | cons u l => exact .inr ⟨b, off, rfl, hx u b off rfl (hc 0 u rfl), hlt, hc⟩
theorem SlAt.ch2 {w w' : World} {p q : Nat} {v : Value} {n : Nat} {xs : List Value} (h : SlAt w Any v n xs) (hp : Shut w p) (hq : Shut w q) (f : Ch2 p q w w')
    (hx : ∀ u, xs[0]? = some u → (match u with | .pointer _ => True | .int .i64 _ => True | .map _ => True | _ => False) → False) : SlAt w' Any v n xs := by
  have h1 : SlAt w (fun b => b ≠ p ∧ b ≠ q) v n xs := h.apart fun u b o hu hc =>
    ⟨fun e => hx u hu (hp o u (e ▸ hc)), fun e => hx u hu (hq o u (e ▸ hc))⟩
  exact (h1.keep f.size fun k hz hk => f.block k hk hz.1 hz.2).mono fun _ _ => trivial
theorem Rd16.ch2 {w w' : World} {p q : Nat} {v : Value} {l : List Nat} (h : Rd16 w v l) (hp : Shut w p) (hq : Shut w q) (f : Ch2 p q w w') : Rd16 w' v l :=
  SlAt.ch2 h hp hq f fun u hu hm => by
    cases l with
    | nil => simp [u16Cells] at hu
    | cons n l => simp [u16Cells] at hu; subst hu; exact hm
theorem RdM.ch2 {w w' : World} {p q : Nat} {v : Value} {l : List Mic} (h : RdM w v l) (hp : Shut w p) (hq : Shut w q) (f : Ch2 p q w w') : RdM w' v l :=
  SlAt.ch2 h hp hq f fun u hu hm => by
    cases l with
    | nil => simp [micCells] at hu
    | cons m l => simp [micCells, Mic.cells] at hu; subst hu; exact hm
theorem RdR.ch2 {w w' : World} {p q : Nat} {v : Value} {l : List (List Nat)} (h : RdR w v l) (hp : Shut w p) (hq : Shut w q) (f : Ch2 p q w w') : RdR w' v l := by
  obtain ⟨vs, h1, h2, h3⟩ := h
  refine ⟨vs, h1, SlAt.ch2 h2 hp hq f fun u hu hm => ?_, fun i x u hx hu => (h3 i x u hx hu).ch2 hp hq f⟩
  cases l with
  | nil => rw [List.eq_nil_of_length_eq_zero h1] at hu; simp at hu
  | cons x l =>
    obtain ⟨a, cap, rfl, _⟩ := h3 0 x u rfl hu
    exact hm
theorem BoxAt.ch2 {w w' : World} {p q b : Nat} {c : Array Value} {t : TypeId} (h : BoxAt w b c t) (hp : b ≠ p) (hq : b ≠ q) (f : Ch2 p q w w') : BoxAt w' b c t := (f.block b h.lt hp hq).trans h
theorem BoxAt.shut {w : World} {p b : Nat} {c : Array Value} {t : TypeId} (h : BoxAt w b c t) (hp : Shut w p) (k : Nat) {n : Int} (hc : c[k]? = some (.int .u8 n)) : b ≠ p := by
  rintro rfl
  exact hp k _ (h.at k hc)
theorem EvBox.ch2 {w w' : World} {p q b : Nat} {x : Ev} (h : EvBox w b x) (hp : Shut w p) (hq : Shut w q) (f : Ch2 p q w w') : EvBox w' b x := by
  obtain ⟨t, r, h1, h2, h3⟩ := h
  exact ⟨t, r, h1.ch2 (h1.shut hp 0 rfl) (h1.shut hq 0 rfl) f, h2.ch2 hp hq f, h3.ch2 hp hq f⟩
theorem EvAt.ch2 {w w' : World} {p q : Nat} {v : Value} {x : Ev} (h : EvAt w v x) (hp : Shut w p) (hq : Shut w q) (f : Ch2 p q w w') : EvAt w' v x := by
  obtain ⟨t, r, h1, h2, h3⟩ := h
  exact ⟨t, r, h1, h2.ch2 hp hq f, h3.ch2 hp hq f⟩
theorem PendAt.ch2 {w w' : World} {p q : Nat} {v : Value} {o : Option Ev} (h : PendAt w v o) (hp : Shut w p) (hq : Shut w q) (f : Ch2 p q w w') : PendAt w' v o := by
  cases o with
  | none => exact h
  | some x => obtain ⟨b, h1, h2⟩ := h; exact ⟨b, h1, h2.ch2 hp hq f⟩
theorem CfgAt.ch2 {w w' : World} {p q : Nat} {v : Value} {L : List Ev} (h : CfgAt w v L) (hp : Shut w p) (hq : Shut w q) (f : Ch2 p q w w') : CfgAt w' v L := by
  cases L with
  | nil => exact h
  | cons x l => obtain ⟨b, h1, h2⟩ := h; exact ⟨b, h1, h2.ch2 (h2.shut hp 0 rfl) (h2.shut hq 0 rfl) f⟩
theorem MapAt.ch2 {w w' : World} {p q bm n : Nat} {D : DataW Unit} {L : List Ev} (h : MapAt w bm n D L) (hp : bm ≠ p) (hq : bm ≠ q) (f : Ch2 p q w w') : MapAt w' bm n D L := by
  refine ⟨?_, h.at_⟩
  have hlt := h.own.lt
  obtain ⟨es, clock, hb, F, hs, hD⟩ := h.own
  exact ⟨es, clock, (f.block _ hlt hp hq).trans hb, F, hs, hD⟩
theorem MapAt.shut {w : World} {bm n : Nat} {D : DataW Unit} {L : List Ev} (h : MapAt w bm n D L) : Shut w bm := by
  obtain ⟨es, clock, hb, _⟩ := h.own
  intro o u hc
  simp [World.cell?, hb] at hc
theorem CfgAt.ptr {w : World} {v : Value} {L : List Ev} (h : CfgAt w v L) : ∃ a, v = .pointer a := by
  cases L with
  | nil => exact ⟨_, h⟩
  | cons x l => obtain ⟨b, h1, _⟩ := h; exact ⟨_, h1⟩
theorem PendAt.ptr {w : World} {v : Value} {o : Option Ev} (h : PendAt w v o) : ∃ a, v = .pointer a := by
  cases o with
  | none => exact ⟨_, h⟩
  | some x => obtain ⟨b, h1, _⟩ := h; exact ⟨_, h1⟩
theorem AutAt.shut {w : World} {p : Nat} {cv : Value} {pv : List Value} {bm n : Nat} {D : DataW Unit} {L : List Ev} (h : AutAt w p cv pv bm n D L) : Shut w p := by
  intro o u hc
  rw [h.box.cell] at hc
  have hl := h.len
  by_cases h0 : o = 0
  · subst h0
    obtain ⟨a, ha⟩ := h.cfg.ptr
    simp [autCells] at hc
    subst hc; rw [ha]; trivial
  · by_cases h1 : o < 17
    · have e : o = 1 + (o - 1) := by omega
      rw [e, aut_p (by omega)] at hc
      obtain ⟨a, ha⟩ := (h.pend _ _ hc).ptr
      rw [ha]; trivial
    · by_cases h17 : o = 17
      · subst h17; rw [aut_17 hl] at hc; cases hc; trivial
      · by_cases h18 : o = 18
        · subst h18; rw [aut_18 hl] at hc; cases hc; trivial
        · have : (autCells cv pv (lastId L) bm).size = 19 := by simp [autCells, hl]
          rw [Array.getElem?_eq_none (by omega)] at hc
          cases hc
theorem AutAt.ne {w : World} {p : Nat} {cv : Value} {pv : List Value} {bm n : Nat} {D : DataW Unit} {L : List Ev} (h : AutAt w p cv pv bm n D L) {bm' n' : Nat} {D' : DataW Unit} {L' : List Ev} (k : MapAt w bm' n' D' L') : p ≠ bm' := by
  rintro rfl
  obtain ⟨es, clock, hb, _⟩ := k.own
  have := h.box
  unfold BoxAt at this
  rw [hb] at this
  cases this
/-- An automaton stays while another one is written. -/
theorem AutAt.ch2 {w w' : World} {p q : Nat} {cv : Value} {pv : List Value} {bm bq n m : Nat} {D E : DataW Unit} {L M : List Ev} {cw : Value} {pw : List Value} (h : AutAt w p cv pv bm n D L) (k : AutAt w q cw pw bq m E M) (hpq : p ≠ q) (hb : bm ≠ bq) (f : Ch2 q bq w w') : AutAt w' p cv pv bm n D L :=
  ⟨h.box.ch2 hpq (h.ne k.map) f, h.len, h.cfg.ch2 k.shut k.map.shut f, fun c v hc => (h.pend c v hc).ch2 k.shut k.map.shut f, h.map.ch2 (fun e => (k.ne h.map) e.symm) hb f⟩
end Go.Proofs.YtdjjjnoecfbjeaaGreatDoor

/- An event in memory of its own; whether an event is one of the model's. No condition but that the event can be read. -/
namespace Go.Proofs.YtdjjjnoecfbjeaaGreatDoor
open Go.RowKit
attribute [local go_sem] Oper.semAt_some

theorem Tryz.infoMicH : (Tryz.prog.info? 58).map (fun i => (i.zero, i.size, i.bytes)) = some (some (.agg #[.bool false, .int .u8 0, .int .u16 0]), 3, 4) := by kernel_rfl
theorem micCells_len (l : List Mic) : (micCells l).length = l.length * 3 := by
  induction l with
  | nil => rfl
  | cons m l ih => simp only [micCells, List.flatMap_cons, List.length_append, Mic.cells, List.length_cons, List.length_nil] at ih ⊢; omega
theorem micCells_one (l : List Mic) : ∀ u ∈ micCells l, u.oneCell' = true := by
  intro u hu
  unfold micCells at hu
  obtain ⟨m, _, hm⟩ := List.mem_flatMap.1 hu
  simp [Mic.cells] at hm
  rcases hm with rfl | rfl | rfl <;> rfl
theorem micCells_nil {l : List Mic} (h : micCells l = []) : l = [] := by
  have := micCells_len l
  rw [h] at this
  exact List.eq_nil_of_length_eq_zero (by simp at this; omega)
set_option maxRecDepth 100000 in
theorem cloneM_c (t : Value) (l : List Mic) (w : World) (h : RdM w t l) (hl : l.length ≤ 1000) :
    Calls Tryz.prog 36 #[t] w fun e w' => ∃ a c, e = .returned (.slice a l.length c) ∧ SlAt w' (w.heap.size ≤ ·) (.slice a l.length c) l.length (micCells l) ∧ Fr w w' := by
  obtain ⟨a, c, rfl, hc, hm, hx⟩ := id h
  obtain ⟨i0, hi0, hz0, hz1, hz2⟩ := info_parts Tryz.infoMicH
  have hq := fun (w : World) (a : Option Addr) (n c n' c' : Nat) => Lib.run_eql_slice_nil w 34 58 a n c n' c' Tryz.underlying34
  cases a with
  | none =>
    have hl0 : l = [] := by
      rcases hx with hx | ⟨b, off, h1, _⟩
      · exact micCells_nil hx
      · cases h1
    subst hl0
    clear hi0 hz0 hz1 hz2
    go_enter Tryz.func36, Tryz.ntmps36
    go_wp2_with fail
    go_ret
    exact ⟨none, 0, rfl, ⟨none, 0, rfl, Nat.le_refl _, by decide, .inl rfl⟩, Fr.refl _⟩
  | some ad =>
    have HX := Lib.hid (show ∀ j u, (micCells l)[j]? = some u → w.cell? (ad.add j) = some u from fun j u hj => by
      rcases hx with hx | ⟨b, off, h1, _, _, h3⟩
      · rw [hx] at hj; simp at hj
      · cases h1
        rw [WideShapes.add_plain]
        exact h3 j u hj)
    have HI := Lib.hid hi0
    have HZ0 := Lib.hid hz0
    have HZ1 := Lib.hid hz1
    have HZ2 := Lib.hid hz2
    clear hi0 hz0 hz1 hz2 hx h
    go_enter Tryz.func36, Tryz.ntmps36
    go_wp2_with (at_builtin; refine wpList_append_own _ rfl (.tmp 5) (.tmp 6) 34 rfl w.heap.size 58 i0 _ 3 4 Tryz.underlying34 HI.out HZ0.out HZ1.out HZ2.out rfl (by decide) _ 0 [] rfl (World.ownsRow_made w #[] 0 (Nat.le_refl _) (Nat.zero_le _) rfl) ad l.length c (micCells l) rfl (by rw [micCells_len]) ?c1 (micCells_one l) ?c2 ?c3 ?c4 ?_)
    case c1 => intro j u hj; exact Lib.cell?_alloc_some _ (HX.out j u hj)
    case c2 => unfold maxLen; omega
    case c3 => omega
    case c4 => simp
    intro v' w1 hown hgrow hnil
    go_wp2_with fail
    go_ret
    obtain ⟨a', c', hv, _⟩ := (SlAt.own hown).form
    subst hv
    refine ⟨a', c', rfl, SlAt.own hown, ?_⟩
    exact ((Below.refl w.heap.size w).alloc (Nat.le_refl _) _).grown hgrow (by simp) (by intro k hk; simp [Value.ownBlock] at hk; omega)
theorem Relaid.rdM {b : Nat} {c : Array Value} {t : TypeId} {w w' : World} (h : Relaid b c t w w') {v : Value} {l : List Mic} (hr : RdM w v l) (hb : Shut w b) : RdM w' v l :=
  RdM.ch2 (p := b) (q := b) hr hb hb ⟨h.os, h.tape, h.output, by rw [h.size]; exact Nat.le_refl _, fun k hk h1 _ => h.other k h1⟩
set_option maxRecDepth 100000 in
theorem results_evg {fn : Func} {p : Tmp} (h : fn.results = #[.cell p 39]) (tmps : Array Value) (w : World) (g : Nat) (c : Array Value) (hp : tmps.getD p undef = .pointer (some ⟨g, 0, none⟩)) (hB : BoxAt w g c 39) (hc : c.size = 19) :
    (results fn tmps).run Tryz.prog w = .ok (.agg c) w :=
  results_cell_row h tmps _ g 39 c (0, 0) _ hp hB Tryz.underlying39 rfl (by rw [hc]; exact Tryz.infoEv)
set_option maxRecDepth 100000 in
set_option maxHeartbeats 1000000 in
theorem own2_c (x : Ev) (t r : Value) (w : World) (ht : RdM w t x.txn) (hr : RdR w r x.reads) (hl : x.txn.length ≤ 1000) :
    Calls Tryz.prog 19 #[x.val t r] w fun e w' => ∃ ta tn tc, e = .returned (x.val (.slice ta tn tc) r) ∧ SlAt w' (w.heap.size ≤ ·) (.slice ta tn tc) x.txn.length (micCells x.txn) ∧ Fr w w' := by
  obtain ⟨ta, tn, tc, rfl⟩ := ht.slice
  obtain ⟨ra, rn, rc, rfl⟩ := hr.slice
  have hB0 := (BoxAt.new w (x.cells (.slice ta tn tc) (.slice ra rn rc)) 39).alloc (.cells zeroCells 39)
  have hC0 := BoxAt.new' (w.alloc (.cells (x.cells (.slice ta tn tc) (.slice ra rn rc)) 39)) zeroCells 39 (w.heap.size + 1) (by simp)
  have hF0 : Fr w ((w.alloc (.cells (x.cells (.slice ta tn tc) (.slice ra rn rc)) 39)).alloc (.cells zeroCells 39)) := ((Fr.refl w).alloc _).alloc _
  have hcl := fun W (f : Fr w W) => cloneM_c (.slice ta tn tc) x.txn W (ht.keep f) hl
  have HC := Lib.hid hcl
  clear hcl
  unfold Ev.cells at hB0 hC0 hF0
  unfold zeroCells at hB0 hC0 hF0
  unfold Ev.val
  go_enter Tryz.func19, Tryz.ntmps19
  go_wp2_with fail
  refine (HC.out _ hF0).mono ?_
  rintro e w1 ⟨a, c, rfl, hm, hb⟩
  have hB1 := hB0.fr hb
  have hC1 := hC0.fr hb
  have c10 := hB1.free 10
  have d10 := hB1.at 10 rfl
  have hz0 := hB1.lt
  have hz1 := hC1.lt
  have hF1 := hF0.trans hb
  have hC2 : BoxAt (w1.setCell ⟨w.heap.size, 10, none⟩ (.slice a x.txn.length c)) _ _ _ := hC1.set (p := ⟨w.heap.size, 10, none⟩) (by simp) (.slice a x.txn.length c)
  have hB2 : BoxAt (w1.setCell ⟨w.heap.size, 10, none⟩ (.slice a x.txn.length c)) w.heap.size (x.cells (.slice a x.txn.length c) (.slice ra rn rc)) 39 := hB1.setAt 10 (.slice a x.txn.length c)
  have hF2 := hF1.setCell (p := ⟨w.heap.size, 10, none⟩) (Nat.le_refl _) (.slice a x.txn.length c)
  have hM2 : SlAt (w1.setCell ⟨w.heap.size, 10, none⟩ (.slice a x.txn.length c)) (w.heap.size + 2 ≤ ·) (.slice a x.txn.length c) x.txn.length (micCells x.txn) :=
    SlAt.keep (by simpa using hm) (by simp) fun k hk _ => Below.heap_setCell w1 _ _ k (by simp; omega)
  have hR2 := hr.keep hF2
  have hsz2 : (w1.setCell ⟨w.heap.size, 10, none⟩ (.slice a x.txn.length c)).heap.size = w1.heap.size := by simp
  clear hB1 hC1 hF1 hm hb hB0 hC0 hF0
  unfold Ev.cells at hB2
  go_wp2_with (first | ((with_reducible refine wpList_here (.load 39 (.tmp 1)) rfl ?_); refine wpList_load_box 39 (.tmp 1) rfl _ rfl _ hB2 _ Tryz.underlying39 rfl Tryz.infoEv rfl ?_) | ((with_reducible refine wpList_here (.store 39 (.tmp 2) (.tmp 7)) rfl ?_); refine wpList_store_old 39 (.tmp 2) (.tmp 7) rfl (w.heap.size + 1) _ _ rfl rfl hC2 Tryz.infoEv rfl (Ev.oneCell x a ra x.txn.length c rn rc) rfl rfl ?_; intro w3 hw3))
  have hM3 : SlAt w3 (w.heap.size + 2 ≤ ·) (.slice a x.txn.length c) x.txn.length (micCells x.txn) := hM2.keep (by rw [hw3.size]; exact Nat.le_refl _) fun k hk _ => hw3.other k (by omega)
  refine bodyPost_ret (v := x.val (.slice a x.txn.length c) (.slice ra rn rc)) (results_evg rfl _ _ (w.heap.size + 1) _ rfl hw3.box rfl) rfl ⟨a, _, c, rfl, hM3.mono fun _ h => by omega, hw3.fr hF2 (by omega)⟩
theorem own_c (x : Ev) (v : Value) (w : World) (h : EvAt w v x) (hl : x.txn.length ≤ 1000) :
    Calls Tryz.prog 19 #[v] w fun e w' => ∃ ta tn tc ra rn rc, e = .returned (x.val (.slice ta tn tc) (.slice ra rn rc)) ∧ SlAt w' (w.heap.size ≤ ·) (.slice ta tn tc) x.txn.length (micCells x.txn) ∧ RdR w' (.slice ra rn rc) x.reads ∧ Fr w w' := by
  obtain ⟨t, r, rfl, ht, hr⟩ := h
  obtain ⟨ra, rn, rc, rfl⟩ := hr.slice
  exact (own2_c x t _ w ht hr hl).mono fun e w' ⟨ta, tn, tc, he, hm, hf⟩ => ⟨ta, tn, tc, ra, rn, rc, he, hm, hr.keep hf, hf⟩
end Go.Proofs.YtdjjjnoecfbjeaaGreatDoor

/- Whether an event fits an automaton's model; whether it ends what is open. No condition but that the automaton and the event can be read. -/
namespace Go.Proofs.YtdjjjnoecfbjeaaGreatDoor
open Go.RowKit
attribute [local go_sem] Oper.semAt_some

theorem beqN (a b : Nat) : ((a : Int) == (b : Int)) = decide (a = b) := by
  by_cases h : a = b
  · subst h; simp
  · rw [decide_eq_false h]; simp; omega
set_option maxRecDepth 100000 in
theorem fits_c {p : Nat} {cv : Value} {pv : List Value} {bm n : Nat} {D : DataW Unit} {c : Ev} {L : List Ev} (w : World) (h : AutAt w p cv pv bm n D (c :: L)) (x : Ev) (t r : Value) :
    Calls Tryz.prog 33 #[.pointer (some ⟨p, 0, none⟩), x.val t r] w fun e w' => e = .returned (.int .i64 ((if foreign c.cfg.model x.kind then 10 else 0 : Nat) : Int)) ∧ Fr w w' := by
  have c0 := h.box.at 0 (aut_0 _ _ _ _)
  have hlt := h.box.lt
  have hcv := h.cfg
  clear h
  obtain ⟨b, rfl, hC⟩ := hcv
  have d0 : w.cell? ⟨b, 0, none⟩ = some (.int .u8 c.cfg.model) := hC.at 0 rfl
  have hlb := hC.lt
  clear hC
  unfold Ev.val
  generalize c.cfg.model = m at d0 ⊢
  generalize x.kind = k
  have em : ((m : Int) == 4) = decide (m = 4) := beqN m 4
  have e2 : ((k : Int) == 2) = decide (k = 2) := beqN k 2
  have e3 : ((k : Int) == 3) = decide (k = 3) := beqN k 3
  have e5 : ((k : Int) == 5) = decide (k = 5) := beqN k 5
  have e6 : ((k : Int) == 6) = decide (k = 6) := beqN k 6
  have e7 : ((k : Int) == 7) = decide (k = 7) := beqN k 7
  cases hv : foreign m k
  all_goals by_cases hm : m = 4
  all_goals rcases (show k = 2 ∨ k = 3 ∨ k = 5 ∨ k = 6 ∨ k = 7 ∨ (k ≠ 2 ∧ k ≠ 3 ∧ k ≠ 5 ∧ k ≠ 6 ∧ k ≠ 7) by omega) with hk | hk | hk | hk | hk | hk
  all_goals first
    | (exfalso; simp [foreign, hm, hk] at hv; done)
    | (first | rw [decide_eq_true hm] at em | rw [decide_eq_false hm] at em
       first | rw [decide_eq_true (by omega)] at e2 | rw [decide_eq_false (by omega)] at e2
       first | rw [decide_eq_true (by omega)] at e3 | rw [decide_eq_false (by omega)] at e3
       first | rw [decide_eq_true (by omega)] at e5 | rw [decide_eq_false (by omega)] at e5
       first | rw [decide_eq_true (by omega)] at e6 | rw [decide_eq_false (by omega)] at e6
       first | rw [decide_eq_true (by omega)] at e7 | rw [decide_eq_false (by omega)] at e7
       clear hv hm hk
       go_enter Tryz.func33, Tryz.ntmps33
       go_wp2_with fail
       go_ret
       exact ⟨rfl, (Fr.refl _).alloc _⟩)
end Go.Proofs.YtdjjjnoecfbjeaaGreatDoor

/- Whether an event ends what its client has open. No condition but that the automaton and the event can be read, and that there is such a client. -/
namespace Go.Proofs.YtdjjjnoecfbjeaaGreatDoor
open Go.RowKit
attribute [local go_sem] Oper.semAt_some

theorem aut_client {w : World} {p : Nat} {cv : Value} {pv : List Value} {bm n : Nat} {D : DataW Unit} {L : List Ev} (h : AutAt w p cv pv bm n D L) {k : Nat} (hk : k < 16) :
    ∃ v, pv[k]? = some v ∧ w.cell? ⟨p, 1 + k, none⟩ = some v ∧ PendAt w v (pend L k) := by
  have hl : k < pv.length := by rw [h.len]; exact hk
  refine ⟨pv[k], by simp [hl], ?_, h.pend k _ (by simp [hl])⟩
  refine h.box.at (1 + k) ?_
  rw [aut_p hl]; simp [hl]
set_option maxRecDepth 100000 in
theorem endsNone_c {p : Nat} {cv : Value} {pv : List Value} {bm n : Nat} {D : DataW Unit} {L : List Ev} (w : World) (h : AutAt w p cv pv bm n D L) (x : Ev) (t r : Value) (hc : x.client < 16) (hp : pend L x.client = none) :
    Calls Tryz.prog 35 #[.pointer (some ⟨p, 0, none⟩), x.val t r] w fun e w' => e = .returned (.int .i64 7) ∧ Fr w w' := by
  obtain ⟨v, _, hv, hP⟩ := aut_client h hc
  have hlt := h.box.lt
  rw [hp] at hP
  change v = _ at hP
  subst hP
  clear h hp
  unfold Ev.val
  go_enter Tryz.func35, Tryz.ntmps35
  go_wp2_with fail
  go_quiet (fail)
  go_wp2_with fail
  go_quiet (fail)
  go_wp2_with fail
  go_ret
  exact ⟨rfl, by repeat (first | exact Fr.refl _ | apply Fr.alloc | apply Fr.drew | apply Fr.drewN)⟩
/-- The world, as a letter. -/
theorem wp_gen {P : Program} {c : Code} {Q : Exit → Act → World → Prop} {a : Act} {w : World} (h : ∀ W, W = w → c.wp P Q a W) : c.wp P Q a w := h w rfl
theorem micSl {w wr : World} {a : Option Addr} {l : List Mic} {k : Nat} (h : micCells l = [] ∨ ∃ b off, a = some ⟨b, off, none⟩ ∧ Any b ∧ b < w.heap.size ∧ ∀ (j : Nat) (u : Value), (micCells l)[j]? = some u → w.cell? ⟨b, off + j, none⟩ = some u) (f : Fr w wr) (hk : k < l.length) :
    ∃ b o, a = some ⟨b, o, none⟩ ∧ b < wr.heap.size ∧ wr.cell? ⟨b, o + k * 3, none⟩ = some (.bool l[k].read) ∧ wr.cell? ⟨b, o + k * 3 + 1, none⟩ = some (.int .u8 l[k].key) ∧ wr.cell? ⟨b, o + k * 3 + 2, none⟩ = some (.int .u16 l[k].v) := by
  obtain ⟨b, o, h1, _, h2, h3⟩ := h.resolve_left (mic_ne_nil hk)
  exact ⟨b, o, h1, Nat.lt_of_lt_of_le h2 f.size, micAt f h3 hk⟩
theorem readsIn_take {l : List Mic} {k : Nat} (h : k < l.length) : readsIn (l.take (k + 1)) = readsIn (l.take k) + l[k].read.toNat := by
  unfold readsIn
  rw [List.take_succ_eq_append_getElem h, List.filter_append, List.length_append]
  cases hb : l[k].read <;> simp [hb]
theorem readsIn_le (l : List Mic) : readsIn l ≤ l.length := List.length_filter_le _ _
theorem gen_w {R : Act → World → Prop} {a : Act} {w : World} (h : ∀ W, W = w → R a W) : R a w := h w rfl
/-- What an event's block tells. -/
structure EvCells (w : World) (b : Nat) (x : Ev) : Prop where
  lt : b < w.heap.size
  id : w.cell? ⟨b, 2, none⟩ = some (.int .u16 x.id)
  F : w.cell? ⟨b, 3, none⟩ = some (.int .u8 x.op.F)
  txn : ∃ t, w.cell? ⟨b, 10, none⟩ = some t ∧ RdM w t x.txn
theorem EvBox.cells {w : World} {b : Nat} {x : Ev} (h : EvBox w b x) : EvCells w b x := by
  obtain ⟨t, r, h1, h2, h3⟩ := h
  exact ⟨h1.lt, h1.at 2 rfl, h1.at 3 rfl, t, h1.at 10 rfl, h2⟩
set_option maxRecDepth 100000 in
theorem endsSome_c {p : Nat} {cv : Value} {pv : List Value} {bm n : Nat} {D : DataW Unit} {L : List Ev} (w : World) (h : AutAt w p cv pv bm n D L) (x : Ev) (t r : Value) (hr : RdR w r x.reads) (hc : x.client < 16) {q : Ev} (hp : pend L x.client = some q) :
    Calls Tryz.prog 35 #[.pointer (some ⟨p, 0, none⟩), x.val t r] w fun e w' => e = .returned (.int .i64 ((if q.id ≠ x.id then 7 else if x.kind = 3 then mayRes q.op.F x.rk x.rv else if x.kind = 6 ∧ readsIn q.txn ≠ x.reads.length then 10 else 0 : Nat) : Int)) ∧ Fr w w' := by
  obtain ⟨v, _, hv, hP⟩ := aut_client h hc
  have hlt := h.box.lt
  rw [hp] at hP
  obtain ⟨b, hb, hE⟩ := hP
  subst hb
  clear h hp
  obtain ⟨hlb, b2, b3, qt, b10, hqt⟩ := hE.cells
  clear hE
  by_cases hid : q.id = x.id
  · rw [if_neg (by simpa using hid)]
    have hne : ((q.id : Int) != x.id) = false := by simp; omega
    by_cases h3 : x.kind = 3
    · rw [if_pos h3]
      have e3 : ((x.kind : Int) == 3) = true := by simp; omega
      have hM := fun W => resMay_c q.op.F x.rk x.rv W
      have HM := Lib.hid hM
      clear hM hid h3 hqt
      unfold Ev.val
      go_enter Tryz.func35, Tryz.ntmps35
      go_wp2_with fail
      go_quiet (fail)
      go_wp2_with fail
      go_quiet (fail)
      go_wp2_with fail
      refine wp_gen fun W hW => ?_
      have hB : BoxAt W w.heap.size (x.cells t r) 39 := by rw [hW]; exact BoxAt.new w _ _
      have hF : Fr w W := by rw [hW]; repeat (first | exact Fr.refl _ | apply Fr.alloc | apply Fr.drew | apply Fr.drewN)
      clear hW
      have k8 := FrW.cell (hB.at 8 rfl)
      have k9 := FrW.cell (hB.at 9 rfl)
      have k3 := FrW.cell (hF.keep b3)
      clear hB
      refine wp_region_fr (by kernel_rfl) (by kernel_rfl) ?_
      repeat (go_big_quiet_step ((go_at_call 46; exact frq (HM.out _))))
      refine wpQuiet_nil ?_
      rintro w2 ⟨⟨_, hf2⟩, rfl⟩
      go_wp2_with fail
      go_ret
      exact ⟨rfl, hF.trans hf2⟩
    · rw [if_neg h3]
      have e3 : ((x.kind : Int) == 3) = false := by simp; omega
      by_cases h6 : x.kind = 6
      · have e6 : ((x.kind : Int) == 6) = true := by simp; omega
        obtain ⟨a, cap, rfl, hcap, hmax, hcs⟩ := hqt
        obtain ⟨vs, hvl, ⟨ra, rc, rfl, _⟩, _⟩ := hr
        unfold maxLen at hmax
        generalize hN : (if x.kind = 6 ∧ readsIn q.txn ≠ x.reads.length then 10 else 0 : Nat) = N
        have HN := Lib.hid hN
        clear hN hid h3 h6
        unfold Ev.val
        go_enter Tryz.func35, Tryz.ntmps35
        go_wp2_with fail
        go_quiet (fail)
        go_wp2_with fail
        go_quiet (fail)
        go_wp2_with fail
        refine wp_gen fun W hW => ?_
        have hB : BoxAt W w.heap.size (x.cells t (.slice ra x.reads.length rc)) 39 := by rw [hW]; exact BoxAt.new w _ _
        have hF : Fr w W := by rw [hW]; repeat (first | exact Fr.refl _ | apply Fr.alloc | apply Fr.drew | apply Fr.drewN)
        have b11 : W.cell? ⟨w.heap.size, 11, none⟩ = some (.slice ra x.reads.length rc) := hB.at 11 rfl
        clear hW hB hv b2 b3 b10
        go_loopw [6, 46] (fun n i wr => ∃ k : Nat, k ≤ q.txn.length ∧ i = .int .i64 k ∧ n = .int .i64 (readsIn (q.txn.take k)) ∧ Fr W wr) (fun _ i _ => q.txn.length - (intOf i).toNat)
        case atStart => exact ⟨0, Nat.zero_le _, rfl, rfl, Fr.refl _⟩
        case round =>
          obtain ⟨k, hk, rfl, rfl, hfr⟩ := hrel
          by_cases hlt : k < q.txn.length
          · obtain ⟨b1, o1, rfl, hb1, d0, d1, d2⟩ := micSl hcs (hF.trans hfr) hlt
            have hT := readsIn_take hlt
            have hle := readsIn_le (q.txn.take k)
            have hle2 : (q.txn.take k).length ≤ k := by simp; omega
            have hk1 : k < cap := by omega
            generalize readsIn (q.txn.take k) = R at hT hle
            generalize q.txn[k] = m at d0 d1 d2 hT
            obtain ⟨rd, key, mv⟩ := m
            simp only at d0 d1 d2 hT
            have HT := Lib.hid hT
            clear hT hcs
            cases rd
            · go_wp2_with fail
              go_roundw
              case rel => exact ⟨k + 1, by omega, by go_num, by rw [HT.out]; simp, hfr.alloc _⟩
              case measure => simp [intOf]; omega
            · go_wp2_with fail
              go_roundw
              case rel => exact ⟨k + 1, by omega, by go_num, by rw [HT.out]; simp, hfr.alloc _⟩
              case measure => simp [intOf]; omega
          · have hkl : q.txn.take k = q.txn := List.take_of_length_le (by omega)
            rw [hkl]
            have c11 := hfr.keep b11
            have hF2 := hF.trans hfr
            have hz : w.heap.size < wr.heap.size := lt_of_cell c11
            have hkind : x.kind = 6 := by simp at e6; omega
            have hN := HN.out
            clear HN hcs b11 hkl
            by_cases hR : readsIn q.txn = x.reads.length
            · rw [if_neg (fun h => h.2 hR)] at hN
              subst hN
              have eR : ((readsIn q.txn : Int) != x.reads.length) = false := by simp; omega
              clear hR
              go_wp2_with fail
              go_ret
              exact ⟨rfl, hF2⟩
            · rw [if_pos ⟨hkind, hR⟩] at hN
              subst hN
              have eR : ((readsIn q.txn : Int) != x.reads.length) = true := by simp; omega
              clear hR
              go_wp2_with fail
              go_ret
              exact ⟨rfl, hF2⟩
      · have e6 : ((x.kind : Int) == 6) = false := by simp; omega
        rw [if_neg (fun h => h6 h.1)]
        clear hid h3 h6 hqt hr
        unfold Ev.val
        go_enter Tryz.func35, Tryz.ntmps35
        go_wp2_with fail
        go_quiet (fail)
        go_wp2_with fail
        go_quiet (fail)
        go_wp2_with fail
        go_ret
        exact ⟨rfl, by repeat (first | exact Fr.refl _ | apply Fr.alloc | apply Fr.drew | apply Fr.drewN)⟩
  · rw [if_pos hid]
    have hne : ((q.id : Int) != x.id) = true := by simp; omega
    clear hid hqt
    unfold Ev.val
    go_enter Tryz.func35, Tryz.ntmps35
    go_wp2_with fail
    go_quiet (fail)
    go_wp2_with fail
    go_quiet (fail)
    go_wp2_with fail
    go_ret
    exact ⟨rfl, by repeat (first | exact Fr.refl _ | apply Fr.alloc | apply Fr.drew | apply Fr.drewN)⟩
theorem ends_c {p : Nat} {cv : Value} {pv : List Value} {bm n : Nat} {D : DataW Unit} {L : List Ev} (w : World) (h : AutAt w p cv pv bm n D L) (x : Ev) (v : Value) (hx : EvAt w v x) (hc : x.client < 16) :
    Calls Tryz.prog 35 #[.pointer (some ⟨p, 0, none⟩), v] w fun e w' => e = .returned (.int .i64 (endsWhy L x : Nat)) ∧ Fr w w' := by
  obtain ⟨t, r, rfl, ht, hr⟩ := hx
  unfold endsWhy
  cases hp : pend L x.client with
  | none => exact endsNone_c w h x t r hc hp
  | some q => exact endsSome_c w h x t r hr hc hp
end Go.Proofs.YtdjjjnoecfbjeaaGreatDoor

/- Counting maps, and what an automaton's opens counts: plain. No condition but what each says. -/
namespace Go.Proofs.YtdjjjnoecfbjeaaGreatDoor
open Go.RowKit
open Go.Maps (Keyed)
open Go.ChangeMaps Go.MapKept

theorem zeroInt (w : World) : (zeroValue 3).run Tryz.prog w = .ok (.int .i64 0) w := by kernel_rfl
theorem zeroBool (w : World) : (zeroValue 4).run Tryz.prog w = .ok (.bool false) w := by kernel_rfl
/-- What a look-up of a count tells. -/
theorem look_int {w : World} {b N : Nat} {D : DataW Unit} {t k : TypeId} (h : w.ownsMap Tryz.prog k (plainElem Tryz.prog 3) b N D) (K : Keyed Tryz.prog k) (ht : Tryz.prog.underlying t = some (.map k 3))
    {key : Value} {kl : Lit} (hkey : keyOf Tryz.prog k key = some kl) {c : Int} (hat : D.atKey kl (.lit (.int .i64 0)) = .lit (.int .i64 c)) : (Instr.lookup t (.map (some b)) key false).run Tryz.prog w = .ok (.int .i64 c) w := by
  obtain ⟨c', hrun, hc, _⟩ := h.lookup_int K ht Tryz.underlying3 (zeroInt w) hkey
  rw [hat] at hc
  cases hc
  exact hrun
theorem look_bool {w : World} {b N : Nat} {D : DataW Unit} {t k : TypeId} (h : w.ownsMap Tryz.prog k (plainElem Tryz.prog 4) b N D) (K : Keyed Tryz.prog k) (ht : Tryz.prog.underlying t = some (.map k 4))
    {key : Value} {kl : Lit} (hkey : keyOf Tryz.prog k key = some kl) {c : Bool} (hat : D.atKey kl (.lit (.bool false)) = .lit (.bool c)) : (Instr.lookup t (.map (some b)) key false).run Tryz.prog w = .ok (.bool c) w := by
  obtain ⟨c', hrun, hc⟩ := ownsMap_lookup_bool h K ht Tryz.underlying4 (zeroBool w) hkey
  rw [hat] at hc
  cases hc
  exact hrun
theorem ownsMap_fr {k : TypeId} {R : Value → Option (DataW Unit × List MemPlace)} {a w : World} {b N : Nat} {D : DataW Unit} (h : a.ownsMap Tryz.prog k R b N D) (f : Fr a w) : w.ownsMap Tryz.prog k R b N D := by
  have hlt := h.lt
  obtain ⟨es, clock, hb, F, hs, hD⟩ := h
  exact ⟨es, clock, (f.block hlt).trans hb, F, hs, hD⟩
theorem turned_fr {a w w' : World} {b : Nat} (f : Fr a w) (h : w.mapTurned w' b) (hb : a.heap.size ≤ b) : Fr a w' := by
  obtain ⟨es, clock, es', clock', hm, rfl⟩ := h
  exact ⟨f.os, f.tape, f.output, by simpa [setBlock] using f.size, fun k hk => (heap_setBlock_other hm _ (by omega)).trans (f.block hk)⟩
theorem turned_ch2 {p b : Nat} {w w' : World} (h : w.mapTurned w' b) : Ch2 p b w w' := by
  obtain ⟨es, clock, es', clock', hm, rfl⟩ := h
  exact ⟨rfl, rfl, rfl, by simp [setBlock], fun k _ _ h2 => heap_setBlock_other hm _ h2⟩
/-- 'm[k]++', in whatever order its parts come up. -/
theorem bump {w : World} {b N : Nat} {D : DataW Unit} {t k : TypeId} (h : w.ownsMap Tryz.prog k (plainElem Tryz.prog 3) b N D) (K : WideMaps.KeyLaw Tryz.prog k) (ht : Tryz.prog.underlying t = some (.map k 3)) (hN : N < maxLen)
    {key : Value} {kl : Lit} (hkey : keyOf Tryz.prog k key = some kl) (hkl : WideAt.IsKeyLit kl) {c c' : Int} (hat : D.atKey kl (.lit (.int .i64 0)) = .lit (.int .i64 c)) (hc' : (Lit.int .i64 c').wf = true) :
    ∃ (v0 : Value) (st : Nat) (w2 w3 : World), (Instr.mapEntry t (.map (some b)) key).run Tryz.prog w = .ok (.tuple #[v0, .int .i64 st]) w2 ∧
      (Instr.lookup t (.map (some b)) key false).run Tryz.prog w2 = .ok (.int .i64 c) w2 ∧
      (Instr.entryStore t (.map (some b)) (.int .i64 st) (.int .i64 c')).run Tryz.prog w2 = .ok () w3 ∧
      w3.ownsMap Tryz.prog k (plainElem Tryz.prog 3) b (N + 1) (D.put kl (.lit (.int .i64 c'))) ∧ w.mapTurned w3 b ∧ w2.heap.size = w.heap.size := by
  have hlook := look_int h (Keyed.of_law K) ht hkey hat
  have h0 := h
  obtain ⟨es, clock, hb, F, hs, hD⟩ := h0
  obtain ⟨v0, st, es1, clock1, hE, hcase, hS⟩ := WideElems.entry_then_store (w := w) K ht zeroInt hb F hkey
  obtain ⟨es', clock', hst, hup⟩ := hS (setBlock w b (.map es1 clock1)) (.int .i64 c') (heap_setBlock_same hb _)
  obtain ⟨w3, hup3, hown3, hturn3⟩ := h.store (Keyed.of_law K) ht hN hkey (plainElem_int Tryz.underlying3 hc')
  rw [hup] at hup3
  have e3 : setBlock w b (.map es' clock') = w3 := (Result.ok.inj hup3).2
  have e4 : setBlock (setBlock w b (.map es1 clock1)) b (.map es' clock') = w3 := by rw [← e3]; simp [setBlock]
  rw [e4] at hst
  refine ⟨v0, st, _, w3, hE, ?_, hst, hown3, hturn3, by simp [setBlock]⟩
  rcases K.find w hkey es.toList F.keys with ⟨h1, h2⟩ | ⟨j, e0, h1, h2, h3⟩
  · have hE2 : (Instr.mapEntry t (.map (some b)) key).run Tryz.prog w = .ok (.tuple #[.int .i64 0, goInt clock]) (setBlock w b (.map (es.push ⟨key, .int .i64 0, clock⟩) (clock + 1))) := by
      simp [Instr.mapEntry, run_underlying ht, MapKept.run_getObj_map hb, K.check w false hkey, h1, zeroInt, MapKept.run_setObj_map _ hb, Result.andThen, setBlock]
    have hU : (Instr.mapUpdate t (.map (some b)) key (.int .i64 0)).run Tryz.prog w = .ok () (setBlock w b (.map (es.push ⟨key, .int .i64 0, clock⟩) (clock + 1))) := by
      simp [Instr.mapUpdate, run_underlying ht, MapKept.run_getObj_map hb, K.check w false hkey, h1, MapKept.run_setObj_map _ hb, Result.andThen, setBlock]
    have hL : (Instr.lookup t (.map (some b)) key false).run Tryz.prog w = .ok (.int .i64 0) w := by
      simp [Instr.lookup, run_underlying ht, MapKept.run_getObj_map hb, K.check w _ hkey, h1, zeroInt, Result.andThen]
    rw [hlook] at hL
    have hc0 : c = 0 := by cases hL; rfl
    subst hc0
    obtain ⟨w4, hup4, hown4, _⟩ := h.store (Keyed.of_law K) ht hN hkey (plainElem_int Tryz.underlying3 (q := .i64) (a := 0) (by decide))
    rw [hU] at hup4
    rw [hE2] at hE
    have e5 : setBlock w b (.map es1 clock1) = w4 := (Result.ok.inj hE).2.symm.trans (Result.ok.inj hup4).2
    rw [e5]
    exact look_int hown4 (Keyed.of_law K) ht hkey (Maps.atKey_put_same h.isMap hkl _ _)
  · have hj : es[j]? = some e0 := by simpa using h2
    have hsame : es.modify j (fun e => { e with key := key }) = es := by
      apply Array.ext_getElem?
      intro i
      rw [Array.getElem?_modify]
      split
      · rename_i hij; subst hij; rw [hj]; simp [← h3]
      · rfl
    have hE2 : (Instr.mapEntry t (.map (some b)) key).run Tryz.prog w = .ok (.tuple #[e0.val, goInt e0.born]) (setBlock w b (.map es clock)) := by
      simp [Instr.mapEntry, run_underlying ht, MapKept.run_getObj_map hb, K.check w false hkey, h1, hj, h3, K.stays w hkey, hsame, MapKept.run_setObj_map _ hb, Result.andThen, setBlock]
    rw [hE2] at hE
    have e5 : setBlock w b (.map es1 clock1) = setBlock w b (.map es clock) := (Result.ok.inj hE).2.symm
    rw [e5]
    have hown4 : (setBlock w b (.map es clock)).ownsMap Tryz.prog k (plainElem Tryz.prog 3) b N D := ⟨es, clock, heap_setBlock_same hb _, F, hs, hD⟩
    exact look_int hown4 (Keyed.of_law K) ht hkey hat
end Go.Proofs.YtdjjjnoecfbjeaaGreatDoor

/- What an automaton's opens counts: plain. No condition but what each says. -/
namespace Go.Proofs.YtdjjjnoecfbjeaaGreatDoor
open Go.RowKit
open Go.ChangeMaps Go.MapKept

/-- How often a key has been appended to. -/
def cntW (l : List Mic) (k : Nat) : Nat := (l.filter fun m => !m.read && decide (m.key = k)).length
/-- How often a number has been appended to a key. -/
def cntP (l : List Mic) (k v : Nat) : Nat := (l.filter fun m => m.puts k v).length
theorem cntW_take {l : List Mic} {k : Nat} (h : k < l.length) (c : Nat) : cntW (l.take (k + 1)) c = cntW (l.take k) c + if l[k].read = false ∧ l[k].key = c then 1 else 0 := by
  unfold cntW
  rw [List.take_succ_eq_append_getElem h, List.filter_append, List.length_append]
  congr 1
  by_cases h1 : l[k].read = false <;> by_cases h2 : l[k].key = c <;> simp [h1, h2]
theorem cntP_take {l : List Mic} {k : Nat} (h : k < l.length) (c v : Nat) : cntP (l.take (k + 1)) c v = cntP (l.take k) c v + if l[k].read = false ∧ l[k].key = c ∧ l[k].v = v then 1 else 0 := by
  unfold cntP Mic.puts
  rw [List.take_succ_eq_append_getElem h, List.filter_append, List.length_append]
  congr 1
  by_cases h1 : l[k].read = false <;> by_cases h2 : l[k].key = c <;> by_cases h3 : l[k].v = v <;> simp [h1, h2, h3]
theorem cntW_le (l : List Mic) (k c : Nat) : cntW (l.take k) c ≤ k := by
  have h1 := List.length_filter_le (fun m : Mic => !m.read && decide (m.key = c)) (l.take k)
  have h2 : (l.take k).length ≤ k := by simp; omega
  unfold cntW
  omega
theorem cntP_le (l : List Mic) (k c v : Nat) : cntP (l.take k) c v ≤ k := by
  have h1 := List.length_filter_le (fun m : Mic => m.puts c v) (l.take k)
  have h2 : (l.take k).length ≤ k := by simp; omega
  unfold cntP
  omega
theorem readsOwn_yes {l : List Mic} {k : Nat} (h : k < l.length) (hr : l[k].read = true) (hc : 0 < cntW (l.take k) l[k].key) : readsOwn l = true := by
  unfold readsOwn
  refine List.any_eq_true.2 ⟨k, List.mem_range.2 h, ?_⟩
  obtain ⟨m, hm⟩ := List.exists_mem_of_length_pos hc
  obtain ⟨hm1, hm2⟩ := List.mem_filter.1 hm
  rw [Bool.and_eq_true]
  refine ⟨by simp [h, hr], List.any_eq_true.2 ⟨m, hm1, ?_⟩⟩
  simpa [h] using hm2
theorem readsOwn_no {l : List Mic} (h : ∀ i (hi : i < l.length), l[i].read = true → cntW (l.take i) l[i].key = 0) : readsOwn l = false := by
  unfold readsOwn
  refine List.any_eq_false.2 fun i hi => ?_
  have hi := List.mem_range.1 hi
  rw [Bool.and_eq_true]
  rintro ⟨h1, h2⟩
  have h3 := h i hi (by simpa [hi] using h1)
  obtain ⟨m, hm1, hm2⟩ := List.any_eq_true.1 h2
  have : m ∈ (l.take i).filter fun m => !m.read && decide (m.key = l[i].key) := List.mem_filter.2 ⟨hm1, by simpa [hi] using hm2⟩
  rw [List.eq_nil_of_length_eq_zero h3] at this
  cases this
theorem any_puts {l : List Mic} {c v : Nat} : (l.any fun q => q.puts c v) = decide (0 < cntP l c v) := by
  unfold cntP
  by_cases h : 0 < (l.filter fun m => m.puts c v).length
  · rw [decide_eq_true h]
    obtain ⟨m, hm⟩ := List.exists_mem_of_length_pos h
    obtain ⟨h1, h2⟩ := List.mem_filter.1 hm
    exact List.any_eq_true.2 ⟨m, h1, h2⟩
  · rw [decide_eq_false h]
    refine List.any_eq_false.2 fun m hm hp => h ?_
    exact List.length_pos_of_mem (List.mem_filter.2 ⟨hm, hp⟩)
theorem twice_yes {L : List Ev} {l : List Mic} {k : Nat} (h : k < l.length) (hr : l[k].read = false) (hc : 0 < cntP (l.take k) l[k].key l[k].v ∨ app L l[k].key l[k].v = true) : twice L l = true := by
  unfold twice
  refine List.any_eq_true.2 ⟨k, List.mem_range.2 h, ?_⟩
  simp only [h, List.getElem?_eq_getElem, Option.any_some, hr, Bool.not_false, Bool.true_and, any_puts]
  rcases hc with hc | hc <;> simp [hc]
theorem twice_no {L : List Ev} {l : List Mic} (h : ∀ i (hi : i < l.length), l[i].read = false → cntP (l.take i) l[i].key l[i].v = 0 ∧ app L l[i].key l[i].v = false) : twice L l = false := by
  unfold twice
  refine List.any_eq_false.2 fun i hi => ?_
  have hi := List.mem_range.1 hi
  simp only [hi, List.getElem?_eq_getElem, Option.any_some, any_puts]
  cases hr : l[i].read
  · obtain ⟨h1, h2⟩ := h i hi hr
    simp [h1, h2]
  · simp
end Go.Proofs.YtdjjjnoecfbjeaaGreatDoor
