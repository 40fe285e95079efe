/- Layer 28: Tarjan's search in memory. No condition but what each says. -/
import Derived.Test.YtadognaafgndnaaPGen
import Derived.Test.YtadognaafgndnaaPSccP
import Derived.Deep.MidRow
set_option linter.all false
set_option linter.unusedVariables false
set_option linter.unusedSimpArgs false
set_option linter.unnecessarySimpa false
/- Layer 28: Tarjan's search in memory. No condition but what each says. -/
namespace Go.Proofs.Ytadognaafgndnaa
open Go.RowKit
attribute [local go_sem] Oper.semAt_some

/-- Where the search lies. -/
structure MB where
  q : Nat
  gn : Nat
  vw : Value
  vt : Value
  ve : Value
  gs : List Value
/-- Its blocks, numbered. -/
def MB.ob (x : MB) : Nat → Option Nat
  | 0 => some x.q
  | 1 => some x.gn
  | 2 => x.vw.ownBlock
  | 3 => x.vt.ownBlock
  | 4 => x.ve.ownBlock
  | j + 5 => (x.gs[j]?).bind Value.ownBlock
structure Mem (w0 w : World) (x : MB) (vG : Value) (n : Nat) (s : St) (wf : Nat → Bool) : Prop where
  frm : Fr w0 w
  c0 : Cel w x.q 0 vG
  c1 : Cel w x.q 1 (.slice (some ⟨x.gn, 0, none⟩) n n)
  c2 : Cel w x.q 2 x.vw
  c3 : Cel w x.q 3 x.vt
  c4 : Cel w x.q 4 x.ve
  c5 : Cel w x.q 5 (.int .i64 (s.met : Nat))
  n0 : ∀ i, i < n → Cel w x.gn (i * 4) (.int .i64 (s.num i : Nat))
  n1 : ∀ i, i < n → Cel w x.gn (i * 4 + 1) (.int .i64 (s.low i : Nat))
  n2 : ∀ i, i < n → Cel w x.gn (i * 4 + 2) (.bool (wf i))
  n3 : ∀ i, i < n → Cel w x.gn (i * 4 + 3) (.int .i64 (s.gone i : Nat))
  way : w.ownsRow w0.heap.size 3 1 x.vw s.way.length (s.way.map intV)
  wait : w.ownsRow w0.heap.size 3 1 x.vt s.wait.length (s.wait.map intV)
  ended : w.ownsRow w0.heap.size 25 1 x.ve s.ended.length x.gs
  glen : x.gs.length = s.ended.length
  grp : ∀ j (h : j < x.gs.length) (h' : j < s.ended.length), w.ownsRow w0.heap.size 3 1 x.gs[j] s.ended[j].length (s.ended[j].map intV)
  inj : ∀ i j g, x.ob i = some g → x.ob j = some g → i = j
  geq : w0.heap.size ≤ x.q
  gen : w0.heap.size ≤ x.gn
  ltn : x.gn < w.heap.size
theorem Mem.ge {w0 w : World} {x : MB} {vG : Value} {n : Nat} {s : St} {wf : Nat → Bool} (H : Mem w0 w x vG n s wf) {i g : Nat} (h : x.ob i = some g) : w0.heap.size ≤ g ∧ g < w.heap.size := by
  match i, h with
  | 0, h => cases h; exact ⟨H.geq, H.c0.lt⟩
  | 1, h => cases h; exact ⟨H.gen, H.ltn⟩
  | 2, h => exact World.ownsRow.lt H.way g h
  | 3, h => exact World.ownsRow.lt H.wait g h
  | 4, h => exact World.ownsRow.lt H.ended g h
  | j + 5, h =>
    have h : (x.gs[j]?).bind Value.ownBlock = some g := h
    cases hj : x.gs[j]? with
    | none => rw [hj] at h; cases h
    | some v =>
      rw [hj] at h
      obtain ⟨hl, rfl⟩ := List.getElem?_eq_some_iff.1 hj
      exact World.ownsRow.lt (H.grp j hl (by rw [← H.glen]; exact hl)) g h
/-- All stands but in some of its blocks; those are newer than the first world. -/
structure Kept (w0 w w' : World) (x : MB) (vG : Value) (n : Nat) (s : St) (wf : Nat → Bool) (S : Nat → Prop) : Prop where
  frm : Fr w0 w'
  cel : ∀ {o v}, Cel w x.q o v → ¬ S 0 → Cel w' x.q o v
  nod : ∀ {o v}, Cel w x.gn o v → ¬ S 1 → Cel w' x.gn o v
  way : ¬ S 2 → w'.ownsRow w0.heap.size 3 1 x.vw s.way.length (s.way.map intV)
  wait : ¬ S 3 → w'.ownsRow w0.heap.size 3 1 x.vt s.wait.length (s.wait.map intV)
  ended : ¬ S 4 → w'.ownsRow w0.heap.size 25 1 x.ve s.ended.length x.gs
  grp : (∀ j, ¬ S (j + 5)) → ∀ j (h : j < x.gs.length) (h' : j < s.ended.length), w'.ownsRow w0.heap.size 3 1 x.gs[j] s.ended[j].length (s.ended[j].map intV)
  ltn : x.gn < w'.heap.size
theorem Mem.kept {w0 w w' : World} {x : MB} {vG : Value} {n : Nat} {s : St} {wf : Nat → Bool} (H : Mem w0 w x vG n s wf) {S : Nat → Prop} (k : Chg (fun b => ∃ i, S i ∧ x.ob i = some b) w w') : Kept w0 w w' x vG n s wf S where
  frm := k.fr H.frm fun b hb => by obtain ⟨i, _, h⟩ := hb; exact (H.ge h).1
  cel := fun {o v} h hS => h.chg k fun ⟨i, h1, h2⟩ => hS (by have := H.inj i 0 _ h2 rfl; subst this; exact h1)
  nod := fun {o v} h hS => h.chg k fun ⟨i, h1, h2⟩ => hS (by have := H.inj i 1 _ h2 rfl; subst this; exact h1)
  way hS := ownsRow_kept2 H.way fun g hg => k.block g (World.ownsRow.lt H.way g hg).2 fun ⟨i, h1, h2⟩ => hS (by have := H.inj i 2 _ h2 hg; subst this; exact h1)
  wait hS := ownsRow_kept2 H.wait fun g hg => k.block g (World.ownsRow.lt H.wait g hg).2 fun ⟨i, h1, h2⟩ => hS (by have := H.inj i 3 _ h2 hg; subst this; exact h1)
  ended hS := ownsRow_kept2 H.ended fun g hg => k.block g (World.ownsRow.lt H.ended g hg).2 fun ⟨i, h1, h2⟩ => hS (by have := H.inj i 4 _ h2 hg; subst this; exact h1)
  grp hS j h h' := ownsRow_kept2 (H.grp j h h') fun g hg => k.block g (World.ownsRow.lt (H.grp j h h') g hg).2 fun ⟨i, h1, h2⟩ => hS j (by
    have h3 : x.ob (j + 5) = some g := by
      show (x.gs[j]?).bind Value.ownBlock = some g
      rw [List.getElem?_eq_getElem h]; exact hg
    have := H.inj i (j + 5) _ h2 h3; subst this; exact h1)
  ltn := Nat.lt_of_lt_of_le H.ltn k.size
theorem Mem.fr {w0 w w' : World} {x : MB} {vG : Value} {n : Nat} {s : St} {wf : Nat → Bool} (H : Mem w0 w x vG n s wf) (f : Fr w w') : Mem w0 w' x vG n s wf := by
  have K := H.kept (S := fun _ => False) (w' := w') f.chg
  have z : ¬ False := fun h => h
  exact ⟨K.frm, K.cel H.c0 z, K.cel H.c1 z, K.cel H.c2 z, K.cel H.c3 z, K.cel H.c4 z, K.cel H.c5 z, fun i hi => K.nod (H.n0 i hi) z, fun i hi => K.nod (H.n1 i hi) z, fun i hi => K.nod (H.n2 i hi) z, fun i hi => K.nod (H.n3 i hi) z, K.way z, K.wait z, K.ended z, H.glen, K.grp fun _ h => h, H.inj, H.geq, H.gen, K.ltn⟩
/-- The nodes' cells are written. -/
theorem Mem.nodes {w0 w w' : World} {x : MB} {vG : Value} {n : Nat} {s s' : St} {wf wf' : Nat → Bool} (H : Mem w0 w x vG n s wf) (k : Chg (fun b => b = x.gn) w w') (e : s'.way = s.way ∧ s'.wait = s.wait ∧ s'.ended = s.ended ∧ s'.met = s.met)
    (n0 : ∀ i, i < n → Cel w' x.gn (i * 4) (.int .i64 (s'.num i : Nat))) (n1 : ∀ i, i < n → Cel w' x.gn (i * 4 + 1) (.int .i64 (s'.low i : Nat))) (n2 : ∀ i, i < n → Cel w' x.gn (i * 4 + 2) (.bool (wf' i))) (n3 : ∀ i, i < n → Cel w' x.gn (i * 4 + 3) (.int .i64 (s'.gone i : Nat))) : Mem w0 w' x vG n s' wf' := by
  have K := H.kept (S := fun i => i = 1) (w' := w') (k.mono fun b _ hb => ⟨1, rfl, by rw [hb]; rfl⟩)
  obtain ⟨e1, e2, e3, e4⟩ := e
  refine ⟨K.frm, K.cel H.c0 (by omega), K.cel H.c1 (by omega), K.cel H.c2 (by omega), K.cel H.c3 (by omega), K.cel H.c4 (by omega), by rw [e4]; exact K.cel H.c5 (by omega), n0, n1, n2, n3, by rw [e1]; exact K.way (by omega), by rw [e2]; exact K.wait (by omega), by rw [e3]; exact K.ended (by omega), by rw [e3]; exact H.glen, ?_, H.inj, H.geq, H.gen, K.ltn⟩
  intro j h h'
  have h2 := K.grp (fun j => by show ¬ (j + 5 = 1); omega) j h (by rw [← e3]; exact h')
  simpa only [e3] using h2
/-- How many were met. -/
theorem Mem.metTo {w0 w : World} {x : MB} {vG : Value} {n : Nat} {s : St} {wf : Nat → Bool} (H : Mem w0 w x vG n s wf) (v : Nat) : Mem w0 (w.setCell ⟨x.q, 5, none⟩ (.int .i64 (v : Nat))) x vG n { s with met := v } wf := by
  have k : Chg (fun b => b = x.q) w (w.setCell ⟨x.q, 5, none⟩ (.int .i64 (v : Nat))) := (Chg.refl (fun b => b = x.q) w).set (p := ⟨x.q, 5, none⟩) (.inr rfl) _
  have K := H.kept (S := fun i => i = 0) (k.mono fun b _ hb => ⟨0, rfl, by rw [hb]; rfl⟩)
  exact ⟨K.frm, H.c0.keepSet (.inr (by omega)) _, H.c1.keepSet (.inr (by omega)) _, H.c2.keepSet (.inr (by omega)) _, H.c3.keepSet (.inr (by omega)) _, H.c4.keepSet (.inr (by omega)) _, H.c5.set _,
    fun i hi => K.nod (H.n0 i hi) (by omega), fun i hi => K.nod (H.n1 i hi) (by omega), fun i hi => K.nod (H.n2 i hi) (by omega), fun i hi => K.nod (H.n3 i hi) (by omega), K.way (by omega), K.wait (by omega), K.ended (by omega), H.glen, K.grp fun j => by show ¬ (j + 5 = 0); omega, H.inj, H.geq, H.gen, K.ltn⟩
/-- The way becomes another one. -/
theorem Mem.wayTo {w0 w w5 : World} {x : MB} {vG : Value} {n : Nat} {s : St} {wf : Nat → Bool} (H : Mem w0 w x vG n s wf) {L : List Nat} {v : Value} (k : Chg (fun b => x.vw.ownBlock = some b) w w5) (hO : w5.ownsRow w0.heap.size 3 1 v L.length (L.map intV)) (hat : ∀ g, v.ownBlock = some g → x.vw.ownBlock = some g ∨ w.heap.size ≤ g) :
    Mem w0 (w5.setCell ⟨x.q, 2, none⟩ v) { x with vw := v } vG n { s with way := L } wf := by
  have hvq : v.ownBlock ≠ some x.q := fun e => by
    rcases hat _ e with h | h
    · have := H.inj 2 0 _ h rfl; omega
    · have := (H.ge (i := 0) rfl).2; omega
  have k2 : Chg (fun b => b = x.q) w5 (w5.setCell ⟨x.q, 2, none⟩ v) := (Chg.refl (fun b => b = x.q) w5).set (p := ⟨x.q, 2, none⟩) (.inr rfl) _
  have K := H.kept (S := fun i => i = 2 ∨ i = 0) (w' := w5.setCell ⟨x.q, 2, none⟩ v) ((k.mono fun b _ hb => ⟨2, .inl rfl, hb⟩).trans (k2.mono fun b _ hb => ⟨0, .inr rfl, by rw [hb]; rfl⟩))
  have hq : x.vw.ownBlock ≠ some x.q := fun e => by have := H.inj 2 0 _ e rfl; omega
  have cc : ∀ {o u}, Cel w x.q o u → o ≠ 2 → Cel (w5.setCell ⟨x.q, 2, none⟩ v) x.q o u := fun {o u} h ho => (h.chg k hq).keepSet (.inr ho) v
  refine ⟨K.frm, cc H.c0 (by omega), cc H.c1 (by omega), (H.c2.chg k hq).set v, cc H.c3 (by omega), cc H.c4 (by omega), cc H.c5 (by omega),
    fun i hi => K.nod (H.n0 i hi) (by omega), fun i hi => K.nod (H.n1 i hi) (by omega), fun i hi => K.nod (H.n2 i hi) (by omega), fun i hi => K.nod (H.n3 i hi) (by omega),
    ownsRow_kept2 hO fun g hg => k2.block g (World.ownsRow.lt hO g hg).2 fun e => hvq (by rw [← e]; exact hg), K.wait (by omega), K.ended (by omega), H.glen, K.grp fun j => by show ¬ (j + 5 = 2 ∨ j + 5 = 0); omega, ?_, H.geq, H.gen, K.ltn⟩
  have ob' : ∀ i, i ≠ 2 → MB.ob { x with vw := v } i = x.ob i := fun i hi => by
    match i with
    | 0 => rfl
    | 1 => rfl
    | 2 => exact absurd rfl hi
    | 3 => rfl
    | 4 => rfl
    | j + 5 => rfl
  have hx2 : ∀ j g, j ≠ 2 → v.ownBlock = some g → x.ob j ≠ some g := fun j g hj hg e => by
    rcases hat g hg with h | h
    · exact hj (H.inj j 2 g e h)
    · have := (H.ge e).2; omega
  intro i j g hi hj
  by_cases h1 : i = 2 <;> by_cases h2 : j = 2
  · omega
  · subst h1; rw [ob' j h2] at hj; exact absurd hj (hx2 j g h2 hi)
  · subst h2; rw [ob' i h1] at hi; exact absurd hi (hx2 i g h1 hj)
  · rw [ob' i h1] at hi; rw [ob' j h2] at hj; exact H.inj i j g hi hj
/-- Those that wait become others. -/
theorem Mem.waitTo {w0 w w5 : World} {x : MB} {vG : Value} {n : Nat} {s : St} {wf : Nat → Bool} (H : Mem w0 w x vG n s wf) {L : List Nat} {v : Value} (k : Chg (fun b => x.vt.ownBlock = some b) w w5) (hO : w5.ownsRow w0.heap.size 3 1 v L.length (L.map intV)) (hat : ∀ g, v.ownBlock = some g → x.vt.ownBlock = some g ∨ w.heap.size ≤ g) :
    Mem w0 (w5.setCell ⟨x.q, 3, none⟩ v) { x with vt := v } vG n { s with wait := L } wf := by
  have hvq : v.ownBlock ≠ some x.q := fun e => by
    rcases hat _ e with h | h
    · have := H.inj 3 0 _ h rfl; omega
    · have := (H.ge (i := 0) rfl).2; omega
  have k2 : Chg (fun b => b = x.q) w5 (w5.setCell ⟨x.q, 3, none⟩ v) := (Chg.refl (fun b => b = x.q) w5).set (p := ⟨x.q, 3, none⟩) (.inr rfl) _
  have K := H.kept (S := fun i => i = 3 ∨ i = 0) (w' := w5.setCell ⟨x.q, 3, none⟩ v) ((k.mono fun b _ hb => ⟨3, .inl rfl, hb⟩).trans (k2.mono fun b _ hb => ⟨0, .inr rfl, by rw [hb]; rfl⟩))
  have hq : x.vt.ownBlock ≠ some x.q := fun e => by have := H.inj 3 0 _ e rfl; omega
  have cc : ∀ {o u}, Cel w x.q o u → o ≠ 3 → Cel (w5.setCell ⟨x.q, 3, none⟩ v) x.q o u := fun {o u} h ho => (h.chg k hq).keepSet (.inr ho) v
  refine ⟨K.frm, cc H.c0 (by omega), cc H.c1 (by omega), cc H.c2 (by omega), (H.c3.chg k hq).set v, cc H.c4 (by omega), cc H.c5 (by omega),
    fun i hi => K.nod (H.n0 i hi) (by omega), fun i hi => K.nod (H.n1 i hi) (by omega), fun i hi => K.nod (H.n2 i hi) (by omega), fun i hi => K.nod (H.n3 i hi) (by omega),
    K.way (by omega), ownsRow_kept2 hO fun g hg => k2.block g (World.ownsRow.lt hO g hg).2 fun e => hvq (by rw [← e]; exact hg), K.ended (by omega), H.glen, K.grp fun j => by show ¬ (j + 5 = 3 ∨ j + 5 = 0); omega, ?_, H.geq, H.gen, K.ltn⟩
  have ob' : ∀ i, i ≠ 3 → MB.ob { x with vt := v } i = x.ob i := fun i hi => by
    match i with
    | 0 => rfl
    | 1 => rfl
    | 2 => rfl
    | 3 => exact absurd rfl hi
    | 4 => rfl
    | j + 5 => rfl
  have hx2 : ∀ j g, j ≠ 3 → v.ownBlock = some g → x.ob j ≠ some g := fun j g hj hg e => by
    rcases hat g hg with h | h
    · exact hj (H.inj j 3 g e h)
    · have := (H.ge e).2; omega
  intro i j g hi hj
  by_cases h1 : i = 3 <;> by_cases h2 : j = 3
  · omega
  · subst h1; rw [ob' j h2] at hj; exact absurd hj (hx2 j g h2 hi)
  · subst h2; rw [ob' i h1] at hi; exact absurd hi (hx2 i g h1 hj)
  · rw [ob' i h1] at hi; rw [ob' j h2] at hj; exact H.inj i j g hi hj
end Go.Proofs.Ytadognaafgndnaa

/- scc.search.meet: its walk. No condition but that the search lies there, and bounds. -/
namespace Go.Proofs.Ytadognaafgndnaa
open Go.RowKit
attribute [local go_sem] Oper.semAt_some

theorem Try.infoNote : (Try.prog.info? 57).map (·.size) = some 3 := by kernel_rfl
theorem Try.infoNode : (Try.prog.info? 59).map (·.size) = some 4 := by kernel_rfl
/-- A node's note is written. -/
theorem Mem.note {w0 w : World} {x : MB} {vG : Value} {n : Nat} {s : St} {wf : Nat → Bool} (H : Mem w0 w x vG n s wf) {i : Nat} (a b : Nat) (c : Bool) :
    Mem w0 (w.setCells x.gn (i * 4) [.int .i64 (a : Nat), .int .i64 (b : Nat), .bool c]) x vG n { s with num := setF s.num i a, low := setF s.low i b } (fun j => if j = i then c else wf j) := by
  have e : w.setCells x.gn (i * 4) [.int .i64 (a : Nat), .int .i64 (b : Nat), .bool c] = ((w.setCell ⟨x.gn, i * 4, none⟩ (.int .i64 (a : Nat))).setCell ⟨x.gn, i * 4 + 1, none⟩ (.int .i64 (b : Nat))).setCell ⟨x.gn, i * 4 + 2, none⟩ (.bool c) := rfl
  rw [e]
  have k : Chg (fun b => b = x.gn) w (((w.setCell ⟨x.gn, i * 4, none⟩ (.int .i64 (a : Nat))).setCell ⟨x.gn, i * 4 + 1, none⟩ (.int .i64 (b : Nat))).setCell ⟨x.gn, i * 4 + 2, none⟩ (.bool c)) :=
    (((Chg.refl (fun b => b = x.gn) w).set (p := ⟨x.gn, i * 4, none⟩) (.inr rfl) _).set (p := ⟨x.gn, i * 4 + 1, none⟩) (.inr rfl) _).set (p := ⟨x.gn, i * 4 + 2, none⟩) (.inr rfl) _
  refine H.nodes k ⟨rfl, rfl, rfl, rfl⟩ (fun j hj => ?_) (fun j hj => ?_) (fun j hj => ?_) (fun j hj => ?_)
  · show Cel _ _ _ (.int .i64 (setF s.num i a j : Nat))
    by_cases h : j = i
    · subst h; rw [setF_same]; exact (((H.n0 j hj).set _).keepSet (.inr (by omega)) _).keepSet (.inr (by omega)) _
    · rw [setF_other _ _ h]; exact (((H.n0 j hj).keepSet (.inr (by omega)) _).keepSet (.inr (by omega)) _).keepSet (.inr (by omega)) _
  · show Cel _ _ _ (.int .i64 (setF s.low i b j : Nat))
    by_cases h : j = i
    · subst h; rw [setF_same]; exact (((H.n1 j hj).keepSet (.inr (by omega)) _).set _).keepSet (.inr (by omega)) _
    · rw [setF_other _ _ h]; exact (((H.n1 j hj).keepSet (.inr (by omega)) _).keepSet (.inr (by omega)) _).keepSet (.inr (by omega)) _
  · show Cel _ _ _ (.bool (if j = i then c else wf j))
    by_cases h : j = i
    · subst h; rw [if_pos rfl]; exact (((H.n2 j hj).keepSet (.inr (by omega)) _).keepSet (.inr (by omega)) _).set _
    · rw [if_neg h]; exact (((H.n2 j hj).keepSet (.inr (by omega)) _).keepSet (.inr (by omega)) _).keepSet (.inr (by omega)) _
  · exact (((H.n3 j hj).keepSet (.inr (by omega)) _).keepSet (.inr (by omega)) _).keepSet (.inr (by omega)) _
def MeetQ (w0 : World) (x : MB) (vG : Value) (n : Nat) (s : St) (wf : Nat → Bool) (i : Nat) (e : Ending) (w' : World) : Prop := e = .returned (.tuple #[]) ∧ ∃ vw vt, Mem w0 w' { x with vw := vw, vt := vt } vG n (s.meet i) (fun j => if j = i then true else wf j)
set_option maxRecDepth 100000 in
set_option maxHeartbeats 8000000 in
theorem meet_c {w0 w : World} {x : MB} {vG : Value} {n : Nat} {s : St} {wf : Nat → Bool} (H : Mem w0 w x vG n s wf) {i : Nat} (hi : i < n) (hn : n ≤ 5864062014640) (hm : s.met ≤ 11728124029300) (h1 : s.way.length ≤ 5864062014640) (h2 : s.wait.length ≤ 5864062014640) :
    Calls Try.prog 40 #[Pt x.q, .int .i64 i] w (MeetQ w0 x vG n s wf i) := by
  have HH := Lib.hid H
  have c5 := H.c5.1
  have f5 := H.c5.2
  have lq := H.c5.lt
  have HM1 := Lib.hid (H.metTo (s.met + 1))
  clear H
  go_enter Try.func40, Try.ntmps40
  go_wp2_with fail
  refine gen_w fun W1 hW1 => ?_
  have HM2 : Hid (Mem w0 W1 x vG n { s with met := s.met + 1 } wf) := by rw [hW1]; exact HM1.out
  clear hW1 HM1 c5 f5 lq
  have e1 := FrW.cell HM2.out.c1.1
  have e5 := FrW.cell HM2.out.c5.1
  have lq : x.q < W1.heap.size := HM2.out.c5.lt
  have lz : ∀ z : FrW W1, x.q < z.val.heap.size := fun z => Nat.lt_of_lt_of_le lq z.fr.size
  refine wp_region_frt 16 (by kernel_rfl) (by kernel_rfl) ?_
  simp only [List.take_succ_cons, List.take_zero]
  repeat (go_big_quiet_step (fail))
  refine wpQuiet_nil ?_
  rintro w5 ⟨⟨_, hf5⟩, rfl⟩
  simp only [List.drop_succ_cons, List.drop_zero]
  have HM3 := Lib.hid (HM2.out.fr hf5)
  have hth : w5.there x.gn (i * 4) 3 := fun j hj => by
    match j, hj with
    | 0, _ => exact ⟨by have h9 := (HM3.out.n0 i hi).1; first | (rw [h9]; rfl) | (rw [Nat.add_zero, h9]; rfl), (HM3.out.n0 i hi).2⟩
    | 1, _ => exact ⟨by have h9 := (HM3.out.n1 i hi).1; first | (rw [h9]; rfl) | (rw [Nat.add_zero, h9]; rfl), (HM3.out.n1 i hi).2⟩
    | 2, _ => exact ⟨by have h9 := (HM3.out.n2 i hi).1; first | (rw [h9]; rfl) | (rw [Nat.add_zero, h9]; rfl), (HM3.out.n2 i hi).2⟩
  have HM4 := Lib.hid (HM3.out.note (i := i) (s.met + 1) (s.met + 1) true)
  clear e1 e5 lq lz hf5 HM2 HM3
  refine wpList_store_mid rfl 57 (.tmp 26) (.tmp 24) rfl x.gn (i * 4) #[.int .i64 ((s.met + 1 : Nat) : Int), .int .i64 ((s.met + 1 : Nat) : Int), .bool true] rfl rfl hth Try.infoNote (by simp [Value.oneCell']) ?_
  refine gen_w fun W4 hW4 => ?_
  rw [← hW4] at HM4
  clear hW4 hth
  obtain ⟨wa, wc, hvw, _⟩ := ints_form HM4.out.way
  have c2 := HM4.out.c2.1
  rw [hvw] at c2
  have lq := HM4.out.c2.lt
  have hown := HM4.out.way.alloc (.cells #[.int .i64 i] 3)
  rw [hvw] at hown
  have hy : (W4.alloc (.cells #[.int .i64 i] 3)).cell? ⟨W4.heap.size, 0, none⟩ = some (intV i) := (BoxAt.new' W4 #[.int .i64 i] 3 _ (by simp)).at 0 rfl
  have hsz := (HM4.out.frm.alloc (.cells #[.int .i64 i] 3)).size
  go_wp2_with (at_builtin; refine wpList_appendInt (base := w0.heap.size) rfl (.tmp 31) (.tmp 33) rfl (.slice wa s.way.length wc) s.way rfl hown hsz W4.heap.size 1 i rfl hy h1 ?_)
  intro va vn vc w6 hO6 hch6 hat6
  have hO : w6.ownsRow w0.heap.size 3 1 (.slice va vn vc) (s.way ++ [i]).length ((s.way ++ [i]).map intV) := by first | exact hO6 | simpa using hO6
  have hk6 : Chg (fun b => x.vw.ownBlock = some b) W4 w6 := by rw [hvw]; exact ((Fr.refl W4).alloc _).chg.trans hch6
  have hq2 : ¬ x.vw.ownBlock = some x.q := fun e => by have := HM4.out.inj 2 0 _ e rfl; omega
  have HM5 := Lib.hid (HM4.out.wayTo hk6 hO (fun g hg => by rw [hvw]; exact (hat6 g hg).imp id fun e => by omega))
  have hc2 := HM4.out.c2.chg hk6 hq2
  have c2 := hc2.1
  have f2 := hc2.2
  have lq := hc2.lt
  clear hO hO6 hch6 hat6 hk6 hq2 hc2 hown hy hsz HM4 hvw
  obtain ⟨W7, hW7⟩ : ∃ W7, W7 = w6.setCell ⟨x.q, 2, none⟩ (.slice va vn vc) := ⟨_, rfl⟩
  rw [← hW7] at HM5
  obtain ⟨ta, tc, hvt, _⟩ := ints_form HM5.out.wait
  have c3 := HM5.out.c3.1
  have hvt : x.vt = .slice ta s.wait.length tc := hvt
  have c3 : W7.cell? ⟨x.q, 3, none⟩ = some x.vt := c3
  rw [hvt] at c3
  have hown := HM5.out.wait.alloc (.cells #[.int .i64 i] 3)
  have hown : (W7.alloc (.cells #[.int .i64 i] 3)).ownsRow w0.heap.size 3 1 x.vt s.wait.length (s.wait.map intV) := hown
  rw [hvt] at hown
  have hy : (W7.alloc (.cells #[.int .i64 i] 3)).cell? ⟨w6.heap.size, 0, none⟩ = some (intV i) := (BoxAt.new' W7 #[.int .i64 i] 3 _ (by rw [hW7]; simp)).at 0 rfl
  have hsz := (HM5.out.frm.alloc (.cells #[.int .i64 i] 3)).size
  have lq7 : x.q < W7.heap.size := HM5.out.c3.lt
  rw [hW7] at c3 hown hy hsz lq7
  go_wp2_with (at_builtin; refine wpList_appendInt (base := w0.heap.size) rfl (.tmp 41) (.tmp 43) rfl (.slice ta s.wait.length tc) s.wait rfl hown hsz w6.heap.size 1 i rfl hy h2 ?_)
  intro va3 vn3 vc3 w8 hO8 hch8 hat8
  have hO : w8.ownsRow w0.heap.size 3 1 (.slice va3 vn3 vc3) (s.wait ++ [i]).length ((s.wait ++ [i]).map intV) := by first | exact hO8 | simpa using hO8
  have hk8 : Chg (fun b => x.vt.ownBlock = some b) W7 w8 := by rw [hvt, hW7]; exact ((Fr.refl _).alloc _).chg.trans hch8
  have hq3 : ¬ x.vt.ownBlock = some x.q := fun e => by have := HM5.out.inj 3 0 _ e rfl; omega
  have HM6 := Lib.hid (HM5.out.waitTo hk8 hO (fun g hg => by
    show x.vt.ownBlock = some g ∨ _
    rw [hvt, hW7]; exact (hat8 g hg).imp id fun e => by first | omega | (simp at e ⊢; omega)))
  have hc3 := HM5.out.c3.chg hk8 hq3
  have c3 := hc3.1
  have f3 := hc3.2
  have lq := hc3.lt
  have c3 : w8.cell? ⟨x.q, 3, none⟩ = some x.vt := c3
  rw [hvt] at c3
  have lq : x.q < w8.heap.size := lq
  clear hO hO8 hch8 hat8 hk8 hq3 hc3 hown hy hsz HM5 c2 f2 lq7
  go_wp2_with fail
  refine bodyPost_end (results_none rfl _ _ _) rfl ?_
  exact ⟨rfl, _, _, HM6.out⟩
end Go.Proofs.Ytadognaafgndnaa

/- scc.search.leave: its walk. No condition but that the search lies there, and bounds. -/
namespace Go.Proofs.Ytadognaafgndnaa
open Go.RowKit
attribute [local go_sem] Oper.semAt_some

/-- A cell of a node is written: how early it leads back. -/
theorem Mem.lowTo {w0 w : World} {x : MB} {vG : Value} {n : Nat} {s : St} {wf : Nat → Bool} (H : Mem w0 w x vG n s wf) (i b : Nat) : Mem w0 (w.setCell ⟨x.gn, i * 4 + 1, none⟩ (.int .i64 (b : Nat))) x vG n { s with low := setF s.low i b } wf := by
  have k : Chg (fun b => b = x.gn) w (w.setCell ⟨x.gn, i * 4 + 1, none⟩ (.int .i64 (b : Nat))) := (Chg.refl (fun b => b = x.gn) w).set (p := ⟨x.gn, i * 4 + 1, none⟩) (.inr rfl) _
  refine H.nodes k ⟨rfl, rfl, rfl, rfl⟩ (fun j hj => (H.n0 j hj).keepSet (.inr (by omega)) _) (fun j hj => ?_) (fun j hj => (H.n2 j hj).keepSet (.inr (by omega)) _) (fun j hj => (H.n3 j hj).keepSet (.inr (by omega)) _)
  show Cel _ _ _ (.int .i64 (setF s.low i b j : Nat))
  by_cases h : j = i
  · subst h; rw [setF_same]; exact (H.n1 j hj).set _
  · rw [setF_other _ _ h]; exact (H.n1 j hj).keepSet (.inr (by omega)) _
theorem Mem.goneTo {w0 w : World} {x : MB} {vG : Value} {n : Nat} {s : St} {wf : Nat → Bool} (H : Mem w0 w x vG n s wf) (i b : Nat) : Mem w0 (w.setCell ⟨x.gn, i * 4 + 3, none⟩ (.int .i64 (b : Nat))) x vG n { s with gone := setF s.gone i b } wf := by
  have k : Chg (fun b => b = x.gn) w (w.setCell ⟨x.gn, i * 4 + 3, none⟩ (.int .i64 (b : Nat))) := (Chg.refl (fun b => b = x.gn) w).set (p := ⟨x.gn, i * 4 + 3, none⟩) (.inr rfl) _
  refine H.nodes k ⟨rfl, rfl, rfl, rfl⟩ (fun j hj => (H.n0 j hj).keepSet (.inr (by omega)) _) (fun j hj => (H.n1 j hj).keepSet (.inr (by omega)) _) (fun j hj => (H.n2 j hj).keepSet (.inr (by omega)) _) (fun j hj => ?_)
  show Cel _ _ _ (.int .i64 (setF s.gone i b j : Nat))
  by_cases h : j = i
  · subst h; rw [setF_same]; exact (H.n3 j hj).set _
  · rw [setF_other _ _ h]; exact (H.n3 j hj).keepSet (.inr (by omega)) _
theorem Mem.waitsTo {w0 w : World} {x : MB} {vG : Value} {n : Nat} {s : St} {wf : Nat → Bool} (H : Mem w0 w x vG n s wf) (i : Nat) (b : Bool) : Mem w0 (w.setCell ⟨x.gn, i * 4 + 2, none⟩ (.bool b)) x vG n s (fun j => if j = i then b else wf j) := by
  have k : Chg (fun b => b = x.gn) w (w.setCell ⟨x.gn, i * 4 + 2, none⟩ (.bool b)) := (Chg.refl (fun b => b = x.gn) w).set (p := ⟨x.gn, i * 4 + 2, none⟩) (.inr rfl) _
  refine H.nodes k ⟨rfl, rfl, rfl, rfl⟩ (fun j hj => (H.n0 j hj).keepSet (.inr (by omega)) _) (fun j hj => (H.n1 j hj).keepSet (.inr (by omega)) _) (fun j hj => ?_) (fun j hj => (H.n3 j hj).keepSet (.inr (by omega)) _)
  show Cel _ _ _ (.bool (if j = i then b else wf j))
  by_cases h : j = i
  · subst h; rw [if_pos rfl]; exact (H.n2 j hj).set _
  · rw [if_neg h]; exact (H.n2 j hj).keepSet (.inr (by omega)) _
theorem node_at {w0 w : World} {x : MB} {vG : Value} {n : Nat} {s : St} {wf : Nat → Bool} (H : Mem w0 w x vG n s wf) {i : Nat} (hi : i < n) : w.rangeAt x.gn (i * 4) [.int .i64 (s.num i : Nat), .int .i64 (s.low i : Nat), .bool (wf i), .int .i64 (s.gone i : Nat)] := fun j u hj => by
  match j, hj with
  | 0, hj => cases hj; exact (H.n0 i hi).1
  | 1, hj => cases hj; exact (H.n1 i hi).1
  | 2, hj => cases hj; exact (H.n2 i hi).1
  | 3, hj => cases hj; exact (H.n3 i hi).1
  | j + 4, hj => simp at hj
/-- The way's last one. -/
theorem Mem.lastWay {w0 w : World} {x : MB} {vG : Value} {n : Nat} {s : St} {wf : Nat → Bool} (H : Mem w0 w x vG n s wf) {wv : List Nat} {i : Nat} (hw : s.way = wv ++ [i]) :
    ∃ g c, x.vw = .slice (some ⟨g, 0, none⟩) (wv.length + 1) c ∧ wv.length + 1 ≤ c ∧ w.cell? ⟨g, wv.length, none⟩ = some (.int .i64 (i : Nat)) ∧ w.ownsRow w0.heap.size 3 1 (.slice (some ⟨g, 0, none⟩) wv.length c) wv.length (wv.map intV) := by
  obtain ⟨a, c, h1, h2, h3⟩ := ints_form H.way
  obtain ⟨g, rfl, h4⟩ := h3 wv.length (by rw [hw]; simp)
  have hl : s.way.length = wv.length + 1 := by rw [hw]; simp
  rw [hl] at h1 h2
  refine ⟨g, c, h1, h2, ?_, ?_⟩
  · have e : s.way[wv.length]'(by omega) = i := by simp [hw]
    rw [e] at h4; exact h4
  · have h5 := H.way
    rw [h1, hl, hw, List.map_append, List.map_singleton] at h5
    have h6 := ownsRow_first (xs := wv.map intV) (n := 1) (ys := [intV i]) (by rw [List.length_map]; exact h5)
    rwa [List.length_map] at h6
set_option maxRecDepth 100000 in
set_option maxHeartbeats 8000000 in
theorem leave_c {w0 w : World} {x : MB} {vG : Value} {n : Nat} {s : St} {wf : Nat → Bool} (H : Mem w0 w x vG n s wf) {wv : List Nat} {i : Nat} (hw : s.way = wv ++ [i]) (hi : ∀ v ∈ s.way, v < n) (hn : n ≤ 5864062014640) (h1 : s.way.length ≤ 5864062014640) (h2 : s.wait.length ≤ 5864062014640) (hne : s.low i ≠ s.num i) {w2 : List Nat} {p : Nat} (hwv : wv = w2 ++ [p]) :
    Calls Try.prog 41 #[Pt x.q] w fun e w' => e = .returned (.tuple #[]) ∧ ∃ vw, Mem w0 w' { x with vw := vw } vG n (s.up wv i) wf := by
  have hin : i < n := hi i (by rw [hw]; simp)
  have hpn : p < n := hi p (by rw [hw, hwv]; simp)
  have hwp : (0 : Int) < (wv.length : Int) := by rw [hwv, List.length_append, List.length_singleton]; omega
  have HWV := Lib.hid hwv
  clear hwv
  obtain ⟨g, c, hvw, hgc, hcl, hfirst⟩ := H.lastWay hw
  have c2 := H.c2.1
  rw [hvw] at c2
  have lq := H.c2.lt
  have lg := lt_of_cell hcl
  simp only at lg
  have hwl : wv.length + 1 ≤ 5864062014640 := by rw [hw] at h1; simpa using h1
  have HH := Lib.hid H
  clear H hfirst
  go_enter Try.func41, Try.ntmps41
  go_wp2_with fail
  go_quiet (fail)
  clear c2 hcl lq lg
  refine gen_w fun W1 hW1 => ?_
  have HA : Hid (Mem w0 W1 x vG n s wf) := by rw [hW1]; exact HH.out.fr ((Fr.refl w).drewN nq)
  clear hW1 HH
  have c2 := HA.out.c2.1
  rw [hvw] at c2
  have e2 := FrW.cell c2
  have lq : x.q < W1.heap.size := HA.out.c2.lt
  have lz : ∀ z : FrW W1, x.q < z.val.heap.size := fun z => Nat.lt_of_lt_of_le lq z.fr.size
  have hcc : wv.length ≤ c := by omega
  go_wp2_with fail
  refine wp_region_frt 14 (by kernel_rfl) (by kernel_rfl) ?_
  simp only [List.take_succ_cons, List.take_zero]
  repeat (go_big_quiet_step (fail))
  refine wpQuiet_nil ?_
  rintro w5 ⟨⟨_, hf5⟩, rfl⟩
  simp only [List.drop_succ_cons, List.drop_zero]
  have HB := Lib.hid (HA.out.fr hf5)
  clear c2 e2 lq lz hf5 HA
  obtain ⟨g', c', hvw', _, _, hfirst⟩ := HB.out.lastWay hw
  rw [hvw] at hvw'
  cases hvw'
  have HC := Lib.hid (HB.out.wayTo (v := .slice (some ⟨g, 0, none⟩) wv.length c) (L := wv) (Chg.refl _ w5) hfirst (fun g' hg => .inl (by rw [hvw]; exact hg)))
  have c2 := HB.out.c2.1
  have f2 := HB.out.c2.2
  have lq := HB.out.c2.lt
  have c1 := HC.out.c1.1
  have hx : (w5.setCell ⟨x.q, 2, none⟩ (.slice (some ⟨g, 0, none⟩) wv.length c)).rangeAt x.gn (i * 4) [.int .i64 (s.num i : Nat), .int .i64 (s.low i : Nat), .bool (wf i), .int .i64 (s.gone i : Nat)] := node_at HC.out hin
  have c1 : (w5.setCell ⟨x.q, 2, none⟩ (.slice (some ⟨g, 0, none⟩) wv.length c)).cell? ⟨x.q, 1, none⟩ = some (.slice (some ⟨x.gn, 0, none⟩) n n) := c1
  have lgn : x.gn < (w5.setCell ⟨x.q, 2, none⟩ (.slice (some ⟨g, 0, none⟩) wv.length c)).heap.size := HC.out.ltn
  clear hfirst
  go_wp2_with (first | ((with_reducible refine wpList_here (.load 59 (.tmp 40)) rfl ?_); refine wpList_load_midW 59 (.tmp 40) rfl x.gn (i * 4) rfl _ _ hx Try.underlying59 rfl Try.infoNode rfl ?_) | ((with_reducible refine wpList_here (.store 59 (.tmp 3) (.tmp 41)) rfl ?_); refine wpList_store_new 59 (.tmp 3) (.tmp 41) rfl _ #[.int .i64 (s.num i : Nat), .int .i64 (s.low i : Nat), .bool (wf i), .int .i64 (s.gone i : Nat)] _ rfl rfl rfl Try.infoNode rfl (by simp [Value.oneCell']) rfl rfl ?_))
  refine gen_w fun W6 hW6 => ?_
  have HD : Hid (Mem w0 W6 { x with vw := .slice (some ⟨g, 0, none⟩) wv.length c } vG n { s with way := wv } wf) := by rw [hW6]; exact HC.out.fr ((Fr.refl _).alloc _)
  have hB : BoxAt W6 w5.heap.size #[.int .i64 (s.num i : Nat), .int .i64 (s.low i : Nat), .bool (wf i), .int .i64 (s.gone i : Nat)] 59 := by rw [hW6]; exact BoxAt.new' _ _ _ _ (by simp)
  have hgb : x.gn ≠ w5.heap.size := by have h9 : x.gn < w5.heap.size := HB.out.ltn; omega
  generalize w5.heap.size = bx at hB hgb ⊢
  clear hW6 HC HB c1 c2 f2 lq hx lgn
  obtain ⟨g3, c3, hv3, _, hcl, _⟩ := HD.out.lastWay (wv := w2) (i := p) HWV.out
  have hwl2 : wv.length = w2.length + 1 := by rw [HWV.out]; simp
  have hv3 : (Value.slice (some ⟨g, 0, none⟩) wv.length c) = .slice (some ⟨g3, 0, none⟩) (w2.length + 1) c3 := hv3
  simp only [Value.slice.injEq, Option.some.injEq, Addr.mk.injEq, and_true] at hv3
  obtain ⟨rfl, _, rfl⟩ := hv3
  have hjn : (wv.length : Int) - 1 = (w2.length : Int) := by omega
  have hw2 : w2.length < wv.length := by omega
  have c1 : W6.cell? ⟨x.q, 1, none⟩ = some (.slice (some ⟨x.gn, 0, none⟩) n n) := HD.out.c1.1
  have c2 : W6.cell? ⟨x.q, 2, none⟩ = some (.slice (some ⟨g, 0, none⟩) wv.length c) := HD.out.c2.1
  have lq : x.q < W6.heap.size := HD.out.c1.lt
  have lg := lt_of_cell hcl
  simp only at lg
  clear hwl2
  go_quiet (fail)
  refine gen_w fun W7 hW7 => ?_
  have HD7 : Hid (Mem w0 W7 { x with vw := .slice (some ⟨g, 0, none⟩) wv.length c } vG n { s with way := wv } wf) := by rw [hW7]; exact HD.out.fr ((Fr.refl _).drewN _)
  have hB7 : BoxAt W7 bx #[.int .i64 (s.num i : Nat), .int .i64 (s.low i : Nat), .bool (wf i), .int .i64 (s.gone i : Nat)] 59 := by rw [hW7]; exact hB.drewN _
  have HB7 := Lib.hid hB7
  have hlp : W7.cell? ⟨x.gn, p * 4 + 1, none⟩ = some (.int .i64 (s.low p : Nat)) := (HD7.out.n1 p hpn).1
  have k1 : W7.cell? ⟨bx, 1, none⟩ = some (.int .i64 (s.low i : Nat)) := hB7.at 1 rfl
  have e1 := FrW.cell hlp
  have e2 := FrW.cell k1
  have lgn : x.gn < W7.heap.size := HD7.out.ltn
  have lbx := hB7.lt
  have t1 : ∀ z : FrW W7, x.gn < z.val.heap.size := fun z => Nat.lt_of_lt_of_le lgn z.fr.size
  have t2 : ∀ z : FrW W7, bx < z.val.heap.size := fun z => Nat.lt_of_lt_of_le lbx z.fr.size
  have hmin : min ((s.low p : Nat) : Int) ((s.low i : Nat) : Int) = ((min (s.low p) (s.low i) : Nat) : Int) := by omega
  clear hW7 HD hB c1 c2 lq lg hcl hB7
  go_wp2_with fail
  refine wp_region_frt 13 (by kernel_rfl) (by kernel_rfl) ?_
  simp only [List.take_succ_cons, List.take_zero]
  repeat (go_big_quiet_step (fail))
  refine wpQuiet_nil ?_
  rintro w8 ⟨⟨_, hf8⟩, rfl⟩
  simp only [List.drop_succ_cons, List.drop_zero]
  have hif : (if s.low i < s.low p then ((s.low i : Nat) : Int) else ((s.low p : Nat) : Int)) = ((min (s.low p) (s.low i) : Nat) : Int) := by split <;> omega
  try rw [hif]
  clear hif hmin
  have HD8 := Lib.hid (HD7.out.fr hf8)
  have hB8 := HB7.out.fr hf8
  have HE := Lib.hid (HD8.out.lowTo p (min (s.low p) (s.low i)))
  have hB9 := hB8.set (p := ⟨x.gn, p * 4 + 1, none⟩) hgb (.int .i64 ((min (s.low p) (s.low i) : Nat) : Int))
  have k0 := hB9.at 0 rfl
  have k1 := hB9.at 1 rfl
  have lb9 := hB9.lt
  have hl8 : w8.cell? ⟨x.gn, p * 4 + 1, none⟩ = some (.int .i64 (s.low p : Nat)) := (HD8.out.n1 p hpn).1
  have fl8 : w8.frozen? ⟨x.gn, p * 4 + 1, none⟩ = false := (HD8.out.n1 p hpn).2
  have lg8 : x.gn < w8.heap.size := HD8.out.ltn
  have HEQ : Hid (St.up s wv i = { s with way := wv, low := setF s.low p (min (s.low p) (s.low i)) }) := Lib.hid (by unfold St.up lowUp; rw [HWV.out]; simp)
  clear e1 e2 t1 t2 hlp lgn lbx hf8 HD7 HD8 hB8 hB9 HB7
  have hzz : (((s.low i : Nat) : Int) != ((s.num i : Nat) : Int)) = true := by simp; omega
  go_wp2_with fail
  refine bodyPost_ret (results_none rfl _ _ _) rfl ?_
  exact ⟨rfl, _, by rw [HEQ.out]; exact HE.out⟩
end Go.Proofs.Ytadognaafgndnaa
