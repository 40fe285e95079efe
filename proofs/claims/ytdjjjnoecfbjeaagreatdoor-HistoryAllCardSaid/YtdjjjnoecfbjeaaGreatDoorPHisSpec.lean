/- What an automaton tells of events, one behind the other: plain. -/
import Derived.Test.YtdjjjnoecfbjeaaGreatDoorPOpTake
import Derived.Test.YtdjjjnoecfbjeaaGreatDoorPResMay
import Derived.Maps.OwnOps
import Derived.Maps.Views
import Derived.DeepKeys4
set_option linter.all false
set_option linter.unusedVariables false
set_option linter.unusedSimpArgs false
set_option linter.unnecessarySimpa false
/- What an automaton tells of events, one behind the other: plain. -/
namespace Go.Proofs.YtdjjjnoecfbjeaaGreatDoor
open Go.RowKit

/-- Does an event open something? -/
def Ev.opens (x : Ev) : Bool := x.kind == 2 || x.kind == 5
/-- The last event of a client. -/
def lastOf (L : List Ev) (c : Nat) : Option Ev := (L.drop 1).reverse.find? fun x => decide (x.client = c)
/-- What a client has open. -/
def pend (L : List Ev) (c : Nat) : Option Ev := (lastOf L c).filter Ev.opens
theorem drop1_snoc {L : List Ev} (h : L ≠ []) (x : Ev) : (L ++ [x]).drop 1 = L.drop 1 ++ [x] := by
  cases L with
  | nil => exact absurd rfl h
  | cons a l => rfl
theorem lastOf_snoc {L : List Ev} (h : L ≠ []) (x : Ev) (c : Nat) : lastOf (L ++ [x]) c = if x.client = c then some x else lastOf L c := by
  unfold lastOf
  rw [drop1_snoc h, List.reverse_append]
  simp only [List.reverse_cons, List.reverse_nil, List.nil_append, List.cons_append, List.find?_cons]
  by_cases hc : x.client = c <;> simp [hc]
theorem pend_snoc {L : List Ev} (h : L ≠ []) (x : Ev) (c : Nat) : pend (L ++ [x]) c = if x.client = c then (if x.opens then some x else none) else pend L c := by
  unfold pend
  rw [lastOf_snoc h]
  by_cases hc : x.client = c
  · rw [if_pos hc, if_pos hc]
    cases ho : x.opens <;> simp [Option.filter, ho]
  · rw [if_neg hc, if_neg hc]
theorem pend_one (x : Ev) (c : Nat) : pend [x] c = none := rfl
theorem pend_nil (c : Nat) : pend [] c = none := rfl
theorem pend_client {L : List Ev} {c : Nat} {p : Ev} (h : pend L c = some p) : p.client = c ∧ p.opens = true ∧ p ∈ L.drop 1 := by
  unfold pend at h
  obtain ⟨h1, h2⟩ := Option.filter_eq_some_iff.1 h
  unfold lastOf at h1
  have h3 := List.find?_some h1
  have h4 := List.mem_of_find?_eq_some h1
  exact ⟨by simpa using h3, h2, by simpa using h4⟩
/-- The greatest ID. -/
def lastId (L : List Ev) : Int := (L.drop 1).foldl (fun n x => max n (x.id : Int)) (-1)
theorem lastId_snoc {L : List Ev} (h : L ≠ []) (x : Ev) : lastId (L ++ [x]) = max (lastId L) x.id := by
  unfold lastId
  rw [drop1_snoc h, List.foldl_append]
  rfl
theorem foldl_max_le (l : List Ev) : ∀ n : Int, n ≤ l.foldl (fun n x => max n (x.id : Int)) n ∧ ∀ x ∈ l, (x.id : Int) ≤ l.foldl (fun n x => max n (x.id : Int)) n := by
  induction l with
  | nil => intro n; simp
  | cons a l ih =>
    intro n
    obtain ⟨h1, h2⟩ := ih (max n a.id)
    refine ⟨by simp only [List.foldl_cons]; omega, fun x hx => ?_⟩
    simp only [List.foldl_cons]
    rcases List.mem_cons.1 hx with rfl | hx
    · omega
    · exact h2 x hx
theorem lastId_le {L : List Ev} {x : Ev} (h : x ∈ L.drop 1) : (x.id : Int) ≤ lastId L := (foldl_max_le _ _).2 x h
theorem lastId_ge (L : List Ev) : -1 ≤ lastId L := (foldl_max_le _ _).1
/-- Does a micro append this to that key? -/
def Mic.puts (m : Mic) (k v : Nat) : Bool := !m.read && decide (m.key = k) && decide (m.v = v)
/-- Has a number been appended to a key? -/
def app (L : List Ev) (k v : Nat) : Bool := (L.drop 1).any fun x => x.txn.any fun m => m.puts k v
theorem app_snoc {L : List Ev} (h : L ≠ []) (x : Ev) (k v : Nat) : app (L ++ [x]) k v = (app L k v || x.txn.any fun m => m.puts k v) := by
  unfold app
  rw [drop1_snoc h, List.any_append]
  simp
/-- Does a transaction read a key that it has appended to? -/
def readsOwn (l : List Mic) : Bool := (List.range l.length).any fun i => (l[i]?.any Mic.read) && (l.take i).any fun m => !m.read && decide (some m.key = l[i]?.map Mic.key)
/-- Does a transaction append what it has appended, or another one? -/
def twice (L : List Ev) (l : List Mic) : Bool := (List.range l.length).any fun i => l[i]?.any fun m => !m.read && ((l.take i).any (fun q => q.puts m.key m.v) || app L m.key m.v)
/-- Why a client may not open something. -/
def opensWhy (L : List Ev) (model : Nat) (x : Ev) : Nat :=
  if (pend L x.client).isSome then 9 else if (x.id : Int) ≤ lastId L then 8 else if x.kind = 2 then (checkN model x.op.F x.op.O x.op.K x.op.A x.op.B).toNat
  else if readsOwn x.txn then 10 else if twice L x.txn then 8 else 0
def readsIn (l : List Mic) : Nat := (l.filter Mic.read).length
/-- Why what a client has open may not end so. -/
def endsWhy (L : List Ev) (x : Ev) : Nat :=
  match pend L x.client with
  | none => 7
  | some p => if p.id ≠ x.id then 7 else if x.kind = 3 then mayRes p.op.F x.rk x.rv else if x.kind = 6 ∧ readsIn p.txn ≠ x.reads.length then 10 else 0
/-- Is an event none of the model's? -/
def foreign (model kind : Nat) : Bool := (decide (model = 4) && (decide (kind = 2) || decide (kind = 3))) || (decide (model ≠ 4) && (decide (kind = 5) || decide (kind = 6) || decide (kind = 7)))
/-- Why an event may not follow. -/
def stepWhy (L : List Ev) (x : Ev) : Nat :=
  if x.may = false then 4
  else if x.kind = 1 then (if L = [] then 0 else 11)
  else match L with
  | [] => 11
  | c :: _ => if foreign c.cfg.model x.kind then 10 else if x.opens then opensWhy L c.cfg.model x else endsWhy L x
/-- The events that were taken, behind one more. -/
def stepTo (L : List Ev) (x : Ev) : List Ev := if stepWhy L x = 0 then L ++ [x] else L
/-- How many are taken up to the first that is refused, and why it is. -/
def takeAll : List Ev → List Ev → Nat × Nat
  | _, [] => (0, 0)
  | L, x :: l => if stepWhy L x = 0 then ((takeAll (L ++ [x]) l).1 + 1, (takeAll (L ++ [x]) l).2) else (0, stepWhy L x)
theorem stepTo_first {L : List Ev} {x : Ev} (h : L = []) (hs : stepWhy L x = 0) : x.kind = 1 := by
  subst h
  unfold stepWhy at hs
  split at hs
  · cases hs
  · split at hs
    · assumption
    · cases hs
theorem stepWhy_more {c : Ev} {L : List Ev} {x : Ev} (hs : stepWhy (c :: L) x = 0) : x.may = true ∧ x.kind ≠ 1 ∧ foreign c.cfg.model x.kind = false ∧ (x.opens = true → opensWhy (c :: L) c.cfg.model x = 0) ∧ (x.opens = false → endsWhy (c :: L) x = 0) := by
  unfold stepWhy at hs
  split at hs
  · cases hs
  · rename_i h1
    split at hs
    · simp at hs
    · rename_i h2
      simp only at hs
      split at hs
      · cases hs
      · rename_i h3
        refine ⟨by simpa using h1, h2, by simpa using h3, fun ho => ?_, fun ho => ?_⟩
        · rwa [if_pos ho] at hs
        · rwa [if_neg (by simp [ho])] at hs
theorem opensWhy_id {L : List Ev} {m : Nat} {x : Ev} (h : opensWhy L m x = 0) : pend L x.client = none ∧ lastId L < x.id := by
  unfold opensWhy at h
  split at h
  · cases h
  · rename_i h1
    split at h
    · cases h
    · rename_i h2
      exact ⟨by simpa using h1, by omega⟩
theorem endsWhy_pend {L : List Ev} {x : Ev} (h : endsWhy L x = 0) : ∃ p, pend L x.client = some p ∧ p.id = x.id := by
  unfold endsWhy at h
  split at h
  · cases h
  · rename_i p hp
    split at h
    · cases h
    · rename_i h2
      exact ⟨p, hp, by simpa using h2⟩
/-- The greatest ID behind a step: that of what opens. -/
theorem lastId_open {c : Ev} {L : List Ev} {x : Ev} (hs : stepWhy (c :: L) x = 0) : lastId (c :: L ++ [x]) = if x.opens then (x.id : Int) else lastId (c :: L) := by
  obtain ⟨_, _, _, h4, h5⟩ := stepWhy_more hs
  rw [lastId_snoc (by simp)]
  cases ho : x.opens
  · obtain ⟨p, hp, hid⟩ := endsWhy_pend (h5 ho)
    have := lastId_le (pend_client hp).2.2
    rw [if_neg (by simp)]
    omega
  · have := (opensWhy_id (h4 ho)).2
    rw [if_pos rfl]
    omega
/-- Each of these could follow those ahead of it. -/
def Valid (L : List Ev) : Prop := ∀ i, (h : i < L.length) → stepWhy (L.take i) L[i] = 0
theorem Valid.nil : Valid [] := fun i h => by simp at h
theorem Valid.snoc {L : List Ev} (h : Valid L) {x : Ev} (hs : stepWhy L x = 0) : Valid (L ++ [x]) := by
  intro i hi
  by_cases he : i < L.length
  · rw [List.take_append_of_le_length (by omega), List.getElem_append_left he]
    exact h i he
  · have : i = L.length := by simp at hi; omega
    subst this
    rw [List.take_left, List.getElem_append_right (Nat.le_refl _)]
    simpa using hs
theorem Valid.stepTo {L : List Ev} (h : Valid L) (x : Ev) : Valid (stepTo L x) := by
  unfold Go.Proofs.YtdjjjnoecfbjeaaGreatDoor.stepTo
  split
  · rename_i hs; exact h.snoc hs
  · exact h
theorem Valid.take {L : List Ev} (h : Valid L) (k : Nat) : Valid (L.take k) := by
  intro i hi
  have hi2 : i < L.length := by simp at hi; omega
  have h3 : i < k := by simp at hi; omega
  rw [List.take_take, Nat.min_eq_left (by omega), List.getElem_take]
  exact h i hi2
/-- All of a valid list is taken. -/
theorem takeAll_valid : ∀ (l L : List Ev), Valid (L ++ l) → takeAll L l = (l.length, 0)
  | [], L, _ => rfl
  | x :: l, L, h => by
    have h1 := h L.length (by simp)
    rw [List.take_left, List.getElem_append_right (Nat.le_refl _)] at h1
    simp only [Nat.sub_self, List.getElem_cons_zero] at h1
    have h2 := takeAll_valid l (L ++ [x]) (by rw [List.append_assoc]; exact h)
    unfold takeAll
    rw [if_pos h1, h2]
    rfl
end Go.Proofs.YtdjjjnoecfbjeaaGreatDoor

/- Maps whose keys are elements of an automaton, and maps whose elements are bools. No condition but what each says. -/
namespace Go.Proofs.YtdjjjnoecfbjeaaGreatDoor
open Go.RowKit
open Go.Maps (Keyed)

theorem keyLaid : laidOutB Tryz.prog = true := by kernel_rfl
theorem elemLaw : WideMaps.KeyLaw Tryz.prog 60 := deep_law_laid keyLaid (m := 3) (by omega) (of_decide_eq_true (by kernel_rfl)) (by kernel_rfl) (by kernel_rfl)
theorem elemKeyed : Keyed Tryz.prog 60 := Keyed.of_law elemLaw
theorem u8Keyed : Keyed Tryz.prog 5 := Go.Maps.int_keyed (q := .u8) (by kernel_rfl)
/-- What an element reads as, as a key. -/
def ekey (k v : Nat) : Lit := .string (keyBytes [.int .u8 k, .int .u16 v])
theorem wf8 {k : Nat} (hk : k < 256) : (Lit.int .u8 k).wf = true := by
  simp only [Lit.wf, IntKind.min, IntKind.max, IntKind.signed, IntKind.bits, Bool.and_eq_true, decide_eq_true_eq, Bool.false_eq_true, if_false]
  omega
theorem wf16 {k : Nat} (hk : k < 65536) : (Lit.int .u16 k).wf = true := by
  simp only [Lit.wf, IntKind.min, IntKind.max, IntKind.signed, IntKind.bits, Bool.and_eq_true, decide_eq_true_eq, Bool.false_eq_true, if_false]
  omega
theorem lits8 (n : Nat) {k : Nat} (hk : k < 256) : Tryz.prog.keyLits (n + 1) 5 [.int .u8 k] = some [.int .u8 k] := by
  have hu : Tryz.prog.underlying 5 = some (.int .u8) := by kernel_rfl
  simp [Program.keyLits, hu, wf8 hk]
theorem lits16 (n : Nat) {k : Nat} (hk : k < 65536) : Tryz.prog.keyLits (n + 1) 29 [.int .u16 k] = some [.int .u16 k] := by
  have hu : Tryz.prog.underlying 29 = some (.int .u16) := by kernel_rfl
  simp [Program.keyLits, hu, wf16 hk]
theorem keyOf_elem {k v : Nat} (hk : k < 256) (hv : v < 65536) : keyOf Tryz.prog 60 (.agg #[.int .u8 k, .int .u16 v]) = some (ekey k v) := by
  have h1 : Tryz.prog.keyType 60 = true := by kernel_rfl
  have hc : Tryz.prog.cellsOf 60 = 2 := by kernel_rfl
  have c8 : Tryz.prog.cellsOf 5 = 1 := by kernel_rfl
  have c16 : Tryz.prog.cellsOf 29 = 1 := by kernel_rfl
  have hu : ∃ f g, Tryz.prog.underlying 60 = some (.struct #[f, g]) ∧ f.type = 5 ∧ g.type = 29 ∧ f.offset = 0 ∧ g.offset = 1 ∧ (f.name != "_") = true ∧ (g.name != "_") = true := ⟨_, _, Tryz.underlying60, rfl, rfl, rfl, rfl, by decide, by decide⟩
  obtain ⟨f, g, hu, t1, t2, o1, o2, n1, n2⟩ := hu
  have hs : ∃ n, Tryz.prog.types.size = n + 1 := ⟨Tryz.prog.types.size - 1, by have : 0 < Tryz.prog.types.size := of_decide_eq_true (by kernel_rfl); omega⟩
  obtain ⟨n, hs⟩ := hs
  have e : Tryz.prog.keyLits (n + 1 + 1) 60 [.int .u8 k, .int .u16 v] = some [.int .u8 k, .int .u16 v] := by
    unfold Program.keyLits
    simp only [hu]
    simp [hc, t1, t2, o1, o2, c8, c16, lits8 n hk, lits16 n hv]
    exact ⟨by simpa using n1, by simpa using n2⟩
  unfold keyOf
  rw [hu, hs]
  simp only [h1, Value.formed, hu, hc, Value.cells, e]
  rfl
theorem ekey_inj {k v k' v' : Nat} (hk : k < 256) (hv : v < 65536) (hk' : k' < 256) (hv' : v' < 65536) (h : ekey k v = ekey k' v') : k = k' ∧ v = v' := by
  have h1 := keyBytes_inj (l := [.int .u8 k, .int .u16 v]) (l' := [.int .u8 k', .int .u16 v']) ⟨rfl, rfl, trivial⟩ (by simp [Lit.keyWf, wf8 hk, wf16 hv]) (by simp [Lit.keyWf, wf8 hk', wf16 hv']) (by simpa [ekey] using h)
  simp at h1
  exact ⟨by omega, by omega⟩
/-- An element that reads as a bool's datum IS that bool. -/
theorem plainElem_bool_inv {H : Type} {P : Program} {e : TypeId} (he : P.underlying e = some .bool) {v : Value} {z : DataW H × List MemPlace} (h : plainElem P e v = some z) : ∃ x, v = .bool x ∧ z = (.lit (.bool x), []) := by
  unfold plainElem at h
  rw [he] at h
  cases v <;> simp at h
  exact ⟨_, rfl, h.symm⟩
/-- 'm[k]' at elements that are bools. -/
theorem ownsMap_lookup_bool {H : Type} {P : Program} {k : TypeId} {w : World} {b n : Nat} {D : DataW H} {t e : TypeId} (h : w.ownsMap P k (plainElem P e) b n D) (K : Keyed P k) (ht : P.underlying t = some (.map k e)) (he : P.underlying e = some .bool)
    (hz : (zeroValue e).run P w = .ok (.bool false) w) {key : Value} {kl : Lit} (hkey : keyOf P k key = some kl) :
    ∃ c, (Instr.lookup t (.map (some b)) key false).run P w = .ok (.bool c) w ∧ D.atKey kl (.lit (.bool false)) = .lit (.bool c) := by
  obtain ⟨v, ps, hrun, hv⟩ := h.lookup K ht hz (plainElem_bool he false) hkey
  obtain ⟨c, rfl, hc⟩ := plainElem_bool_inv he hv
  simp only [Prod.mk.injEq] at hc
  exact ⟨c, hrun, hc.1⟩
/-- .. at the operation. -/
theorem wpList_lookup_own_bool {H : Type} {P : Program} (w : World) {ops : Array Oper} {rest : List Oper} {o : Oper} {a : Act} {Q : Exit → Act → World → Prop}
    (hg : o.guard = none) (m x : Operand) (t : TypeId) (hop : o.op = Op.lookup t m x false)
    (k e : TypeId) (K : Keyed P k) (ht : P.underlying t = some (.map k e)) (he : P.underlying e = some .bool) (hz : (zeroValue e).run P w = .ok (.bool false) w) (b n : Nat) (D : DataW H)
    (hm : a.eval m = .map (some b)) (hown : w.ownsMap P k (plainElem P e) b n D) (key : Value) (kl : Lit) (hx : a.eval x = key) (hkey : keyOf P k key = some kl)
    (hK : ∀ c : Bool, D.atKey kl (.lit (.bool false)) = .lit (.bool c) → wpList P ops Q rest (a.put o.dst (.bool c)) w) :
    wpList P ops Q (o :: rest) a w := by
  refine wpList_plain hg fun K' hK' => ?_
  obtain ⟨c, hrun, hat⟩ := ownsMap_lookup_bool hown K ht he hz hkey
  unfold Oper.wp
  simp [execOp, hop, hm, hx, hrun, Result.andThen]
  exact hK' _ _ (hK c hat)
end Go.Proofs.YtdjjjnoecfbjeaaGreatDoor
