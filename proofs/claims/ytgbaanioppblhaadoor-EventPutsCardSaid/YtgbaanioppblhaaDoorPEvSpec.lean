/- What an event's bytes are, and which event any bytes are, in plain Lean: no program in sight. -/
import Derived.Test.YtgbaanioppblhaaDoorPRefTake
import Derived.Test.YtgbaanioppblhaaDoorPReader
import Derived.Test.YtgbaanioppblhaaDoorPResult
set_option linter.unusedVariables false
set_option linter.unusedSimpArgs false
/- What an event's bytes are, and which event any bytes are, in plain Lean: no program in sight. -/
namespace Go.Proofs.YtgbaanioppblhaaDoor
open Go.RowKit

/-- An event with what its kind needs, and nothing else. -/
def Ev.needed (x : Ev) : Ev :=
  if x.kind = 1 then { Ev.zero with kind := x.kind, cfg := x.cfg }
  else if x.kind = 2 then { Ev.zero with kind := x.kind, client := x.client, id := x.id, op := x.op }
  else if x.kind = 3 then { Ev.zero with kind := x.kind, client := x.client, id := x.id, rk := x.rk, rv := x.rv }
  else if x.kind = 5 then { Ev.zero with kind := x.kind, client := x.client, id := x.id, txn := x.txn }
  else if x.kind = 6 then { Ev.zero with kind := x.kind, client := x.client, id := x.id, reads := x.reads }
  else { Ev.zero with kind := x.kind, client := x.client, id := x.id }
def cfgMay (c : Cfg) : Bool := decide (c.model ≤ 4) && (decide (1 ≤ c.opens) && decide (c.opens ≤ 32)) && (decide (1 ≤ c.states) && decide (c.states ≤ 4096)) && (decide (1 ≤ c.steps) && decide (c.steps ≤ 1048576))
def txnMay (l : List Mic) : Bool := decide (1 ≤ l.length) && decide (l.length ≤ 8) && !l.any micBad
def readsMay (l : List (List Nat)) : Bool := decide (l.length ≤ 8) && !l.any listBad
/-- May what the kind needs be? -/
def Ev.kindMay (x : Ev) : Bool :=
  if x.kind = 1 then cfgMay x.cfg else if x.kind = 2 then x.op.may else if x.kind = 3 then goodB x.rk x.rv else if x.kind = 5 then txnMay x.txn else if x.kind = 6 then readsMay x.reads
  else x.kind == 4 || x.kind == 7
def Ev.may (x : Ev) : Bool := x.kindMay && decide (x.client < 16) && decide (x = x.needed)
def Ev.check (x : Ev) : Nat := if x.may then 0 else 4

def micBytes (m : Mic) : List UInt8 := if m.read then be (m.key + 128) 1 else be m.key 1 ++ be m.v 2
def bitsOf (a b c : Bool) : Nat := a.toNat + 2 * b.toNat + 4 * c.toNat
def cfgBytes (c : Cfg) : List UInt8 := be c.model 1 ++ be (bitsOf c.part c.cut c.memo) 1 ++ be c.opens.toNat 1 ++ be c.states.toNat 2 ++ be c.steps.toNat 4
/-- What stands behind the kind, and behind client and ID. -/
def Ev.tail (x : Ev) : List UInt8 :=
  if x.kind = 1 then cfgBytes x.cfg
  else if x.kind = 2 then opBytes x.op.F x.op.O x.op.K x.op.A x.op.B
  else if x.kind = 3 then resBytes x.rk x.rv
  else if x.kind = 5 then be x.txn.length 1 ++ x.txn.flatMap micBytes
  else if x.kind = 6 then be x.reads.length 1 ++ x.reads.flatMap listBytes
  else []
def Ev.head (x : Ev) : List UInt8 := if x.kind = 1 then be x.kind 1 else be x.kind 1 ++ be x.client 1 ++ be x.id 2
def Ev.bytes (x : Ev) : List UInt8 := x.head ++ x.tail
def Ev.put (x : Ev) : List UInt8 × Nat := if x.may then (x.bytes, 0) else ([], 4)

/-- Micros out of bytes: so many, until one is torn. -/
def rdMics : Nat → Nat → List UInt8 → Nat → List Mic × Nat × Nat
  | 0, e, _, at_ => ([], e, at_)
  | n + 1, e, s, at_ =>
    if e ≠ 0 then ([], e, at_) else
    let x := rdRaw 0 s at_ 1
    let y := if 128 ≤ ofBe x.1 then ([], x.2) else rdRaw x.2.1 s x.2.2 2
    let z := rdMics n y.2.1 s y.2.2
    (⟨decide (128 ≤ ofBe x.1), ofBe x.1 % 128, ofBe y.1⟩ :: z.1, z.2)
/-- Lists out of bytes: so many, until one is torn. -/
def rdLists : Nat → Nat → List UInt8 → Nat → List (List Nat) × Nat × Nat
  | 0, e, _, at_ => ([], e, at_)
  | n + 1, e, s, at_ =>
    if e ≠ 0 then ([], e, at_) else
    let x := rdList 0 s at_
    let z := rdLists n x.2.1 s x.2.2
    (x.1 :: z.1, z.2)
/-- A config out of bytes. -/
def rdCfg (e : Nat) (s : List UInt8) (at_ : Nat) : Cfg × Nat × Nat :=
  let a := rdRaw e s at_ 1
  let b := rdRaw a.2.1 s a.2.2 1
  let c := rdRaw b.2.1 s b.2.2 1
  let d := rdRaw c.2.1 s c.2.2 2
  let f := rdRaw d.2.1 s d.2.2 4
  (⟨ofBe a.1, ofBe c.1, ofBe d.1, ofBe f.1, ofBe b.1 % 2 == 1, ofBe b.1 / 2 % 2 == 1, ofBe b.1 / 4 % 2 == 1⟩, f.2)
def rdTxn (e : Nat) (s : List UInt8) (at_ : Nat) : List Mic × Nat × Nat :=
  let a := rdRaw e s at_ 1
  rdMics (ofBe a.1) a.2.1 s a.2.2
def rdReads (e : Nat) (s : List UInt8) (at_ : Nat) : List (List Nat) × Nat × Nat :=
  let a := rdRaw e s at_ 1
  rdLists (ofBe a.1) a.2.1 s a.2.2
/-- An operation to the end of the bytes. -/
def rdOp (e : Nat) (s : List UInt8) (at_ : Nat) : OpD × Nat :=
  if e ≠ 0 then (.zero, e) else
  let t := takeOp (s.drop at_)
  (t.1, if t.2.2 = 0 ∧ t.2.1 ≠ [] then 4 else t.2.2)
/-- What stands behind client and ID. -/
def rdBody (x : Ev) (e : Nat) (s : List UInt8) (at_ : Nat) : Ev × Nat :=
  if x.kind = 1 then ({ x with cfg := (rdCfg e s at_).1 }, (rdCfg e s at_).2.1)
  else if x.kind = 2 then ({ x with op := (rdOp e s at_).1 }, (rdOp e s at_).2)
  else if x.kind = 3 then ({ x with rk := (takeRes e s at_).1.1, rv := (takeRes e s at_).1.2.1 }, (takeRes e s at_).1.2.2)
  else if x.kind = 5 then ({ x with txn := (rdTxn e s at_).1 }, (rdTxn e s at_).2.1)
  else if x.kind = 6 then ({ x with reads := (rdReads e s at_).1 }, (rdReads e s at_).2.1)
  else (x, e)
def rdEv (k : Nat) (s : List UInt8) : Ev × Nat :=
  if k = 1 then rdBody { Ev.zero with kind := k } 0 s 1
  else
    let a := rdRaw 0 s 1 1
    let b := rdRaw a.2.1 s a.2.2 2
    rdBody { Ev.zero with kind := k, client := ofBe a.1, id := ofBe b.1 } b.2.1 s b.2.2
/-- The event that bytes are, or why they are none. -/
def takeEv : List UInt8 → Ev × Nat
  | [] => (.zero, 5)
  | k :: s =>
    if k.toNat < 1 ∨ 7 < k.toNat then (.zero, 4) else
    let y := rdEv k.toNat (k :: s)
    if y.2 ≠ 0 then (.zero, y.2) else if y.1.put = (k :: s, 0) then (y.1, 0) else (.zero, 4)
end Go.Proofs.YtgbaanioppblhaaDoor
