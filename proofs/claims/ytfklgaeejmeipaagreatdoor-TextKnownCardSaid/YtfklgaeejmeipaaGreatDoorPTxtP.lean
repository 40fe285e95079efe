/- An event's line, and the event that a line says: plain, no program in sight. No condition beyond what each says. -/
import Derived.Test.YtfklgaeejmeipaaGreatDoorPTxtS
import Derived.Test.YtfklgaeejmeipaaGreatDoorPOpTake
import Derived.Test.YtfklgaeejmeipaaGreatDoorPOpWords
import Derived.Test.YtfklgaeejmeipaaGreatDoorPResText
import Derived.Lib.AtoiAllCases
set_option linter.all false
set_option linter.unusedVariables false
set_option linter.unusedSimpArgs false
set_option linter.unnecessarySimpa false
/- An event's line, and the event that a line says: plain, no program in sight. No condition beyond what each says. -/
namespace Go.Proofs.YtfklgaeejmeipaaGreatDoor
open Go.RowKit

abbrev W8 := List UInt8
def kindW (k : Nat) : W8 := if k = 1 then [99, 111, 110, 102, 105, 103] else if k = 2 then [105, 110, 118, 111, 107, 101] else if k = 3 then [114, 101, 116, 117, 114, 110] else if k = 4 then [105, 110, 102, 111] else if k = 5 then [98, 101, 103, 105, 110] else if k = 6 then [99, 111, 109, 109, 105, 116] else if k = 7 then [97, 98, 111, 114, 116] else []
def modelW (m : Nat) : W8 := if m = 0 then [114, 101, 103, 105, 115, 116, 101, 114] else if m = 1 then [113, 117, 101, 117, 101] else if m = 2 then [109, 97, 112] else if m = 3 then [108, 111, 99, 107] else [97, 112, 112, 101, 110, 100]
def partitionW : W8 := [112, 97, 114, 116, 105, 116, 105, 111, 110]
def cutW : W8 := [99, 117, 116]
def memoW : W8 := [109, 101, 109, 111]
def readW : W8 := [114, 101, 97, 100]
def appendW : W8 := [97, 112, 112, 101, 110, 100]
def flagW (b : Bool) (w : W8) : List W8 := if b then [w] else []
def cfgWords (c : Cfg) : List W8 := [modelW c.model, Lib.decDigits c.opens.toNat, Lib.decDigits c.states.toNat, Lib.decDigits c.steps.toNat] ++ flagW c.part partitionW ++ flagW c.cut cutW ++ flagW c.memo memoW
def micWords (m : Mic) : List W8 := if m.read then [readW, Lib.decDigits m.key] else [appendW, Lib.decDigits m.key, Lib.decDigits m.v]
def micsWords (l : List Mic) : List W8 := l.flatMap micWords
def listWord (l : List Nat) : W8 := if l = [] then [45] else Lib.join (l.map Lib.decDigits) [44]
/-- What stands behind client and ID: an answer's text as it is. -/
def Ev.tailW (x : Ev) : List W8 :=
  if x.kind = 2 then wordsOf x.op else if x.kind = 3 then [resText x.rk x.rv] else if x.kind = 5 then micsWords x.txn else if x.kind = 6 then x.reads.map listWord else []
def Ev.words (x : Ev) : List W8 := kindW x.kind :: (if x.kind = 1 then cfgWords x.cfg else Lib.decDigits x.client :: Lib.decDigits x.id :: x.tailW)
def Ev.line (x : Ev) : W8 := Lib.join x.words [32]
/-- What Line answers. -/
def Ev.said (x : Ev) : W8 × Nat := if x.may then (x.line, 0) else ([], 4)

/-- What a word says, at most so much. -/
def digW (most : Int) (s : W8) : Option Nat := match Lib.atoiAll s with | .ok v => if v < 0 ∨ most < v then none else some v.toNat | _ => none
def digsW (most : Int) : List W8 → Option (List Nat)
  | [] => some []
  | s :: r => match digW most s with | none => none | some v => (digsW most r).map (v :: ·)
/-- The next word's number. -/
def numN (most : Int) : List W8 → Option (Nat × List W8)
  | [] => none
  | s :: r => (digW most s).map fun v => (v, r)
def isN (s : W8) : List W8 → Bool × List W8
  | [] => (false, [])
  | t :: r => if t = s then (true, r) else (false, t :: r)
/-- The last of the first k models with that name, and one more; 0: none. -/
def modelOf (w : W8) : Nat → Nat
  | 0 => 0
  | k + 1 => if modelW k = w then k + 1 else modelOf w k
/-- The last of the first k kinds with that name; 0: none. -/
def kindOfT (w : W8) : Nat → Nat
  | 0 => 0
  | k + 1 => if 0 < k ∧ kindW k = w then k else kindOfT w k
def cfgN : List W8 → Option (Cfg × List W8)
  | [] => none
  | s :: r =>
    if modelOf s 5 = 0 then none else
    match numN 32 r with
    | none => none
    | some (a, r1) => match numN 4096 r1 with
      | none => none
      | some (b, r2) => match numN 1048576 r2 with
        | none => none
        | some (c, r3) => some (⟨modelOf s 5 - 1, a, b, c, (isN partitionW r3).1, (isN cutW (isN partitionW r3).2).1, (isN memoW (isN cutW (isN partitionW r3).2).2).1⟩, (isN memoW (isN cutW (isN partitionW r3).2).2).2)
/-- The micros that words are. -/
def micsN : List W8 → Option (List Mic)
  | [] => some []
  | [_] => none
  | w :: k :: r =>
    if w = readW then match digW 8 k with | none => none | some a => (micsN r).map (⟨true, a, 0⟩ :: ·)
    else if w = appendW then match r with | [] => none | v :: q => match digW 8 k, digW 65535 v with | some a, some b => (micsN q).map (⟨false, a, b⟩ :: ·) | _, _ => none
    else none
def listN (s : W8) : Option (List Nat) := if s = [45] then some [] else digsW 65535 (splitS 44 s)
def listsN : List W8 → Option (List (List Nat))
  | [] => some []
  | s :: r => match listN s with | none => none | some l => (listsN r).map (l :: ·)
/-- What stands behind client and ID. -/
def bodyN (x : Ev) (l : List W8) : Option Ev :=
  if x.kind = 1 then (cfgN l).map fun c => { x with cfg := c.1 }
  else if x.kind = 2 then (if (parseOp l).2 = 0 then some { x with op := (parseOp l).1 } else none)
  else if x.kind = 3 then (if (parseRes (Lib.join l [32])).2.2 = 0 then some { x with rk := (parseRes (Lib.join l [32])).1, rv := (parseRes (Lib.join l [32])).2.1 } else none)
  else if x.kind = 5 then (micsN l).map fun t => { x with txn := t }
  else if x.kind = 6 then (listsN l).map fun t => { x with reads := t }
  else some x
def restN (k : Nat) (l : List W8) : Option Ev :=
  if k = 1 then bodyN { Ev.zero with kind := k } l else
  match numN 16 l with
  | none => none
  | some (a, r) => match numN 65535 r with
    | none => none
    | some (b, q) => bodyN { Ev.zero with kind := k, client := a, id := b } q
/-- The event that words would say. -/
def wordsN : List W8 → Option Ev
  | [] => none
  | s :: r => if kindOfT s 8 = 0 then none else restN (kindOfT s 8) r
/-- The event that a line says. -/
def parseLn (s : W8) : Ev × Nat := match wordsN (splitS 32 s) with | none => (.zero, 4) | some x => if x.said = (s, 0) then (x, 0) else (.zero, 4)
end Go.Proofs.YtfklgaeejmeipaaGreatDoor

/- Numbers and lists out of words, small laws: plain. No condition beyond what each says. -/
namespace Go.Proofs.YtfklgaeejmeipaaGreatDoor
open Go.RowKit

theorem decDigits_short {n : Nat} (h : n < 65536) : (Lib.decDigits n).length ≤ 5 := decDigits_len5 h
theorem join_le (c : UInt8) : ∀ (ls : List W8) (k : Nat), (∀ l ∈ ls, l.length ≤ k) → (Lib.join ls [c]).length ≤ ls.length * (k + 1)
  | [], k, h => by simp [Lib.join]
  | [a], k, h => by have := h a (by simp); simp [Lib.join]; omega
  | a :: b :: r, k, h => by
    have h1 := h a (by simp)
    have h2 := join_le c (b :: r) k (fun l hl => h l (by simp [hl]))
    rw [join_is, joinS_cons c a (by simp), ← join_is]
    simp only [List.length_append, List.length_cons] at h2 ⊢
    rw [Nat.add_mul]
    omega
theorem digW_some {most : Int} {s : W8} {n : Nat} (h : digW most s = some n) : ∃ v : Int, Lib.atoiAll s = .ok v ∧ v = n ∧ v ≤ most := by
  unfold digW at h
  split at h
  · rename_i v hv
    split at h
    · cases h
    · simp only [Option.some.injEq] at h
      exact ⟨v, hv, by omega, by omega⟩
  · cases h
theorem isN_cons (q s : W8) (l : List W8) : isN q (s :: l) = if s = q then (true, l) else (false, s :: l) := rfl
theorem numN_cons (most : Int) (s : W8) (l : List W8) : numN most (s :: l) = (digW most s).map fun v => (v, l) := rfl
theorem micsN_two (w k : W8) (r : List W8) : micsN (w :: k :: r) = if w = readW then (match digW 8 k with | none => none | some a => (micsN r).map (⟨true, a, 0⟩ :: ·))
    else if w = appendW then (match r with | [] => none | v :: q => match digW 8 k, digW 65535 v with | some a, some b => (micsN q).map (⟨false, a, b⟩ :: ·) | _, _ => none) else none := by
  first | (rw [micsN.eq_def]; done) | (rw [micsN.eq_def]; rfl)
theorem digW_le {most : Int} {s : W8} {n : Nat} (h : digW most s = some n) : (n : Int) ≤ most := by
  obtain ⟨v, _, h2, h3⟩ := digW_some h
  omega
theorem numN_some {most : Int} {l l' : List W8} {n : Nat} (h : numN most l = some (n, l')) : ∃ s, l = s :: l' := by
  cases l with
  | nil => cases h
  | cons s q =>
    unfold numN at h
    obtain ⟨m, h1, h2⟩ := Option.map_eq_some_iff.1 h
    cases h2
    exact ⟨s, rfl⟩
theorem numN_le {most : Int} {l l' : List W8} {n : Nat} (h : numN most l = some (n, l')) : (n : Int) ≤ most := by
  obtain ⟨s, rfl⟩ := numN_some h
  rw [numN_cons] at h
  obtain ⟨m, h1, h2⟩ := Option.map_eq_some_iff.1 h
  cases h2
  exact digW_le h1
end Go.Proofs.YtfklgaeejmeipaaGreatDoor
