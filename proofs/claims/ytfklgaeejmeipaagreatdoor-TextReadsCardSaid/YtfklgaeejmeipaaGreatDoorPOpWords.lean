/- Operations as words: what is written is parsed as the operation, what is parsed has these words: plain. -/
import Derived.Test.YtfklgaeejmeipaaGreatDoorPOpPlain
import Derived.Test.YtfklgaeejmeipaaGreatDoorPNum
set_option linter.all false
set_option linter.unusedVariables false
set_option linter.unusedSimpArgs false
set_option linter.unnecessarySimpa false
/- Operations as words: what is written is parsed as the operation, what is parsed has these words: plain. -/
namespace Go.Proofs.YtfklgaeejmeipaaGreatDoor
open Go.RowKit

def wordsOf (x : OpD) : List (List UInt8) := Lib.decDigits x.O :: kName x.F :: ((if hasK x.F then [Lib.decDigits x.K] else []) ++ ((if hasA x.F then [Lib.decDigits x.A] else []) ++ (if hasB x.F then [Lib.decDigits x.B] else [])))
def OpD.words (x : OpD) : List (List UInt8) := if x.may then wordsOf x else []
/-- The last of the first k operations with that name; 0: none. -/
def lastF (w : List UInt8) : Nat → Nat
  | 0 => 0
  | k + 1 => if 0 < k ∧ kName k = w then k else lastF w k
/-- A number out of the next word, if it is needed. -/
def wordN (need : Bool) (m : Nat) : List (List UInt8) → Nat × List (List UInt8)
  | [] => (0, [])
  | s :: r => if need then (num16 s % m, r) else (0, s :: r)
def candOp (f : Nat) (o : List UInt8) (r : List (List UInt8)) : OpD :=
  ⟨f, num16 o % 256, (wordN (hasK f) 256 r).1, (wordN (hasA f) 65536 (wordN (hasK f) 256 r).2).1, (wordN (hasB f) 65536 (wordN (hasA f) 65536 (wordN (hasK f) 256 r).2).2).1⟩
/-- The operation that words are. -/
def parseOp : List (List UInt8) → OpD × Nat
  | o :: n :: r => if lastF n 12 = 0 then (.zero, 4) else if (candOp (lastF n 12) o r).words = o :: n :: r then (candOp (lastF n 12) o r, 0) else (.zero, 4)
  | _ => (.zero, 4)
theorem parseOp_cons (o n : List UInt8) (r : List (List UInt8)) : parseOp (o :: n :: r) = if lastF n 12 = 0 then (.zero, 4) else if (candOp (lastF n 12) o r).words = o :: n :: r then (candOp (lastF n 12) o r, 0) else (.zero, 4) := rfl
theorem lastF_le (w : List UInt8) : ∀ k, lastF w k ≤ k - 1
  | 0 => Nat.le_refl _
  | k + 1 => by
    have := lastF_le w k
    rw [lastF]
    split <;> omega
theorem lastF_is (w : List UInt8) : ∀ k, lastF w k = 0 ∨ kName (lastF w k) = w
  | 0 => .inl rfl
  | k + 1 => by
    rw [lastF]
    split
    · rename_i h; exact .inr h.2
    · exact lastF_is w k
theorem lastF_name (f : Nat) (h1 : 1 ≤ f) (h2 : f ≤ 11) : lastF (kName f) 12 = f := by
  rcases (show f = 1 ∨ f = 2 ∨ f = 3 ∨ f = 4 ∨ f = 5 ∨ f = 6 ∨ f = 7 ∨ f = 8 ∨ f = 9 ∨ f = 10 ∨ f = 11 by omega) with rfl | rfl | rfl | rfl | rfl | rfl | rfl | rfl | rfl | rfl | rfl <;> decide
theorem wordN_yes (need : Bool) (m v : Nat) (r : List (List UInt8)) (hv : v < m) (hm : m ≤ 65536) (hz : need = false → v = 0) : wordN need m ((if need then [Lib.decDigits v] else []) ++ r) = (v, r) := by
  cases need with
  | false =>
    rw [hz rfl]
    cases r <;> simp [wordN]
  | true =>
    simp only [if_true, List.cons_append, List.nil_append, wordN]
    rw [num16_dec v (by omega), Nat.mod_eq_of_lt hv]
theorem candOp_words (x : OpD) (ok : x.Ok) (hm : x.may = true) : candOp x.F (Lib.decDigits x.O) ((if hasK x.F then [Lib.decDigits x.K] else []) ++ ((if hasA x.F then [Lib.decDigits x.A] else []) ++ (if hasB x.F then [Lib.decDigits x.B] else []))) = x := by
  obtain ⟨h1, h2, h3, h4, h5, h6, h7⟩ := may_facts hm
  have e1 := wordN_yes (hasK x.F) 256 x.K ((if hasA x.F then [Lib.decDigits x.A] else []) ++ (if hasB x.F then [Lib.decDigits x.B] else [])) ok.K (by omega) h5
  have e2 := wordN_yes (hasA x.F) 65536 x.A (if hasB x.F then [Lib.decDigits x.B] else []) ok.A (by omega) h6
  have e3 := wordN_yes (hasB x.F) 65536 x.B [] ok.B (by omega) h7
  rw [List.append_nil] at e3
  unfold candOp
  rw [e1]
  simp only
  rw [e2]
  simp only
  rw [e3]
  simp only
  rw [num16_dec x.O (by omega), Nat.mod_eq_of_lt ok.O]
/-- An operation's words are parsed as the operation. -/
theorem parseOp_words (x : OpD) (ok : x.Ok) (hm : x.may = true) : parseOp (wordsOf x) = (x, 0) := by
  obtain ⟨h1, h2, h3, h4, h5, h6, h7⟩ := may_facts hm
  unfold wordsOf
  rw [parseOp_cons, lastF_name x.F h1 h2, if_neg (by omega), candOp_words x ok hm, if_pos]
  unfold OpD.words
  rw [if_pos hm]
  rfl
/-- What is parsed has these words. -/
theorem parseOp_back {l : List (List UInt8)} {x : OpD} (h : parseOp l = (x, 0)) : x.may = true ∧ wordsOf x = l ∧ 2 ≤ l.length := by
  unfold parseOp at h
  split at h
  · split at h
    · cases h
    · split at h
      · rename_i h2
        cases h
        unfold OpD.words at h2
        split at h2
        · rename_i hm
          exact ⟨hm, h2, by simp⟩
        · cases h2
      · cases h
  · cases h
theorem parseOp_none {l : List (List UInt8)} {x : OpD} {e : Nat} (h : parseOp l = (x, e)) (he : e ≠ 0) : x = .zero ∧ e = 4 := by
  unfold parseOp at h
  split at h
  · split at h
    · cases h; exact ⟨rfl, rfl⟩
    · split at h
      · cases h; exact absurd rfl he
      · cases h; exact ⟨rfl, rfl⟩
  · cases h; exact ⟨rfl, rfl⟩
theorem wordN_lt (need : Bool) (m : Nat) (hm : 0 < m) (r : List (List UInt8)) : (wordN need m r).1 < m := by
  unfold wordN
  split
  · exact hm
  · split
    · exact Nat.mod_lt _ hm
    · exact hm
theorem candOp_ok (f : Nat) (o : List UInt8) (r : List (List UInt8)) (hf : f < 256) : (candOp f o r).Ok := ⟨hf, Nat.mod_lt _ (by omega), wordN_lt _ _ (by omega) _, wordN_lt _ _ (by omega) _, wordN_lt _ _ (by omega) _⟩
theorem parseOp_ok (l : List (List UInt8)) : (parseOp l).1.Ok := by
  unfold parseOp
  split
  · split
    · exact OpD.zero_ok
    · split
      · exact candOp_ok _ _ _ (by have := lastF_le ‹_› 12; omega)
      · exact OpD.zero_ok
  · exact OpD.zero_ok
/-- Words are an operation just if they are one's words. -/
theorem parseOp_iff (l : List (List UInt8)) (x : OpD) : parseOp l = (x, 0) ↔ x.Ok ∧ x.may = true ∧ wordsOf x = l := by
  constructor
  · intro h
    obtain ⟨h1, h2, _⟩ := parseOp_back h
    have := parseOp_ok l
    rw [h] at this
    exact ⟨this, h1, h2⟩
  · rintro ⟨ok, hm, rfl⟩
    exact parseOp_words x ok hm
end Go.Proofs.YtfklgaeejmeipaaGreatDoor

/- Operations as words, the document's way: the same: plain. -/
namespace Go.Proofs.YtfklgaeejmeipaaGreatDoor
open Go.RowKit

/-- A word's number; below 0: it is none. -/
def numI (s : List UInt8) : Int := match numW s with | some v => (v : Int) | none => -1
theorem numI_nonneg {s : List UInt8} (h : 0 ≤ numI s) : ∃ v : Nat, numI s = v ∧ v < 65536 ∧ s = Lib.decDigits v := by
  unfold numI at h ⊢
  split at h
  · rename_i v hv
    obtain ⟨h1, h2⟩ := numW_some.1 hv
    exact ⟨v, rfl, h1, h2⟩
  · omega
theorem numI_dec (v : Nat) (h : v < 65536) : numI (Lib.decDigits v) = v := by
  unfold numI
  rw [numW_some.2 ⟨h, rfl⟩]
theorem numI_lt (s : List UInt8) : -1 ≤ numI s ∧ numI s < 65536 := by
  unfold numI
  split
  · rename_i v hv
    have := (numW_some.1 hv).1
    omega
  · omega
def b2i (b : Bool) : Nat := if b then 1 else 0
/-- Is a number none, or too great where it stands? -/
def badN (k : Bool) (i : Nat) (n : Int) : Bool := decide (n < 0) || (decide (i = 0) && decide (7 < n)) || (decide (i = 1) && (k && decide (7 < n)))
def anyBad (k : Bool) (ns : List Int) : Bool := (List.range ns.length).any fun i => badN k i (ns.getD i 0)
/-- The operation of an F and these numbers. -/
def refOp (f : Nat) (k a b : Bool) (ns : List Int) : OpD :=
  ⟨f, (ns.getD 0 0).toNat, if k then (ns.getD 1 0).toNat else 0, if a then (ns.getD (1 + b2i k) 0).toNat else 0, if b then (ns.getD (1 + b2i k + b2i a) 0).toNat else 0⟩
theorem anyBad_false {k : Bool} {ns : List Int} (h : anyBad k ns = false) (i : Nat) (hi : i < ns.length) : 0 ≤ ns.getD i 0 ∧ (i = 0 → ns.getD i 0 ≤ 7) ∧ (i = 1 → k = true → ns.getD i 0 ≤ 7) := by
  unfold anyBad at h
  have := List.any_eq_false.1 h i (List.mem_range.2 hi)
  unfold badN at this
  simp only [Bool.or_eq_true, Bool.and_eq_true, decide_eq_true_eq, not_or, not_and, Int.not_lt] at this
  obtain ⟨⟨h1, h2⟩, h3⟩ := this
  exact ⟨h1, h2, h3⟩
theorem parts3 {α : Type} (k a b : Bool) (r : List α) (h : r.length = b2i k + b2i a + b2i b) (d : α) : ∃ s1 s2 s3, r = (if k then [s1] else []) ++ ((if a then [s2] else []) ++ (if b then [s3] else [])) := by
  cases k <;> cases a <;> cases b <;> simp only [b2i] at h
  · exact ⟨d, d, d, by simpa using List.eq_nil_of_length_eq_zero h⟩
  · match r, h with
    | [s], _ => exact ⟨d, d, s, rfl⟩
  · match r, h with
    | [s], _ => exact ⟨d, s, d, rfl⟩
  · match r, h with
    | [s, t], _ => exact ⟨d, s, t, rfl⟩
  · match r, h with
    | [s], _ => exact ⟨s, d, d, rfl⟩
  · match r, h with
    | [s, t], _ => exact ⟨s, d, t, rfl⟩
  · match r, h with
    | [s, t], _ => exact ⟨s, t, d, rfl⟩
  · match r, h with
    | [s, t, u], _ => exact ⟨s, t, u, rfl⟩
theorem kName_inj {f g : Nat} (h1 : 1 ≤ f) (h2 : f ≤ 11) (h3 : 1 ≤ g) (h4 : g ≤ 11) (h : kName f = kName g) : f = g := by
  have := lastF_name f h1 h2
  rw [h, lastF_name g h3 h4] at this
  exact this.symm
theorem parse_ref (f : Nat) (h1 : 1 ≤ f) (h2 : f ≤ 11) (o : List UInt8) (r : List (List UInt8)) :
    parseOp (o :: kName f :: r) = if ((o :: r).map numI).length = 1 + b2i (hasK f) + b2i (hasA f) + b2i (hasB f) ∧ anyBad (hasK f) ((o :: r).map numI) = false then (refOp f (hasK f) (hasA f) (hasB f) ((o :: r).map numI), 0) else (.zero, 4) := by
  split
  · rename_i h
    obtain ⟨hl, hb⟩ := h
    have hmay : ∀ (x : OpD), x.F = f → x.O < 8 → x.K < 8 → (hasK f = false → x.K = 0) → (hasA f = false → x.A = 0) → (hasB f = false → x.B = 0) → x.may = true := by
      intro x hF hO hK e1 e2 e3
      unfold OpD.may mayB
      rw [hF]
      simp only [Bool.and_eq_true, decide_eq_true_eq, Bool.or_eq_true, beq_iff_eq]
      refine ⟨⟨⟨⟨⟨⟨by omega, by omega⟩, by omega⟩, by omega⟩, ?_⟩, ?_⟩, ?_⟩
      · cases h : hasK f
        · right; have := e1 h; omega
        · exact .inl rfl
      · cases h : hasA f
        · right; have := e2 h; omega
        · exact .inl rfl
      · cases h : hasB f
        · right; have := e3 h; omega
        · exact .inl rfl
    refine (parseOp_iff _ _).2 ?_
    have hlen : r.length = b2i (hasK f) + b2i (hasA f) + b2i (hasB f) := by simp at hl; omega
    obtain ⟨s1, s2, s3, rfl⟩ := parts3 (hasK f) (hasA f) (hasB f) r hlen []
    have g := fun i hi => anyBad_false hb i hi
    have g0 := g 0 (by simp)
    simp only [List.map_cons, List.getD_cons_zero] at g0
    obtain ⟨v0, e0, l0, rfl⟩ := numI_nonneg g0.1
    have l0' : v0 < 8 := by have := g0.2.1 trivial; omega
    have e0' := numI_dec v0 l0
    cases hk : hasK f <;> cases ha : hasA f <;> cases hbb : hasB f <;> simp only [hk, ha, hbb] at g hmay hlen ⊢
    all_goals simp only [if_true, if_false, Bool.false_eq_true, List.nil_append, List.cons_append, List.map_cons, List.map_nil, List.length_cons, List.length_nil] at g ⊢
    · refine ⟨⟨by show f < 256; omega, by simp [refOp, e0']; omega, by simp [refOp], by simp [refOp], by simp [refOp]⟩, hmay _ rfl (by simp [refOp, e0']; omega) (by simp [refOp]) (fun _ => rfl) (fun _ => rfl) (fun _ => rfl), ?_⟩
      simp [wordsOf, refOp, hk, ha, hbb, e0']
    · have g1 := g 1 (by simp)
      simp only [List.getD_cons_succ, List.getD_cons_zero] at g1
      obtain ⟨v1, e1, l1, rfl⟩ := numI_nonneg g1.1
      have e1' := numI_dec v1 l1
      refine ⟨⟨by show f < 256; omega, by simp [refOp, e0']; omega, by simp [refOp], by simp [refOp], by simp [refOp, b2i, e1']; omega⟩, hmay _ rfl (by simp [refOp, e0']; omega) (by simp [refOp]) (fun _ => rfl) (fun _ => rfl) (fun h => by cases h), ?_⟩
      simp [wordsOf, refOp, hk, ha, hbb, e0', e1', b2i]
    · have g1 := g 1 (by simp)
      simp only [List.getD_cons_succ, List.getD_cons_zero] at g1
      obtain ⟨v1, e1, l1, rfl⟩ := numI_nonneg g1.1
      have e1' := numI_dec v1 l1
      refine ⟨⟨by show f < 256; omega, by simp [refOp, e0']; omega, by simp [refOp], by simp [refOp, b2i, e1']; omega, by simp [refOp]⟩, hmay _ rfl (by simp [refOp, e0']; omega) (by simp [refOp]) (fun _ => rfl) (fun h => by cases h) (fun _ => rfl), ?_⟩
      simp [wordsOf, refOp, hk, ha, hbb, e0', e1', b2i]
    · have g1 := g 1 (by simp)
      have g2 := g 2 (by simp)
      simp only [List.getD_cons_succ, List.getD_cons_zero] at g1 g2
      obtain ⟨v1, e1, l1, rfl⟩ := numI_nonneg g1.1
      obtain ⟨v2, e2, l2, rfl⟩ := numI_nonneg g2.1
      have e1' := numI_dec v1 l1
      have e2' := numI_dec v2 l2
      refine ⟨⟨by show f < 256; omega, by simp [refOp, e0']; omega, by simp [refOp], by simp [refOp, b2i, e1']; omega, by simp [refOp, b2i, e2']; omega⟩, hmay _ rfl (by simp [refOp, e0']; omega) (by simp [refOp]) (fun _ => rfl) (fun h => by cases h) (fun h => by cases h), ?_⟩
      simp [wordsOf, refOp, hk, ha, hbb, e0', e1', e2', b2i]
    all_goals
      have g1 := g 1 (by simp)
      simp only [List.getD_cons_succ, List.getD_cons_zero] at g1
      obtain ⟨v1, e1, l1, rfl⟩ := numI_nonneg g1.1
      have e1' := numI_dec v1 l1
      have l1' : v1 < 8 := by have := g1.2.2 trivial trivial; omega
    · refine ⟨⟨by show f < 256; omega, by simp [refOp, e0']; omega, by simp [refOp, e1']; omega, by simp [refOp], by simp [refOp]⟩, hmay _ rfl (by simp [refOp, e0']; omega) (by simp [refOp, e1']; omega) (fun h => by cases h) (fun _ => rfl) (fun _ => rfl), ?_⟩
      simp [wordsOf, refOp, hk, ha, hbb, e0', e1', b2i]
    · have g2 := g 2 (by simp)
      simp only [List.getD_cons_succ, List.getD_cons_zero] at g2
      obtain ⟨v2, e2, l2, rfl⟩ := numI_nonneg g2.1
      have e2' := numI_dec v2 l2
      refine ⟨⟨by show f < 256; omega, by simp [refOp, e0']; omega, by simp [refOp, e1']; omega, by simp [refOp], by simp [refOp, b2i, e2']; omega⟩, hmay _ rfl (by simp [refOp, e0']; omega) (by simp [refOp, e1']; omega) (fun h => by cases h) (fun _ => rfl) (fun h => by cases h), ?_⟩
      simp [wordsOf, refOp, hk, ha, hbb, e0', e1', e2', b2i]
    · have g2 := g 2 (by simp)
      simp only [List.getD_cons_succ, List.getD_cons_zero] at g2
      obtain ⟨v2, e2, l2, rfl⟩ := numI_nonneg g2.1
      have e2' := numI_dec v2 l2
      refine ⟨⟨by show f < 256; omega, by simp [refOp, e0']; omega, by simp [refOp, e1']; omega, by simp [refOp, b2i, e2']; omega, by simp [refOp]⟩, hmay _ rfl (by simp [refOp, e0']; omega) (by simp [refOp, e1']; omega) (fun h => by cases h) (fun h => by cases h) (fun _ => rfl), ?_⟩
      simp [wordsOf, refOp, hk, ha, hbb, e0', e1', e2', b2i]
    · have g2 := g 2 (by simp)
      have g3 := g 3 (by simp)
      simp only [List.getD_cons_succ, List.getD_cons_zero] at g2 g3
      obtain ⟨v2, e2, l2, rfl⟩ := numI_nonneg g2.1
      obtain ⟨v3, e3, l3, rfl⟩ := numI_nonneg g3.1
      have e2' := numI_dec v2 l2
      have e3' := numI_dec v3 l3
      refine ⟨⟨by show f < 256; omega, by simp [refOp, e0']; omega, by simp [refOp, e1']; omega, by simp [refOp, b2i, e2']; omega, by simp [refOp, b2i, e3']; omega⟩, hmay _ rfl (by simp [refOp, e0']; omega) (by simp [refOp, e1']; omega) (fun h => by cases h) (fun h => by cases h) (fun h => by cases h), ?_⟩
      simp [wordsOf, refOp, hk, ha, hbb, e0', e1', e2', e3', b2i]
  · rename_i h
    have hn : parseOp (o :: kName f :: r) = ((parseOp (o :: kName f :: r)).1, (parseOp (o :: kName f :: r)).2) := rfl
    by_cases he : (parseOp (o :: kName f :: r)).2 = 0
    · exfalso
      apply h
      have h3 : parseOp (o :: kName f :: r) = ((parseOp (o :: kName f :: r)).1, 0) := by rw [← he]
      generalize (parseOp (o :: kName f :: r)).1 = x at h3
      obtain ⟨ok, hm, hw⟩ := (parseOp_iff _ _).1 h3
      obtain ⟨f1, f2, f3, f4, f5, f6, f7⟩ := may_facts hm
      unfold wordsOf at hw
      simp only [List.cons.injEq] at hw
      obtain ⟨ho, hnm, hr⟩ := hw
      have hF : x.F = f := kName_inj f1 f2 h1 h2 hnm
      rw [hF] at hr f5 f6 f7
      subst ho
      rw [← hr]
      have eO := numI_dec x.O (by omega)
      have eK := numI_dec x.K (by omega)
      have eA := numI_dec x.A ok.A
      have eB := numI_dec x.B ok.B
      cases hk : hasK f <;> cases ha : hasA f <;> cases hbb : hasB f <;> simp [b2i, anyBad, badN, eO, eK, eA, eB, List.range_succ] <;> omega
    · have := parseOp_none hn he
      rw [hn, this.1, this.2]
end Go.Proofs.YtfklgaeejmeipaaGreatDoor

/- umpireref04.Number: a word's number. No condition. -/
namespace Go.Proofs.YtfklgaeejmeipaaGreatDoor
open Go.RowKit

theorem numI_no {s : List UInt8} (h : s = [] ∨ 5 < s.length ∨ (s.head? = some 48 ∧ 1 < s.length)) : numI s = -1 := by unfold numI numW; rw [if_pos h]
theorem numI_bad {s : List UInt8} (h : s.all isDig = false) : numI s = -1 := by
  unfold numI numW
  split
  · rename_i v hv
    split at hv
    · cases hv
    · rw [h] at hv; cases hv
  · rfl
theorem numI_big {s : List UInt8} (h : 65535 < digVal 0 s) : numI s = -1 := by
  unfold numI numW
  split
  · rename_i v hv
    split at hv
    · cases hv
    · split at hv
      · first | cases hv | (rw [if_pos h] at hv; cases hv)
      · cases hv
  · rfl
theorem numI_is {s : List UInt8} (h0 : s ≠ []) (h1 : ¬ 5 < s.length) (h2 : ¬ (s.head? = some 48 ∧ 1 < s.length)) (h3 : s.all isDig = true) (h4 : ¬ 65535 < digVal 0 s) : numI s = digVal 0 s := by
  unfold numI numW
  rw [if_neg (by rintro (h | h | h); exact h0 h; exact h1 h; exact h2 h), if_pos h3, if_neg h4]
theorem digVal_take (s : List UInt8) (k : Nat) (h : k < s.length) : digVal 0 (s.take (k + 1)) = 10 * digVal 0 (s.take k) + (s[k].toNat - 48) := by
  rw [List.take_succ_eq_append_getElem h, digVal_snoc]
theorem digVal_lt (l : List UInt8) (h : l.all isDig = true) : digVal 0 l < 10 ^ l.length := by
  induction hn : l.length generalizing l with
  | zero => rw [List.eq_nil_of_length_eq_zero hn]; decide
  | succ n ih =>
    have hne : l ≠ [] := fun e => by rw [e] at hn; simp at hn
    have hc := (List.dropLast_concat_getLast hne).symm
    generalize l.getLast hne = c at hc
    generalize l.dropLast = p at hc
    subst hc
    rw [List.all_append, Bool.and_eq_true] at h
    have hcd : 48 ≤ c.toNat ∧ c.toNat ≤ 57 := by have := h.2; simpa [isDig] using this
    have := ih p h.1 (by simpa using hn)
    rw [digVal_snoc, Nat.pow_succ]
    omega
theorem all_take_next {s : List UInt8} {k : Nat} (h : (s.take k).all isDig = true) (hk : k < s.length) (hd : isDig s[k] = true) : (s.take (k + 1)).all isDig = true := by
  rw [List.take_succ_eq_append_getElem hk, List.all_append, h]
  simp [hd]
theorem all_not {s : List UInt8} {k : Nat} (hk : k < s.length) (hd : isDig s[k] = false) : s.all isDig = false := by
  rw [List.all_eq_false]
  exact ⟨s[k], List.getElem_mem hk, by rw [hd]; simp⟩
set_option maxRecDepth 100000 in
theorem Number4_c (s : List UInt8) (w : World) :
    Calls Tryz.prog 83 #[.string ⟨s.toArray⟩] w fun e w' => e = .returned (.int .i64 (numI s)) ∧ Fr w w' := by
  have hsz := size_mk s
  cases s with
  | nil =>
    rw [numI_no (.inl rfl)]
    go_enter Tryz.func83, Tryz.ntmps83
    go_wp2
    go_ret
    exact ⟨rfl, Fr.refl _⟩
  | cons c r =>
    have hg0 : ∀ hh, ((⟨(c :: r).toArray⟩ : ByteArray)[0]'hh) = c := fun _ => rfl
    by_cases h5 : 5 < (c :: r).length
    · rw [numI_no (.inr (.inl h5))]
      have h5i : (5 : Int) < (c :: r).length := by omega
      simp only [List.length_cons] at h5i hsz
      go_enter Tryz.func83, Tryz.ntmps83
      go_wp2
      go_ret
      exact ⟨rfl, Fr.refl _⟩
    · have h5i : ¬ (5 : Int) < r.length + 1 := by simp at h5; omega
      have h1i : ¬ (r.length : Int) + 1 < 1 := by omega
      by_cases hz : (c :: r).head? = some 48 ∧ 1 < (c :: r).length
      · rw [numI_no (.inr (.inr hz))]
        have hc : c = 48 := by simpa using hz.1
        have hr : (1 : Int) < (r.length : Int) + 1 := by have := hz.2; simp at this; omega
        subst hc
        clear hz h5
        go_enter Tryz.func83, Tryz.ntmps83
        go_wp2
        go_ret
        exact ⟨rfl, Fr.refl _⟩
      · have HN := Lib.hid (fun h3 h4 => numI_is (s := c :: r) (by simp) h5 hz h3 h4)
        have HB := Lib.hid (fun h3 => numI_bad (s := c :: r) h3)
        have HG := Lib.hid (fun h3 => numI_big (s := c :: r) h3)
        have hcases : ((c.toNat : Int) == 48) = true ∧ ¬ (1 : Int) < (r.length : Int) + 1 ∨ ((c.toNat : Int) == 48) = false := by
          by_cases h48 : c.toNat = 48
          · left
            refine ⟨by simp [h48], fun h => hz ⟨?_, by simp; omega⟩⟩
            have : c = 48 := by apply UInt8.toNat_inj.1; simpa using h48
            simp [this]
          · right; simp; omega
        have hS : ∃ s, s = c :: r := ⟨_, rfl⟩
        obtain ⟨s, hS⟩ := hS
        have hln : s.length = r.length + 1 := by rw [hS]; simp
        rw [← hS] at HN HB HG hg0 hsz ⊢
        have hln5 : s.length ≤ 5 := by simp at h5; omega
        have hlni : (r.length : Int) + 1 = s.length := by omega
        rw [hlni] at hcases h5i h1i
        clear hS hz h5 hln hlni
        go_enter Tryz.func83, Tryz.ntmps83
        rcases hcases with ⟨hc1, hc2⟩ | hc1
        all_goals
          go_wp2
          go_loop [3, 4] (fun n i => ∃ k : Nat, k ≤ s.length ∧ i = .int .i64 k ∧ n = .int .i64 (digVal 0 (s.take k)) ∧ (s.take k).all isDig = true) (fun _ i => s.length - (intOf i).toNat)
          case atStart => exact ⟨0, Nat.zero_le _, rfl, rfl, rfl⟩
          case round =>
            obtain ⟨k, hk, rfl, rfl, htk⟩ := hrel
            have hv := digVal_lt _ htk
            have hv1 : digVal 0 (s.take k) < 100000 := Nat.lt_of_lt_of_le hv (Nat.le_trans (Nat.pow_le_pow_right (by omega) (show (s.take k).length ≤ 5 by simp; omega)) (by decide))
            clear hv
            by_cases hlt : k < s.length
            · obtain ⟨cc, hcc⟩ : ∃ cc, cc = s[k] := ⟨_, rfl⟩
              have hgk : ∀ hh, ((⟨s.toArray⟩ : ByteArray)[k]'hh) = cc := fun _ => hcc.symm
              have hb := cc.toNat_lt
              by_cases hd : isDig s[k] = true
              · have HT := Lib.hid (all_take_next htk hlt hd)
                have hv2 := digVal_take s k hlt
                rw [← hcc] at hv2 hd
                have HV := Lib.hid hv2
                have hd1 : 48 ≤ cc.toNat ∧ cc.toNat ≤ 57 := by simpa [isDig] using hd
                clear hv2 hcc
                obtain ⟨hd2, hd3⟩ := hd1
                have hd4 : ¬ (cc.toNat : Int) < 48 := by omega
                have hd5 : ¬ (57 : Int) < cc.toNat := by omega
                clear hd htk
                generalize digVal 0 (s.take k) = q at hv1 HV ⊢
                go_wp2
                go_round
                case rel => exact ⟨k + 1, by omega, by go_num, by rw [HV.out]; go_num, HT.out⟩
                case measure => simp [intOf]; omega
              · rw [Bool.not_eq_true] at hd
                have HA := Lib.hid (HB.out (all_not hlt hd))
                rw [← hcc] at hd
                clear hcc
                have hd1 : cc.toNat < 48 ∨ 57 < cc.toNat := by
                  simp [isDig] at hd
                  omega
                clear hd htk
                rcases hd1 with hd1 | hd1
                · have hd4 : (cc.toNat : Int) < 48 := by omega
                  go_wp2
                  go_ret
                  exact ⟨by rw [HA.out]; rfl, Fr.refl _⟩
                · have hd4 : ¬ (cc.toNat : Int) < 48 := by omega
                  have hd5 : (57 : Int) < cc.toNat := by omega
                  go_wp2
                  go_ret
                  exact ⟨by rw [HA.out]; rfl, Fr.refl _⟩
            · rw [List.take_of_length_le (by omega)] at htk hv1 ⊢
              by_cases hbig : 65535 < digVal 0 s
              · have HA := Lib.hid (HG.out hbig)
                have hbi : (65535 : Int) < digVal 0 s := by omega
                clear htk hbig
                generalize digVal 0 s = q at hv1 hbi ⊢
                go_wp2
                go_ret
                exact ⟨by rw [HA.out]; rfl, Fr.refl _⟩
              · have HA := Lib.hid (HN.out htk hbig)
                have hbi : ¬ (65535 : Int) < digVal 0 s := by omega
                clear htk hbig HN HG
                generalize digVal 0 s = q at hv1 hbi HA ⊢
                go_wp2
                go_ret
                exact ⟨by rw [HA.out]; rfl, Fr.refl _⟩
end Go.Proofs.YtfklgaeejmeipaaGreatDoor
