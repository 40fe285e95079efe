/- A line's words are few and short: plain. Of events that may be. -/
import Derived.Test.YtfklgaeejmeipaaGreatDoorPTxtP
import Derived.Test.YtfklgaeejmeipaaGreatDoorPEvCheck
import Derived.Lib.AtoiTie
set_option linter.all false
set_option linter.unusedVariables false
set_option linter.unusedSimpArgs false
set_option linter.unnecessarySimpa false
/- A line's words are few and short: plain. Of events that may be. -/
namespace Go.Proofs.YtfklgaeejmeipaaGreatDoor
open Go.RowKit

theorem kindW_len (k : Nat) : (kindW k).length ≤ 6 := by unfold kindW; repeat (first | (split) | decide)
theorem modelW_len (k : Nat) : (modelW k).length ≤ 8 := by unfold modelW; repeat (first | (split) | decide)
theorem kName_len (k : Int) : (kName k).length ≤ 7 := by unfold kName; repeat (first | (split) | decide)
theorem resWord_len (k : Nat) : (resWord k).length ≤ 5 := by unfold resWord; repeat (first | (split) | decide)
theorem dd_len7 {n : Nat} (h : n ≤ 1048576) : (Lib.decDigits n).length ≤ 7 := by
  by_cases h1 : n < 10
  · have := decDigits_len5 (v := n) (by omega); omega
  · rw [decDigits_ten h1, List.length_append, List.length_singleton]
    by_cases h2 : n / 10 < 10
    · have := decDigits_len5 (v := n / 10) (by omega); omega
    · rw [decDigits_ten h2, List.length_append, List.length_singleton]
      have := decDigits_len5 (v := n / 10 / 10) (by omega); omega
theorem listWord_len {l : List Nat} (h : l.length ≤ 60) (hb : ∀ n ∈ l, n < 65536) : (listWord l).length ≤ 360 := by
  unfold listWord
  split
  · simp
  · have := join_le 44 (l.map Lib.decDigits) 5 (fun x hx => by obtain ⟨n, hn1, rfl⟩ := List.mem_map.1 hx; exact decDigits_len5 (hb n hn1))
    rw [List.length_map] at this
    omega
theorem flagW_le (b : Bool) (w : W8) : (flagW b w).length ≤ 1 := by unfold flagW; split <;> simp
theorem flagW_mem {b : Bool} {w v : W8} (h : v ∈ flagW b w) : v = w := by unfold flagW at h; split at h <;> simp at h; exact h
theorem cfgMay_facts {c : Cfg} (h : cfgMay c = true) : c.model ≤ 4 ∧ 1 ≤ c.opens ∧ c.opens ≤ 32 ∧ 1 ≤ c.states ∧ c.states ≤ 4096 ∧ 1 ≤ c.steps ∧ c.steps ≤ 1048576 := by
  unfold cfgMay at h
  simp only [Bool.and_eq_true, decide_eq_true_eq] at h
  omega
theorem cfgWords_short {c : Cfg} (h : cfgMay c = true) : (cfgWords c).length ≤ 7 ∧ ∀ w ∈ cfgWords c, w.length ≤ 400 := by
  obtain ⟨h1, h2, h3, h4, h5, h6, h7⟩ := cfgMay_facts h
  have a := flagW_le c.part partitionW
  have b := flagW_le c.cut cutW
  have d := flagW_le c.memo memoW
  refine ⟨by unfold cfgWords; simp only [List.length_append, List.length_cons, List.length_nil]; omega, fun w hw => ?_⟩
  unfold cfgWords at hw
  simp only [List.mem_append, List.mem_cons, List.not_mem_nil, or_false] at hw
  rcases hw with (((rfl | rfl | rfl | rfl) | hw) | hw) | hw
  · have := modelW_len c.model; omega
  · have := dd_len7 (n := c.opens.toNat) (by omega); omega
  · have := dd_len7 (n := c.states.toNat) (by omega); omega
  · have := dd_len7 (n := c.steps.toNat) (by omega); omega
  · rw [flagW_mem hw]; decide
  · rw [flagW_mem hw]; decide
  · rw [flagW_mem hw]; decide
theorem wordsOf_short {x : OpD} (ok : x.Ok) : (wordsOf x).length ≤ 5 ∧ ∀ w ∈ wordsOf x, w.length ≤ 400 := by
  have hO := decDigits_len5 (v := x.O) (by have := ok.O; omega)
  have hK := decDigits_len5 (v := x.K) (by have := ok.K; omega)
  have hA := decDigits_len5 (v := x.A) ok.A
  have hB := decDigits_len5 (v := x.B) ok.B
  have hN := kName_len x.F
  have e : ∀ (b : Bool) (w v : W8), v ∈ (if b then [w] else []) → v = w := fun b w v h => by cases b <;> simp at h; exact h
  have e2 : ∀ (b : Bool) (w : W8), (if b then [w] else []).length ≤ 1 := fun b w => by cases b <;> simp
  unfold wordsOf
  refine ⟨?_, fun w hw => ?_⟩
  · have q1 := e2 (hasK x.F) (Lib.decDigits x.K)
    have q2 := e2 (hasA x.F) (Lib.decDigits x.A)
    have q3 := e2 (hasB x.F) (Lib.decDigits x.B)
    simp only [List.length_append, List.length_cons]
    omega
  · simp only [List.mem_append, List.mem_cons] at hw
    rcases hw with rfl | rfl | hw | hw | hw
    · omega
    · omega
    · rw [e _ _ _ hw]; omega
    · rw [e _ _ _ hw]; omega
    · rw [e _ _ _ hw]; omega
theorem micsWords_len' : ∀ l : List Mic, (micsWords l).length ≤ 3 * l.length
  | [] => by simp [micsWords]
  | m :: l => by
    have := micsWords_len' l
    unfold micsWords at *
    rw [List.flatMap_cons, List.length_append, List.length_cons]
    have h2 : (micWords m).length ≤ 3 := by unfold micWords; split <;> simp
    omega
theorem tailW_short {x : Ev} (ok : x.Ok) (hm : x.kindMay = true) : x.tailW.length ≤ 24 ∧ ∀ w ∈ x.tailW, w.length ≤ 400 := by
  unfold Ev.kindMay at hm
  unfold Ev.tailW
  by_cases h2 : x.kind = 2
  · rw [if_pos h2]
    have := wordsOf_short (x := x.op) ⟨ok.F, ok.O, ok.K, ok.A, ok.B⟩
    exact ⟨by omega, this.2⟩
  · rw [if_neg h2]
    by_cases h3 : x.kind = 3
    · rw [if_pos h3]
      refine ⟨by simp, fun w hw => ?_⟩
      rw [List.mem_singleton] at hw
      subst hw
      have h1 := resWord_len x.rk
      have h2 := decDigits_len5 ok.rv
      unfold resText
      split <;> simp <;> omega
    · rw [if_neg h3]
      by_cases h5 : x.kind = 5
      · rw [if_pos h5]
        rw [if_neg (by omega), if_neg h2, if_neg h3, if_pos h5] at hm
        unfold txnMay at hm
        simp only [Bool.and_eq_true, decide_eq_true_eq] at hm
        have hl := micsWords_len' x.txn
        refine ⟨by omega, fun w hw => ?_⟩
        unfold micsWords at hw
        obtain ⟨m, hm1, hw⟩ := List.mem_flatMap.1 hw
        have hmm := ok.txn m hm1
        have q1 := decDigits_len5 (v := m.key) (by omega)
        have q2 := decDigits_len5 (v := m.v) (by omega)
        unfold micWords at hw
        split at hw
        · simp only [List.mem_cons, List.not_mem_nil, or_false] at hw
          rcases hw with rfl | rfl
          · decide
          · omega
        · simp only [List.mem_cons, List.not_mem_nil, or_false] at hw
          rcases hw with rfl | rfl | rfl
          · decide
          · omega
          · omega
      · rw [if_neg h5]
        by_cases h6 : x.kind = 6
        · rw [if_pos h6]
          rw [if_neg (by omega), if_neg h2, if_neg h3, if_neg h5, if_pos h6] at hm
          unfold readsMay at hm
          simp only [Bool.and_eq_true, decide_eq_true_eq, Bool.not_eq_true'] at hm
          refine ⟨by rw [List.length_map]; omega, fun w hw => ?_⟩
          obtain ⟨l, hl, rfl⟩ := List.mem_map.1 hw
          have hq := List.any_eq_false.1 hm.2 l hl
          unfold listBad at hq
          simp only [decide_eq_true_eq] at hq
          have := listWord_len (l := l) (by omega) (ok.reads l hl)
          omega
        · rw [if_neg h6]
          exact ⟨by simp, fun w hw => by cases hw⟩
theorem may_kind {x : Ev} (h : x.may = true) : x.kindMay = true ∧ x.client < 16 ∧ x = x.needed := by
  unfold Ev.may at h
  simp only [Bool.and_eq_true, decide_eq_true_eq] at h
  exact ⟨h.1.1, h.1.2, h.2⟩
theorem wordsT_short {x : Ev} (ok : x.Ok) (hm : x.may = true) : x.words.length ≤ 30 ∧ ∀ w ∈ x.words, w.length ≤ 400 := by
  obtain ⟨h1, h2, _⟩ := may_kind hm
  unfold Ev.words
  have hk := kindW_len x.kind
  by_cases hc : x.kind = 1
  · rw [if_pos hc]
    have : cfgMay x.cfg = true := by unfold Ev.kindMay at h1; rwa [if_pos hc] at h1
    obtain ⟨a, b⟩ := cfgWords_short this
    refine ⟨by rw [List.length_cons]; omega, fun w hw => ?_⟩
    rcases List.mem_cons.1 hw with rfl | hw
    · omega
    · exact b w hw
  · rw [if_neg hc]
    obtain ⟨a, b⟩ := tailW_short ok h1
    have q1 := decDigits_len5 (v := x.client) (by omega)
    have q2 := decDigits_len5 ok.id
    refine ⟨by simp only [List.length_cons]; omega, fun w hw => ?_⟩
    rcases List.mem_cons.1 hw with rfl | hw
    · omega
    · rcases List.mem_cons.1 hw with rfl | hw
      · omega
      · rcases List.mem_cons.1 hw with rfl | hw
        · omega
        · exact b w hw
theorem line_short {x : Ev} (ok : x.Ok) (hm : x.may = true) : x.line.length ≤ 12030 := by
  obtain ⟨a, b⟩ := wordsT_short ok hm
  have := join_le 32 x.words 400 b
  unfold Ev.line
  have h2 : x.words.length * 401 ≤ 30 * 401 := Nat.mul_le_mul_right _ a
  omega
end Go.Proofs.YtfklgaeejmeipaaGreatDoor

/- What a number's numeral is read as: plain. No condition beyond what each says. -/
namespace Go.Proofs.YtfklgaeejmeipaaGreatDoor
open Go.RowKit

theorem decFrom_cons (acc : Nat) (c : UInt8) (r : List UInt8) (hc : 48 ≤ c.toNat ∧ c.toNat ≤ 57) : Lib.decFrom acc (c :: r) = Lib.decFrom (acc * 10 + (c.toNat - 48)) r := by
  rw [Lib.decFrom, Lib.digitVal, if_pos hc]
theorem decFrom_dig (l : List UInt8) : ∀ (acc : Nat), l.all isDig = true → Lib.decFrom acc l = some (digVal acc l) := by
  induction l with
  | nil => intro acc _; rfl
  | cons c r ih =>
    intro acc h
    rw [List.all_cons, Bool.and_eq_true] at h
    have hc := h.1
    unfold isDig at hc
    rw [Bool.and_eq_true, decide_eq_true_eq, decide_eq_true_eq] at hc
    rw [decFrom_cons acc c r hc, ih _ h.2, Nat.mul_comm acc 10]
    rfl
theorem decNat_dec (v : Nat) : Lib.decNat (Lib.decDigits v) = some v := by
  obtain ⟨h1, h2⟩ := decDigits_val v
  have hne := decDigits_ne v
  unfold Lib.decNat
  rw [if_neg (by simpa using hne), decFrom_dig _ _ h2, h1]
theorem atoi_dec {v : Nat} (h : v ≤ 1048576) : Lib.atoiAll (Lib.decDigits v) = .ok (v : Int) := by
  have hl := dd_len7 h
  have hd := (decDigits_val v).2
  have hs := Lib.signless_short (l := Lib.decDigits v) (by omega)
  rw [decNat_dec] at hs
  cases hD : Lib.decDigits v with
  | nil => exact absurd hD (decDigits_ne v)
  | cons c r =>
    rw [hD] at hd hs
    simp only [List.all_cons, Bool.and_eq_true] at hd
    have hc := hd.1
    unfold isDig at hc
    simp only [Bool.and_eq_true, decide_eq_true_eq] at hc
    rw [Lib.atoiAll_plain c r (by omega) (by omega), hs]
    rfl
theorem digW_dec {most : Int} {v : Nat} (h : v ≤ 1048576) (hm : (v : Int) ≤ most) : digW most (Lib.decDigits v) = some v := by
  unfold digW
  rw [atoi_dec h]
  simp only
  rw [if_neg (by omega)]
  simp
end Go.Proofs.YtfklgaeejmeipaaGreatDoor

/- A line's words are parsed as what they are of: plain. Of events that may be. -/
namespace Go.Proofs.YtfklgaeejmeipaaGreatDoor
open Go.RowKit

theorem modelOf_word {m : Nat} (h : m ≤ 4) : modelOf (modelW m) 5 = m + 1 := by
  rcases (show m = 0 ∨ m = 1 ∨ m = 2 ∨ m = 3 ∨ m = 4 by omega) with rfl | rfl | rfl | rfl | rfl <;> decide
theorem kindOfT_word {k : Nat} (h1 : 1 ≤ k) (h : k ≤ 7) : kindOfT (kindW k) 8 = k := by
  rcases (show k = 1 ∨ k = 2 ∨ k = 3 ∨ k = 4 ∨ k = 5 ∨ k = 6 ∨ k = 7 by omega) with rfl | rfl | rfl | rfl | rfl | rfl | rfl <;> decide
theorem numN_dec {most : Int} {v : Nat} (r : List W8) (h : v ≤ 1048576) (hm : (v : Int) ≤ most) : numN most (Lib.decDigits v :: r) = some (v, r) := by
  rw [numN_cons, digW_dec h hm]; rfl
theorem flags_back (a b c : Bool) : (isN partitionW (flagW a partitionW ++ (flagW b cutW ++ flagW c memoW))).1 = a ∧ (isN partitionW (flagW a partitionW ++ (flagW b cutW ++ flagW c memoW))).2 = flagW b cutW ++ flagW c memoW ∧ (isN cutW (flagW b cutW ++ flagW c memoW)).1 = b ∧ (isN cutW (flagW b cutW ++ flagW c memoW)).2 = flagW c memoW ∧ (isN memoW (flagW c memoW)).1 = c ∧ (isN memoW (flagW c memoW)).2 = [] := by
  cases a <;> cases b <;> cases c <;> decide
theorem cfg_back {c : Cfg} (h : cfgMay c = true) : cfgN (cfgWords c) = some (c, []) := by
  obtain ⟨h1, h2, h3, h4, h5, h6, h7⟩ := cfgMay_facts h
  obtain ⟨m, o, s, t, p, k, q⟩ := c
  simp only at h1 h2 h3 h4 h5 h6 h7
  obtain ⟨n1, rfl⟩ := Int.eq_ofNat_of_zero_le (show 0 ≤ o by omega)
  obtain ⟨n2, rfl⟩ := Int.eq_ofNat_of_zero_le (show 0 ≤ s by omega)
  obtain ⟨n3, rfl⟩ := Int.eq_ofNat_of_zero_le (show 0 ≤ t by omega)
  obtain ⟨f1, f2, f3, f4, f5, f6⟩ := flags_back p k q
  have e : cfgWords ⟨m, (n1 : Int), (n2 : Int), (n3 : Int), p, k, q⟩ = modelW m :: Lib.decDigits n1 :: Lib.decDigits n2 :: Lib.decDigits n3 :: (flagW p partitionW ++ (flagW k cutW ++ flagW q memoW)) := by
    unfold cfgWords
    simp
  rw [e, cfgN, modelOf_word h1, if_neg (by omega), numN_dec _ (by omega) (by omega)]
  simp only
  rw [numN_dec _ (by omega) (by omega)]
  simp only
  rw [numN_dec _ (by omega) (by omega)]
  simp only [f1, f2, f3, f4, f5, f6]
  rfl
theorem mics_back : ∀ {l : List Mic}, l.any micBad = false → (∀ m ∈ l, m.v < 65536) → micsN (micsWords l) = some l
  | [], _, _ => rfl
  | m :: l, h, hv => by
    rw [List.any_cons, Bool.or_eq_false_iff] at h
    have ih := mics_back h.2 fun y hy => hv y (by simp [hy])
    have hm := h.1
    have hv0 := hv m (by simp)
    unfold micBad at hm
    obtain ⟨rd, k, v⟩ := m
    simp only [Bool.or_eq_false_iff, decide_eq_false_iff_not] at hm hv0
    have e : micsWords (⟨rd, k, v⟩ :: l) = micWords ⟨rd, k, v⟩ ++ micsWords l := by unfold micsWords; rw [List.flatMap_cons]
    rw [e]
    cases rd with
    | true =>
      have hz : v = 0 := by have := hm.2; simpa using this
      subst hz
      show micsN (readW :: Lib.decDigits k :: micsWords l) = _
      rw [micsN_two, if_pos rfl, digW_dec (by omega) (by omega)]
      simp only
      rw [ih]; rfl
    | false =>
      show micsN (appendW :: Lib.decDigits k :: Lib.decDigits v :: micsWords l) = _
      rw [micsN_two, if_neg (by decide), if_pos rfl]
      simp only
      rw [digW_dec (by omega) (by omega), digW_dec (by omega) (by omega)]
      simp only
      rw [ih]; rfl
theorem dd_free {c : UInt8} (hc : isDig c = false) (v : Nat) : c ∉ Lib.decDigits v := fun h => by
  have := List.all_eq_true.1 (decDigits_val v).2 c h
  rw [hc] at this; cases this
theorem digs_back : ∀ {l : List Nat}, (∀ n ∈ l, n < 65536) → digsW 65535 (l.map Lib.decDigits) = some l
  | [], _ => rfl
  | n :: l, h => by
    have h0 := h n (by simp)
    have ih := digs_back (l := l) fun y hy => h y (by simp [hy])
    rw [List.map_cons, digsW, digW_dec (by omega) (by omega)]
    simp only
    rw [ih]; rfl
theorem minus_not {l : List Nat} (h : l ≠ []) : Lib.join (l.map Lib.decDigits) [44] ≠ [45] := by
  cases l with
  | nil => exact absurd rfl h
  | cons n l =>
    intro e
    cases hD : Lib.decDigits n with
    | nil => exact absurd hD (decDigits_ne n)
    | cons c r =>
      have hf : c ≠ 45 := fun hc => dd_free (c := 45) (by decide) n (by rw [hD, hc]; simp)
      rw [List.map_cons, hD] at e
      rw [join_is] at e
      cases l with
      | nil =>
        have e : c :: r = [45] := e
        exact hf (List.cons.inj e).1
      | cons m l =>
        rw [joinS_cons 44 _ (by simp)] at e
        exact hf (List.cons.inj e).1
theorem list_back {l : List Nat} (h : ∀ n ∈ l, n < 65536) : listN (listWord l) = some l := by
  unfold listN listWord
  by_cases h0 : l = []
  · subst h0; rfl
  · rw [if_neg h0, if_neg (minus_not h0), join_is, splitS_join (by simpa using h0) (fun w hw => by obtain ⟨n, _, rfl⟩ := List.mem_map.1 hw; exact dd_free (by decide) n), digs_back h]
theorem lists_back : ∀ {ls : List (List Nat)}, (∀ l ∈ ls, ∀ n ∈ l, n < 65536) → listsN (ls.map listWord) = some ls
  | [], _ => rfl
  | l :: ls, h => by
    rw [List.map_cons, listsN, list_back (h l (by simp))]
    simp only
    rw [lists_back (ls := ls) fun y hy => h y (by simp [hy])]; rfl
end Go.Proofs.YtfklgaeejmeipaaGreatDoor

/- A line parted at its blanks: plain. Of events that may be. -/
namespace Go.Proofs.YtfklgaeejmeipaaGreatDoor
open Go.RowKit

theorem kindW_free (k : Nat) : (32 : UInt8) ∉ kindW k := by unfold kindW; repeat (first | (split) | decide)
theorem modelW_free (k : Nat) : (32 : UInt8) ∉ modelW k := by unfold modelW; repeat (first | (split) | decide)
theorem kName_free (k : Int) : (32 : UInt8) ∉ kName k := by unfold kName; repeat (first | (split) | decide)
theorem d32 (v : Nat) : (32 : UInt8) ∉ Lib.decDigits v := dd_free (by decide) v
theorem cfg_free (c : Cfg) : ∀ w ∈ cfgWords c, (32 : UInt8) ∉ w := fun w hw => by
  unfold cfgWords at hw
  simp only [List.mem_append, List.mem_cons, List.not_mem_nil, or_false] at hw
  rcases hw with (((rfl | rfl | rfl | rfl) | hw) | hw) | hw
  · exact modelW_free _
  · exact d32 _
  · exact d32 _
  · exact d32 _
  · rw [flagW_mem hw]; decide
  · rw [flagW_mem hw]; decide
  · rw [flagW_mem hw]; decide
theorem op_free (x : OpD) : ∀ w ∈ wordsOf x, (32 : UInt8) ∉ w := fun w hw => by
  have e : ∀ (b : Bool) (w v : W8), v ∈ (if b then [w] else []) → v = w := fun b w v h => by cases b <;> simp at h; exact h
  unfold wordsOf at hw
  simp only [List.mem_append, List.mem_cons] at hw
  rcases hw with rfl | rfl | hw | hw | hw
  · exact d32 _
  · exact kName_free _
  · rw [e _ _ _ hw]; exact d32 _
  · rw [e _ _ _ hw]; exact d32 _
  · rw [e _ _ _ hw]; exact d32 _
theorem mics_free (l : List Mic) : ∀ w ∈ micsWords l, (32 : UInt8) ∉ w := fun w hw => by
  unfold micsWords at hw
  obtain ⟨m, _, hw⟩ := List.mem_flatMap.1 hw
  unfold micWords at hw
  split at hw <;> simp only [List.mem_cons, List.not_mem_nil, or_false] at hw
  · rcases hw with rfl | rfl
    · decide
    · exact d32 _
  · rcases hw with rfl | rfl | rfl
    · decide
    · exact d32 _
    · exact d32 _
theorem joinS_free {b c : UInt8} (hb : b ≠ c) : ∀ {ls : List W8}, (∀ w ∈ ls, b ∉ w) → b ∉ joinS c ls
  | [], _ => by simp [joinS]
  | w :: ls, h => by
    by_cases hl : ls = []
    · subst hl
      exact h w (by simp)
    · rw [joinS_cons c w hl]
      intro hm
      rcases List.mem_append.1 hm with h1 | h1
      · exact h w (by simp) h1
      · rcases List.mem_cons.1 h1 with h2 | h2
        · exact hb h2
        · exact joinS_free hb (ls := ls) (fun v hv => h v (by simp [hv])) h2
theorem listWord_free (l : List Nat) : (32 : UInt8) ∉ listWord l := by
  unfold listWord
  split
  · decide
  · rw [join_is]
    exact joinS_free (by decide) fun w hw => by obtain ⟨n, _, rfl⟩ := List.mem_map.1 hw; exact d32 n
theorem tail_free {x : Ev} (h3 : x.kind ≠ 3) : ∀ w ∈ x.tailW, (32 : UInt8) ∉ w := fun w hw => by
  unfold Ev.tailW at hw
  by_cases h2 : x.kind = 2
  · rw [if_pos h2] at hw; exact op_free _ w hw
  rw [if_neg h2, if_neg h3] at hw
  by_cases h5 : x.kind = 5
  · rw [if_pos h5] at hw; exact mics_free _ w hw
  rw [if_neg h5] at hw
  by_cases h6 : x.kind = 6
  · rw [if_pos h6] at hw
    obtain ⟨l, _, rfl⟩ := List.mem_map.1 hw
    exact listWord_free l
  · rw [if_neg h6] at hw; cases hw
/-- A line's words, parted. -/
theorem line_split (x : Ev) : splitS 32 x.line = kindW x.kind :: (if x.kind = 1 then cfgWords x.cfg else Lib.decDigits x.client :: Lib.decDigits x.id :: (if x.kind = 3 then splitS 32 (resText x.rk x.rv) else x.tailW)) := by
  unfold Ev.line Ev.words
  rw [join_is]
  by_cases h1 : x.kind = 1
  · rw [if_pos h1, if_pos h1]
    refine splitS_join (by simp) fun w hw => ?_
    rcases List.mem_cons.1 hw with rfl | hw
    · exact kindW_free _
    · exact cfg_free _ w hw
  · rw [if_neg h1, if_neg h1]
    by_cases h3 : x.kind = 3
    · have ht : x.tailW = [resText x.rk x.rv] := by unfold Ev.tailW; rw [if_neg (by omega), if_pos h3]
      rw [if_pos h3, ht, joinS_cons 32 _ (by simp), splitS_app _ (kindW_free _), joinS_cons 32 _ (by simp), splitS_app _ (d32 _), joinS_cons 32 _ (by simp), splitS_app _ (d32 _)]
      rfl
    · rw [if_neg h3]
      refine splitS_join (by simp) fun w hw => ?_
      rcases List.mem_cons.1 hw with rfl | hw
      · exact kindW_free _
      · rcases List.mem_cons.1 hw with rfl | hw
        · exact d32 _
        · rcases List.mem_cons.1 hw with rfl | hw
          · exact d32 _
          · exact tail_free h3 w hw
end Go.Proofs.YtfklgaeejmeipaaGreatDoor

/- What Parse tells: plain: the event whose line it is, if one has it. Of events that may be. -/
namespace Go.Proofs.YtfklgaeejmeipaaGreatDoor
open Go.RowKit

theorem Ev.ext_kind {x y : Ev} (h : x = x.needed) (e : x.needed = y) : y = x := by rw [← e, ← h]
theorem body_back {x : Ev} (ok : x.Ok) (hm : x.may = true) (h1 : x.kind ≠ 1) : bodyN { Ev.zero with kind := x.kind, client := x.client, id := x.id } (if x.kind = 3 then splitS 32 (resText x.rk x.rv) else x.tailW) = some x := by
  obtain ⟨hk, _, hn⟩ := may_kind hm
  unfold Ev.kindMay at hk
  unfold Ev.needed at hn
  unfold bodyN Ev.tailW
  rw [if_neg h1] at hk hn
  simp only [if_neg h1]
  by_cases h2 : x.kind = 2
  · rw [if_pos h2] at hk hn
    rw [if_neg (by omega : ¬ x.kind = 3), if_pos h2, if_pos h2, parseOp_words x.op ⟨ok.F, ok.O, ok.K, ok.A, ok.B⟩ hk]
    simp only [if_true]
    rw [← hn]
  · rw [if_neg h2] at hk hn
    rw [if_neg h2]
    by_cases h3 : x.kind = 3
    · rw [if_pos h3] at hk hn
      have hp := (parseRes_iff (resText x.rk x.rv) x.rk x.rv).2 ⟨hk, ok.rv, rfl⟩
      rw [if_pos h3, if_pos h3, join_is, joinS_split, hp]
      simp only [if_true]
      rw [← hn]
    · rw [if_neg h3] at hk hn
      rw [if_neg h3, if_neg h3, if_neg h3, if_neg h2]
      by_cases h5 : x.kind = 5
      · rw [if_pos h5] at hk hn
        unfold txnMay at hk
        simp only [Bool.and_eq_true, Bool.not_eq_true'] at hk
        rw [if_pos h5, if_pos h5, mics_back hk.2 fun m hmm => (ok.txn m hmm).2]
        simp only [Option.map_some]
        rw [← hn]
      · rw [if_neg h5] at hk hn
        rw [if_neg h5, if_neg h5]
        by_cases h6 : x.kind = 6
        · rw [if_pos h6] at hk hn
          rw [if_pos h6, if_pos h6, lists_back ok.reads]
          simp only [Option.map_some]
          rw [← hn]
        · rw [if_neg h6] at hk hn
          rw [if_neg h6]
          rw [← hn]
theorem words_back {x : Ev} (ok : x.Ok) (hm : x.may = true) (h17 : 1 ≤ x.kind ∧ x.kind ≤ 7) : wordsN (splitS 32 x.line) = some x := by
  rw [line_split, wordsN, kindOfT_word h17.1 h17.2, if_neg (by omega)]
  unfold restN
  have hk := may_kind hm
  by_cases h1 : x.kind = 1
  · rw [if_pos h1, if_pos h1]
    unfold bodyN
    have hc : cfgMay x.cfg = true := by have := hk.1; unfold Ev.kindMay at this; rwa [if_pos h1] at this
    rw [if_pos (show ({ Ev.zero with kind := x.kind } : Ev).kind = 1 from h1), cfg_back hc]
    simp only [Option.map_some]
    have hn := hk.2.2
    unfold Ev.needed at hn
    rw [if_pos h1] at hn
    rw [← hn]
  · rw [if_neg h1, if_neg h1, numN_dec _ (by omega) (by omega)]
    simp only
    rw [numN_dec _ (by have := ok.id; omega) (by have := ok.id; omega)]
    simp only
    exact body_back ok hm h1
end Go.Proofs.YtfklgaeejmeipaaGreatDoor

/- What Parse tells lies in its types' bounds; a line says just the event whose line it is: plain. Of any text. -/
namespace Go.Proofs.YtfklgaeejmeipaaGreatDoor
open Go.RowKit

theorem may_k17 {x : Ev} (hm : x.may = true) : 1 ≤ x.kind ∧ x.kind ≤ 7 := by
  have hk := (may_kind hm).1
  unfold Ev.kindMay at hk
  by_cases h1 : x.kind = 1
  · omega
  by_cases h2 : x.kind = 2
  · omega
  by_cases h3 : x.kind = 3
  · omega
  by_cases h5 : x.kind = 5
  · omega
  by_cases h6 : x.kind = 6
  · omega
  rw [if_neg h1, if_neg h2, if_neg h3, if_neg h5, if_neg h6] at hk
  simp at hk
  omega
theorem kindOfT_le (w : W8) : ∀ k, kindOfT w k ≤ k - 1
  | 0 => Nat.le_refl _
  | k + 1 => by
    have := kindOfT_le w k
    unfold kindOfT
    split <;> omega
theorem modelOf_le5 (w : W8) : ∀ k, modelOf w k ≤ k
  | 0 => Nat.le_refl _
  | k + 1 => by
    have := modelOf_le5 w k
    unfold modelOf
    split <;> omega
theorem digsW_lt : ∀ {l : List W8} {o : List Nat}, digsW 65535 l = some o → ∀ n ∈ o, n < 65536
  | [], o, h => by cases h; simp
  | s :: r, o, h => by
    unfold digsW at h
    cases hd : digW 65535 s with
    | none => rw [hd] at h; cases h
    | some v =>
      rw [hd] at h
      obtain ⟨q, hq, rfl⟩ := Option.map_eq_some_iff.1 h
      have := digW_le hd
      intro n hn
      rcases List.mem_cons.1 hn with rfl | hn
      · omega
      · exact digsW_lt hq n hn
theorem listN_lt {s : W8} {o : List Nat} (h : listN s = some o) : ∀ n ∈ o, n < 65536 := by
  unfold listN at h
  split at h
  · cases h; simp
  · exact digsW_lt h
theorem listsN_lt : ∀ {l : List W8} {o : List (List Nat)}, listsN l = some o → ∀ t ∈ o, ∀ n ∈ t, n < 65536
  | [], o, h => by cases h; simp
  | s :: r, o, h => by
    unfold listsN at h
    cases hd : listN s with
    | none => rw [hd] at h; cases h
    | some v =>
      rw [hd] at h
      obtain ⟨q, hq, rfl⟩ := Option.map_eq_some_iff.1 h
      intro t ht
      rcases List.mem_cons.1 ht with rfl | ht
      · exact listN_lt hd
      · exact listsN_lt hq t ht
theorem micsN_lt : ∀ (k : Nat) {l : List W8} {o : List Mic}, l.length ≤ k → micsN l = some o → ∀ m ∈ o, m.key < 256 ∧ m.v < 65536
  | _, [], o, _, h => by cases h; simp
  | _, [_], o, _, h => by cases h
  | 0, _ :: _ :: _, _, hk, _ => by simp at hk
  | k + 1, w :: s :: r, o, hk, h => by
    rw [micsN_two] at h
    simp only [List.length_cons] at hk
    split at h
    · cases hd : digW 8 s with
      | none => rw [hd] at h; cases h
      | some a =>
        rw [hd] at h
        obtain ⟨q, hq, rfl⟩ := Option.map_eq_some_iff.1 h
        have := digW_le hd
        intro m hm
        rcases List.mem_cons.1 hm with rfl | hm
        · exact ⟨by simp only; omega, by simp⟩
        · exact micsN_lt k (by omega) hq m hm
    · split at h
      · cases r with
        | nil => cases h
        | cons v q =>
          simp only at h
          simp only [List.length_cons] at hk
          cases hd : digW 8 s with
          | none => rw [hd] at h; cases h
          | some a =>
            cases hv : digW 65535 v with
            | none => rw [hd, hv] at h; cases h
            | some b =>
              rw [hd, hv] at h
              obtain ⟨q', hq, rfl⟩ := Option.map_eq_some_iff.1 h
              have := digW_le hd
              have := digW_le hv
              intro m hm
              rcases List.mem_cons.1 hm with rfl | hm
              · exact ⟨by simp only; omega, by simp only; omega⟩
              · exact micsN_lt k (by omega) hq m hm
      · cases h
theorem cfgN_model {l q : List W8} {c : Cfg} (h : cfgN l = some (c, q)) : c.model < 256 := by
  cases l with
  | nil => cases h
  | cons s r =>
    rw [cfgN] at h
    have := modelOf_le5 s 5
    split at h
    · cases h
    · split at h
      · cases h
      · split at h
        · cases h
        · split at h
          · cases h
          · cases h
            show modelOf s 5 - 1 < 256
            omega
theorem bodyN_ok {y x : Ev} {l : List W8} (ok : y.Ok) (h : bodyN y l = some x) : x.Ok := by
  unfold bodyN at h
  split at h
  · obtain ⟨⟨c, q⟩, hq, rfl⟩ := Option.map_eq_some_iff.1 h
    exact ⟨ok.kind, ok.client, ok.id, ok.F, ok.O, ok.K, ok.A, ok.B, ok.rk, ok.rv, ok.txn, ok.reads, cfgN_model hq⟩
  split at h
  · split at h
    · cases h
      have := parseOp_ok l
      exact ⟨ok.kind, ok.client, ok.id, this.F, this.O, this.K, this.A, this.B, ok.rk, ok.rv, ok.txn, ok.reads, ok.model⟩
    · cases h
  split at h
  · split at h
    · cases h
      have := parseRes_lt (Lib.join l [32])
      exact ⟨ok.kind, ok.client, ok.id, ok.F, ok.O, ok.K, ok.A, ok.B, this.1, this.2, ok.txn, ok.reads, ok.model⟩
    · cases h
  split at h
  · obtain ⟨q, hq, rfl⟩ := Option.map_eq_some_iff.1 h
    exact ⟨ok.kind, ok.client, ok.id, ok.F, ok.O, ok.K, ok.A, ok.B, ok.rk, ok.rv, micsN_lt _ (Nat.le_refl _) hq, ok.reads, ok.model⟩
  split at h
  · obtain ⟨q, hq, rfl⟩ := Option.map_eq_some_iff.1 h
    exact ⟨ok.kind, ok.client, ok.id, ok.F, ok.O, ok.K, ok.A, ok.B, ok.rk, ok.rv, ok.txn, listsN_lt hq, ok.model⟩
  · cases h; exact ok
theorem Ev.zero_ok : Ev.zero.Ok := ⟨by decide, by decide, by decide, by decide, by decide, by decide, by decide, by decide, by decide, by decide, fun m hm => (by cases hm), fun m hm => (by cases hm), by decide⟩
theorem Ev.Ok.head {k a b : Nat} (hk : k < 256) (ha : a < 256) (hb : b < 65536) : ({ Ev.zero with kind := k, client := a, id := b } : Ev).Ok :=
  ⟨hk, ha, hb, Ev.zero_ok.F, Ev.zero_ok.O, Ev.zero_ok.K, Ev.zero_ok.A, Ev.zero_ok.B, Ev.zero_ok.rk, Ev.zero_ok.rv, fun m hm => (by cases hm), fun m hm => (by cases hm), Ev.zero_ok.model⟩
theorem restN_ok {k : Nat} {l : List W8} {x : Ev} (hk : k ≤ 7) (h : restN k l = some x) : x.Ok := by
  unfold restN at h
  split at h
  · exact bodyN_ok (y := { Ev.zero with kind := k }) (Ev.Ok.head (k := k) (a := 0) (b := 0) (by omega) (by omega) (by omega)) h
  · split at h
    · cases h
    · rename_i a r h1
      have := numN_le h1
      split at h
      · cases h
      · rename_i b q h2
        have := numN_le h2
        exact bodyN_ok (Ev.Ok.head (by omega) (by omega) (by omega)) h
theorem wordsN_ok {l : List W8} {x : Ev} (h : wordsN l = some x) : x.Ok := by
  cases l with
  | nil => cases h
  | cons s r =>
    rw [wordsN] at h
    split at h
    · cases h
    · have := kindOfT_le s 8
      exact restN_ok (by omega) h
theorem Ev.said_iff {x : Ev} {s : W8} : x.said = (s, 0) ↔ x.may = true ∧ x.line = s := by
  unfold Ev.said
  cases x.may <;> simp
/-- A line says just the event whose line it is. -/
theorem parseLn_iff {s : W8} {x : Ev} : parseLn s = (x, 0) ↔ x.Ok ∧ x.may = true ∧ x.line = s := by
  unfold parseLn
  constructor
  · intro h
    cases hw : wordsN (splitS 32 s) with
    | none => rw [hw] at h; cases h
    | some y =>
      rw [hw] at h
      simp only at h
      split at h
      · rename_i hs
        cases h
        exact ⟨wordsN_ok hw, Ev.said_iff.1 hs⟩
      · cases h
  · rintro ⟨ok, hm, rfl⟩
    rw [words_back ok hm (may_k17 hm)]
    simp only
    rw [if_pos (Ev.said_iff.2 ⟨hm, rfl⟩)]
theorem parseLn_cases (s : W8) : (∃ x : Ev, x.Ok ∧ x.may = true ∧ x.line = s ∧ parseLn s = (x, 0)) ∨ parseLn s = (.zero, 4) := by
  by_cases h : ∃ x, parseLn s = (x, 0)
  · obtain ⟨x, hx⟩ := h
    obtain ⟨h1, h2, h3⟩ := parseLn_iff.1 hx
    exact .inl ⟨x, h1, h2, h3, hx⟩
  · refine .inr ?_
    unfold parseLn at *
    cases hw : wordsN (splitS 32 s) with
    | none => rfl
    | some y =>
      rw [hw] at h
      simp only at h ⊢
      split
      · rename_i hs
        exact absurd ⟨y, if_pos hs⟩ h
      · rfl
/-- Events with one line are the same. -/
theorem line_inj {x y : Ev} (hx : x.Ok) (hy : y.Ok) (mx : x.may = true) (my : y.may = true) (h : x.line = y.line) : x = y := by
  have h1 := parseLn_iff.2 ⟨hx, mx, rfl⟩
  have h2 := parseLn_iff.2 ⟨hy, my, h.symm⟩
  rw [h1] at h2
  exact (Prod.mk.inj h2).1
theorem parseLn_ok (s : W8) : (parseLn s).1.Ok := by
  rcases parseLn_cases s with ⟨x, h1, _, _, h⟩ | h
  · rw [h]; exact h1
  · rw [h]; exact Ev.zero_ok
end Go.Proofs.YtfklgaeejmeipaaGreatDoor

/- Scripts: what is written, what is read: plain. Of events that may be, of any text. -/
namespace Go.Proofs.YtfklgaeejmeipaaGreatDoor
open Go.RowKit

/-- Lines with their ends. -/
def endsOf (ws : List W8) : W8 := ws.flatMap fun w => w ++ [10]
/-- What Write answers. -/
def writeT (l : List Ev) : W8 × Nat := if l.all (·.may) then (endsOf (l.map Ev.line), 0) else ([], 4)
/-- A script's lines. -/
def linesOf (s : W8) : List W8 := if (splitS 10 s).getLast? = some [] then (splitS 10 s).dropLast else splitS 10 s
def readFrom : List W8 → Nat → List Ev → List Ev × Nat × Nat
  | [], i, acc => (acc, i, 0)
  | t :: r, i, acc => if (parseLn t).2 = 0 then readFrom r (i + 1) (acc ++ [(parseLn t).1]) else ([], i + 1, 4)
/-- What Read answers. -/
def readT (s : W8) : List Ev × Nat × Nat := readFrom (linesOf s) 0 []
theorem endsOf_cons (w : W8) (ws : List W8) : endsOf (w :: ws) = w ++ 10 :: endsOf ws := by unfold endsOf; rw [List.flatMap_cons]; simp
theorem endsOf_app (ws vs : List W8) : endsOf (ws ++ vs) = endsOf ws ++ endsOf vs := by unfold endsOf; rw [List.flatMap_append]
theorem split_ends : ∀ {ws : List W8}, (∀ w ∈ ws, (10 : UInt8) ∉ w) → splitS 10 (endsOf ws) = ws ++ [[]]
  | [], _ => rfl
  | w :: ws, h => by rw [endsOf_cons, splitS_app _ (h w (by simp)), split_ends fun v hv => h v (by simp [hv])]; rfl
theorem lines_ends {ws : List W8} (h : ∀ w ∈ ws, (10 : UInt8) ∉ w) : linesOf (endsOf ws) = ws := by
  unfold linesOf
  rw [split_ends h]
  simp
/-- .. without the last end. -/
theorem lines_join {ws : List W8} (h : ∀ w ∈ ws, (10 : UInt8) ∉ w) (h0 : ∀ w ∈ ws, w ≠ []) : linesOf (joinS 10 ws) = ws := by
  by_cases hn : ws = []
  · subst hn; rfl
  · unfold linesOf
    rw [splitS_join hn h, if_neg]
    rw [List.getLast?_eq_some_getLast hn]
    intro e
    exact h0 _ (List.getLast_mem hn) (Option.some.inj e)
theorem ends_join : ∀ {ws : List W8}, ws ≠ [] → endsOf ws = joinS 10 ws ++ [10]
  | [], h => absurd rfl h
  | [w], _ => by rw [endsOf_cons]; rfl
  | w :: v :: ws, _ => by
    rw [endsOf_cons, ends_join (ws := v :: ws) (by simp)]
    show _ = (w ++ 10 :: joinS 10 (v :: ws)) ++ [10]
    simp
theorem readFrom_good : ∀ (l : List Ev) (r : List W8) (i : Nat) (acc : List Ev), (∀ x ∈ l, x.Ok ∧ x.may = true) → readFrom (l.map Ev.line ++ r) i acc = readFrom r (i + l.length) (acc ++ l)
  | [], r, i, acc, _ => by simp
  | x :: l, r, i, acc, h => by
    have hx := h x (by simp)
    have hp := parseLn_iff.2 ⟨hx.1, hx.2, rfl⟩
    rw [List.map_cons, List.cons_append, readFrom, hp]
    simp only [if_true]
    rw [readFrom_good l r (i + 1) _ fun y hy => h y (by simp [hy])]
    simp only [List.length_cons, List.append_assoc, List.singleton_append]
    rw [show i + 1 + l.length = i + (l.length + 1) by omega]
theorem readFrom_all {l : List Ev} (h : ∀ x ∈ l, x.Ok ∧ x.may = true) : readFrom (l.map Ev.line) 0 [] = (l, l.length, 0) := by
  have := readFrom_good l [] 0 [] h
  rw [List.append_nil] at this
  rw [this]
  simp [readFrom]
/-! No line has an end in its midst. -/
theorem kindW_10 (k : Nat) : (10 : UInt8) ∉ kindW k := by unfold kindW; repeat (first | (split) | decide)
theorem modelW_10 (k : Nat) : (10 : UInt8) ∉ modelW k := by unfold modelW; repeat (first | (split) | decide)
theorem kName_10 (k : Int) : (10 : UInt8) ∉ kName k := by unfold kName; repeat (first | (split) | decide)
theorem resWord_10 (k : Nat) : (10 : UInt8) ∉ resWord k := by unfold resWord; repeat (first | (split) | decide)
theorem d10 (v : Nat) : (10 : UInt8) ∉ Lib.decDigits v := dd_free (by decide) v
theorem cfg_10 (c : Cfg) : ∀ w ∈ cfgWords c, (10 : UInt8) ∉ w := fun w hw => by
  unfold cfgWords at hw
  simp only [List.mem_append, List.mem_cons, List.not_mem_nil, or_false] at hw
  rcases hw with (((rfl | rfl | rfl | rfl) | hw) | hw) | hw
  · exact modelW_10 _
  · exact d10 _
  · exact d10 _
  · exact d10 _
  · rw [flagW_mem hw]; decide
  · rw [flagW_mem hw]; decide
  · rw [flagW_mem hw]; decide
theorem op_10 (x : OpD) : ∀ w ∈ wordsOf x, (10 : UInt8) ∉ w := fun w hw => by
  have e : ∀ (b : Bool) (w v : W8), v ∈ (if b then [w] else []) → v = w := fun b w v h => by cases b <;> simp at h; exact h
  unfold wordsOf at hw
  simp only [List.mem_append, List.mem_cons] at hw
  rcases hw with rfl | rfl | hw | hw | hw
  · exact d10 _
  · exact kName_10 _
  · rw [e _ _ _ hw]; exact d10 _
  · rw [e _ _ _ hw]; exact d10 _
  · rw [e _ _ _ hw]; exact d10 _
theorem mics_10 (l : List Mic) : ∀ w ∈ micsWords l, (10 : UInt8) ∉ w := fun w hw => by
  unfold micsWords at hw
  obtain ⟨m, _, hw⟩ := List.mem_flatMap.1 hw
  unfold micWords at hw
  split at hw <;> simp only [List.mem_cons, List.not_mem_nil, or_false] at hw
  · rcases hw with rfl | rfl
    · decide
    · exact d10 _
  · rcases hw with rfl | rfl | rfl
    · decide
    · exact d10 _
    · exact d10 _
theorem listWord_10 (l : List Nat) : (10 : UInt8) ∉ listWord l := by
  unfold listWord
  split
  · decide
  · rw [join_is]
    exact joinS_free (by decide) fun w hw => by obtain ⟨n, _, rfl⟩ := List.mem_map.1 hw; exact d10 n
theorem tail_10 (x : Ev) : ∀ w ∈ x.tailW, (10 : UInt8) ∉ w := fun w hw => by
  unfold Ev.tailW at hw
  by_cases h2 : x.kind = 2
  · rw [if_pos h2] at hw; exact op_10 _ w hw
  rw [if_neg h2] at hw
  by_cases h3 : x.kind = 3
  · rw [if_pos h3, List.mem_singleton] at hw
    subst hw
    unfold resText
    intro hm
    rcases List.mem_append.1 hm with hm | hm
    · exact resWord_10 _ hm
    · split at hm
      · rcases List.mem_cons.1 hm with hm | hm
        · revert hm; decide
        · exact d10 _ hm
      · cases hm
  rw [if_neg h3] at hw
  by_cases h5 : x.kind = 5
  · rw [if_pos h5] at hw; exact mics_10 _ w hw
  rw [if_neg h5] at hw
  by_cases h6 : x.kind = 6
  · rw [if_pos h6] at hw
    obtain ⟨l, _, rfl⟩ := List.mem_map.1 hw
    exact listWord_10 l
  · rw [if_neg h6] at hw; cases hw
theorem line_10 (x : Ev) : (10 : UInt8) ∉ x.line := by
  unfold Ev.line Ev.words
  rw [join_is]
  refine joinS_free (by decide) fun w hw => ?_
  rcases List.mem_cons.1 hw with rfl | hw
  · exact kindW_10 _
  · split at hw
    · exact cfg_10 _ w hw
    · rcases List.mem_cons.1 hw with rfl | hw
      · exact d10 _
      · rcases List.mem_cons.1 hw with rfl | hw
        · exact d10 _
        · exact tail_10 x w hw
theorem kindW_ne {k : Nat} (h1 : 1 ≤ k) (h7 : k ≤ 7) : kindW k ≠ [] := by
  rcases (show k = 1 ∨ k = 2 ∨ k = 3 ∨ k = 4 ∨ k = 5 ∨ k = 6 ∨ k = 7 by omega) with rfl | rfl | rfl | rfl | rfl | rfl | rfl <;> decide
theorem line_ne {x : Ev} (hm : x.may = true) : x.line ≠ [] := by
  have h17 := may_k17 hm
  have hk := kindW_ne h17.1 h17.2
  unfold Ev.line Ev.words
  rw [join_is]
  have hne : (if x.kind = 1 then cfgWords x.cfg else Lib.decDigits x.client :: Lib.decDigits x.id :: x.tailW) ≠ [] := by
    split
    · unfold cfgWords; simp
    · simp
  rw [joinS_cons 32 _ hne]
  intro e
  have := (List.append_eq_nil_iff.1 e).1
  exact hk this
theorem what_no : parseLn [119, 104, 97, 116] = (.zero, 4) := by
  unfold parseLn
  have : splitS 32 [119, 104, 97, 116] = [[119, 104, 97, 116]] := by decide
  rw [this]
  have : kindOfT [119, 104, 97, 116] 8 = 0 := by decide
  rw [wordsN, if_pos this]
/-! The laws. -/
theorem mem_lines {l : List Ev} : ∀ w ∈ l.map Ev.line, (10 : UInt8) ∉ w := fun w hw => by obtain ⟨x, _, rfl⟩ := List.mem_map.1 hw; exact line_10 x
theorem read_write {l : List Ev} (h : ∀ x ∈ l, x.Ok ∧ x.may = true) : readT (endsOf (l.map Ev.line)) = (l, l.length, 0) := by
  unfold readT
  rw [lines_ends mem_lines, readFrom_all h]
theorem read_trim {l : List Ev} (h : ∀ x ∈ l, x.Ok ∧ x.may = true) : readT (joinS 10 (l.map Ev.line)) = (l, l.length, 0) := by
  unfold readT
  rw [lines_join mem_lines fun w hw => by obtain ⟨x, hx, rfl⟩ := List.mem_map.1 hw; exact line_ne (h x hx).2, readFrom_all h]
theorem read_what {l : List Ev} (h : ∀ x ∈ l, x.Ok ∧ x.may = true) (k : Nat) (hk : k ≤ l.length) : readT (endsOf ((l.take k).map Ev.line ++ [119, 104, 97, 116] :: (l.drop k).map Ev.line)) = ([], k + 1, 4) := by
  unfold readT
  rw [lines_ends fun w hw => by
    rcases List.mem_append.1 hw with hw | hw
    · exact mem_lines w hw
    · rcases List.mem_cons.1 hw with rfl | hw
      · decide
      · exact mem_lines w hw, readFrom_good _ _ _ _ fun x hx => h x (List.mem_of_mem_take hx), readFrom, what_no]
  simp only [List.length_take]
  rw [if_neg (by decide), Nat.min_eq_left hk, Nat.zero_add]
end Go.Proofs.YtfklgaeejmeipaaGreatDoor

/- umpirelaw06.TextKnown's examples: the plain facts. Printed by gen_txtknown.py. -/
namespace Go.Proofs.YtfklgaeejmeipaaGreatDoor
open Go.RowKit

def knE1 : Ev := { Ev.zero with kind := 1, cfg := ⟨2, 8, 100, 1000, true, false, true⟩ }
theorem knE1_ok : knE1.Ok := by
  refine ⟨?_, ?_, ?_, ?_, ?_, ?_, ?_, ?_, ?_, ?_, ?_, ?_, ?_⟩ <;> simp [knE1, Ev.zero, OpD.zero, Cfg.zero]
theorem knE1_may : knE1.may = true := by kernel_rfl
theorem knE1_line : knE1.line = [99, 111, 110, 102, 105, 103, 32, 109, 97, 112, 32, 56, 32, 49, 48, 48, 32, 49, 48, 48, 48, 32, 112, 97, 114, 116, 105, 116, 105, 111, 110, 32, 109, 101, 109, 111] := by kernel_rfl
def knE2 : Ev := { Ev.zero with kind := 3, client := 3, id := 258, rk := 1, rv := 7 }
theorem knE2_ok : knE2.Ok := by
  refine ⟨?_, ?_, ?_, ?_, ?_, ?_, ?_, ?_, ?_, ?_, ?_, ?_, ?_⟩ <;> simp [knE2, Ev.zero, OpD.zero, Cfg.zero]
theorem knE2_may : knE2.may = true := by kernel_rfl
theorem knE2_line : knE2.line = [114, 101, 116, 117, 114, 110, 32, 51, 32, 50, 53, 56, 32, 118, 97, 108, 117, 101, 32, 55] := by kernel_rfl
def knE3 : Ev := { Ev.zero with kind := 4, client := 3, id := 258 }
theorem knE3_ok : knE3.Ok := by
  refine ⟨?_, ?_, ?_, ?_, ?_, ?_, ?_, ?_, ?_, ?_, ?_, ?_, ?_⟩ <;> simp [knE3, Ev.zero, OpD.zero, Cfg.zero]
theorem knE3_may : knE3.may = true := by kernel_rfl
theorem knE3_line : knE3.line = [105, 110, 102, 111, 32, 51, 32, 50, 53, 56] := by kernel_rfl
def knE4 : Ev := { Ev.zero with kind := 7 }
theorem knE4_ok : knE4.Ok := by
  refine ⟨?_, ?_, ?_, ?_, ?_, ?_, ?_, ?_, ?_, ?_, ?_, ?_, ?_⟩ <;> simp [knE4, Ev.zero, OpD.zero, Cfg.zero]
theorem knE4_may : knE4.may = true := by kernel_rfl
theorem knE4_line : knE4.line = [97, 98, 111, 114, 116, 32, 48, 32, 48] := by kernel_rfl
def knE5 : Ev := { Ev.zero with kind := 5, client := 1, id := 9, txn := [⟨true, 2, 0⟩, ⟨false, 2, 6⟩] }
theorem knE5_ok : knE5.Ok := by
  refine ⟨?_, ?_, ?_, ?_, ?_, ?_, ?_, ?_, ?_, ?_, ?_, ?_, ?_⟩ <;> simp [knE5, Ev.zero, OpD.zero, Cfg.zero]
theorem knE5_may : knE5.may = true := by kernel_rfl
theorem knE5_line : knE5.line = [98, 101, 103, 105, 110, 32, 49, 32, 57, 32, 114, 101, 97, 100, 32, 50, 32, 97, 112, 112, 101, 110, 100, 32, 50, 32, 54] := by kernel_rfl
def knE6 : Ev := { Ev.zero with kind := 6, client := 1, id := 9 }
theorem knE6_ok : knE6.Ok := by
  refine ⟨?_, ?_, ?_, ?_, ?_, ?_, ?_, ?_, ?_, ?_, ?_, ?_, ?_⟩ <;> simp [knE6, Ev.zero, OpD.zero, Cfg.zero]
theorem knE6_may : knE6.may = true := by kernel_rfl
theorem knE6_line : knE6.line = [99, 111, 109, 109, 105, 116, 32, 49, 32, 57] := by kernel_rfl
def knE7 : Ev := { Ev.zero with kind := 3, client := 15, id := 65535, rk := 4 }
theorem knE7_ok : knE7.Ok := by
  refine ⟨?_, ?_, ?_, ?_, ?_, ?_, ?_, ?_, ?_, ?_, ?_, ?_, ?_⟩ <;> simp [knE7, Ev.zero, OpD.zero, Cfg.zero]
theorem knE7_may : knE7.may = true := by kernel_rfl
theorem knE7_line : knE7.line = [114, 101, 116, 117, 114, 110, 32, 49, 53, 32, 54, 53, 53, 51, 53, 32, 110, 111] := by kernel_rfl
def knE8 : Ev := { Ev.zero with kind := 1, cfg := ⟨4, 32, 4096, 1048576, false, true, false⟩ }
theorem knE8_ok : knE8.Ok := by
  refine ⟨?_, ?_, ?_, ?_, ?_, ?_, ?_, ?_, ?_, ?_, ?_, ?_, ?_⟩ <;> simp [knE8, Ev.zero, OpD.zero, Cfg.zero]
theorem knE8_may : knE8.may = true := by kernel_rfl
theorem knE8_line : knE8.line = [99, 111, 110, 102, 105, 103, 32, 97, 112, 112, 101, 110, 100, 32, 51, 50, 32, 52, 48, 57, 54, 32, 49, 48, 52, 56, 53, 55, 54, 32, 99, 117, 116] := by kernel_rfl
def knBad : List W8 := [[105, 110, 102, 111, 32, 49, 54, 32, 49], [105, 110, 102, 111, 32, 51], [73, 110, 102, 111, 32, 51, 32, 49], [105, 110, 102, 111, 32, 51, 32, 49, 32], [105, 110, 102, 111, 32, 32, 51, 32, 49], [99, 111, 110, 102, 105, 103, 32, 109, 97, 112, 32, 48, 32, 49, 32, 49], [99, 111, 110, 102, 105, 103, 32, 109, 97, 112, 32, 56, 32, 49, 32, 49, 32, 109, 101, 109, 111, 32, 99, 117, 116], [99, 111, 110, 102, 105, 103, 32, 116, 114, 101, 101, 32, 56, 32, 49, 32, 49], [99, 111, 110, 102, 105, 103, 32, 109, 97, 112, 32, 56, 32, 49], [99, 111, 110, 102, 105, 103, 32, 109, 97, 112, 32, 56, 32, 49, 32, 49, 32, 109, 101, 109, 111, 32, 109, 101, 109, 111], [99, 111, 109, 109, 105, 116, 32, 49, 32, 57, 32, 52, 44], [99, 111, 109, 109, 105, 116, 32, 49, 32, 57, 32, 44, 52], [99, 111, 109, 109, 105, 116, 32, 49, 32, 57, 32, 48, 52], [98, 101, 103, 105, 110, 32, 49, 32, 57], [98, 101, 103, 105, 110, 32, 49, 32, 57, 32, 114, 101, 97, 100], [98, 101, 103, 105, 110, 32, 49, 32, 57, 32, 114, 101, 97, 100, 32, 56], [98, 101, 103, 105, 110, 32, 49, 32, 57, 32, 97, 112, 112, 101, 110, 100, 32, 49], [98, 101, 103, 105, 110, 32, 49, 32, 57, 32, 119, 114, 105, 116, 101, 32, 49, 32, 50], [114, 101, 116, 117, 114, 110, 32, 49, 32, 57], [114, 101, 116, 117, 114, 110, 32, 49, 32, 57, 32, 118, 97, 108, 117, 101], [114, 101, 116, 117, 114, 110, 32, 49, 32, 57, 32, 89, 101, 115], [105, 110, 118, 111, 107, 101, 32, 49, 32, 57, 32, 114, 101, 97, 100], [105, 110, 118, 111, 107, 101, 32, 49, 32, 57, 32, 48, 32, 114, 101, 97, 100, 115], [97, 98, 111, 114, 116, 32, 48, 32, 54, 53, 53, 51, 54], [97, 98, 111, 114, 116, 32, 48, 32, 45, 49], [105, 110, 102, 111, 32, 43, 51, 32, 49], [120, 32, 49, 32, 50], [99, 111, 110, 102, 105, 103]]
theorem knBad_b : (knBad.all fun q => decide (q.length ≤ 20000) && decide (parseLn q = (.zero, 4))) = true := by kernel_rfl
theorem knBad_p {q : W8} (h : q ∈ knBad) : q.length ≤ 20000 ∧ parseLn q = (.zero, 4) := by
  have := List.all_eq_true.1 knBad_b q h
  simpa using this
theorem knX_ok : ({ Ev.zero with kind := 4 } : Ev).Ok := by
  refine ⟨?_, ?_, ?_, ?_, ?_, ?_, ?_, ?_, ?_, ?_, ?_, ?_, ?_⟩ <;> simp [Ev.zero, OpD.zero, Cfg.zero]
theorem knY_ok : ({ Ev.zero with kind := 4, client := 16 } : Ev).Ok := by
  refine ⟨?_, ?_, ?_, ?_, ?_, ?_, ?_, ?_, ?_, ?_, ?_, ?_, ?_⟩ <;> simp [Ev.zero, OpD.zero, Cfg.zero]
theorem knZ_ok : ({ Ev.zero with kind := 9 } : Ev).Ok := by
  refine ⟨?_, ?_, ?_, ?_, ?_, ?_, ?_, ?_, ?_, ?_, ?_, ?_, ?_⟩ <;> simp [Ev.zero, OpD.zero, Cfg.zero]
theorem knV_ok : ({ Ev.zero with kind := 7, id := 2 } : Ev).Ok := by
  refine ⟨?_, ?_, ?_, ?_, ?_, ?_, ?_, ?_, ?_, ?_, ?_, ?_, ?_⟩ <;> simp [Ev.zero, OpD.zero, Cfg.zero]
def knX : Ev := { Ev.zero with kind := 4 }
def knY : Ev := { Ev.zero with kind := 4, client := 16 }
def knZ : Ev := { Ev.zero with kind := 9 }
def knV : Ev := { Ev.zero with kind := 7, id := 2 }
theorem knR1 : readT [105, 110, 102, 111, 32, 48, 32, 49, 10, 10, 120] = ([], 2, 4) := by kernel_rfl
theorem knS1 : ∀ t ∈ linesOf [105, 110, 102, 111, 32, 48, 32, 49, 10, 10, 120], t.length ≤ 20000 := fun t ht => by
  have h : ((linesOf [105, 110, 102, 111, 32, 48, 32, 49, 10, 10, 120]).all fun t => decide (t.length ≤ 20000)) = true := by kernel_rfl
  simpa using List.all_eq_true.1 h t ht
theorem knS2 : ∀ t ∈ linesOf [105, 110, 102, 111, 32, 48, 32, 49], t.length ≤ 20000 := fun t ht => by
  have h : ((linesOf [105, 110, 102, 111, 32, 48, 32, 49]).all fun t => decide (t.length ≤ 20000)) = true := by kernel_rfl
  simpa using List.all_eq_true.1 h t ht
theorem knS3 : ∀ t ∈ linesOf [], t.length ≤ 20000 := fun t ht => by
  have h : ((linesOf []).all fun t => decide (t.length ≤ 20000)) = true := by kernel_rfl
  simpa using List.all_eq_true.1 h t ht
theorem knS4 : ∀ t ∈ linesOf [10], t.length ≤ 20000 := fun t ht => by
  have h : ((linesOf [10]).all fun t => decide (t.length ≤ 20000)) = true := by kernel_rfl
  simpa using List.all_eq_true.1 h t ht
theorem knR2 : (readT [105, 110, 102, 111, 32, 48, 32, 49]).1.length = 1 ∧ (readT [105, 110, 102, 111, 32, 48, 32, 49]).2 = (1, 0) := ⟨by kernel_rfl, by kernel_rfl⟩
theorem knR3 : readT [] = ([], 0, 0) := by kernel_rfl
theorem knR4 : readT [10] = ([], 1, 4) := by kernel_rfl
theorem knL : knY.said = ([], 4) := by kernel_rfl
theorem knW1 : writeT [knX, knZ] = ([], 4) := by kernel_rfl
theorem knW2 : writeT [knX, knV] = ([105, 110, 102, 111, 32, 48, 32, 48, 10, 97, 98, 111, 114, 116, 32, 48, 32, 50, 10], 0) := by kernel_rfl
end Go.Proofs.YtfklgaeejmeipaaGreatDoor
