/- What is read has numbers in their bounds: plain. -/
import Derived.Test.YtdjjjnoecfbjeaaDoorPEvCheck
import Derived.Test.YtdjjjnoecfbjeaaDoorPOpPlain
set_option linter.all false
set_option linter.unusedVariables false
set_option linter.unusedSimpArgs false
set_option linter.unnecessarySimpa false
/- What is read has numbers in their bounds: plain. -/
namespace Go.Proofs.YtdjjjnoecfbjeaaDoor
open Go.RowKit

theorem rdOp_ok (e : Nat) (s : List UInt8) (at_ : Nat) : (rdOp e s at_).1.Ok := by
  unfold rdOp
  split
  · exact OpD.zero_ok
  · exact takeOp_ok _
theorem nil_lt : ofBe [] < 65536 := by decide
theorem resOk (K V e : Nat) (hK : K < 256) (hV : V < 65536) : (if e ≠ 0 then (0, 0, e) else if goodB K V then (K, V, 0) else ((0, 0, 4) : Nat × Nat × Nat)).1 < 256 ∧ (if e ≠ 0 then (0, 0, e) else if goodB K V then (K, V, 0) else ((0, 0, 4) : Nat × Nat × Nat)).2.1 < 65536 := by
  split
  · exact ⟨by simp, by simp⟩
  · split
    · exact ⟨hK, hV⟩
    · exact ⟨by simp, by simp⟩
theorem takeRes_ok (e : Nat) (s : List UInt8) (at_ : Nat) : (takeRes e s at_).1.1 < 256 ∧ (takeRes e s at_).1.2.1 < 65536 := by
  refine resOk _ _ _ (ofBe1_lt _ _ _) ?_
  split
  · exact ofBe2_lt _ _ _
  · exact nil_lt
theorem rdMics_ok : ∀ (n e : Nat) (s : List UInt8) (at_ : Nat), ∀ m ∈ (rdMics n e s at_).1, m.key < 256 ∧ m.v < 65536
  | 0, e, s, at_ => fun m h => by simp [rdMics] at h
  | n + 1, e, s, at_ => fun m h => by
    unfold rdMics at h
    split at h
    · simp at h
    · simp only [List.mem_cons] at h
      rcases h with rfl | h
      · refine ⟨by simp only; omega, ?_⟩
        simp only
        split
        · exact nil_lt
        · exact ofBe2_lt _ _ _
      · exact rdMics_ok n _ s _ m h
theorem rdList_ok (e : Nat) (s : List UInt8) (at_ : Nat) : ∀ n ∈ (rdList e s at_).1, n < 65536 := fun n h => by
  unfold rdList at h
  split at h
  · simp at h
  · split at h
    · simp at h
    · split at h
      · simp at h
      · simp only [rdNums, List.mem_map] at h
        obtain ⟨i, _, rfl⟩ := h
        exact ofBe_take_lt' _ 2
theorem rdLists_ok : ∀ (n e : Nat) (s : List UInt8) (at_ : Nat), ∀ l ∈ (rdLists n e s at_).1, ∀ k ∈ l, k < 65536
  | 0, e, s, at_ => fun m h => by simp [rdLists] at h
  | n + 1, e, s, at_ => fun m h => by
    unfold rdLists at h
    split at h
    · simp at h
    · simp only [List.mem_cons] at h
      rcases h with rfl | h
      · exact rdList_ok _ _ _
      · exact rdLists_ok n _ s _ m h
theorem zero_ok : Ev.zero.Ok := by
  constructor <;> first | decide | (intro m h; cases h)
theorem rdBody_ok (x : Ev) (e : Nat) (s : List UInt8) (at_ : Nat) (h : x.Ok) : (rdBody x e s at_).1.Ok := by
  unfold rdBody
  split
  · exact { h with model := by unfold rdCfg; exact ofBe1_lt _ _ _ }
  · split
    · have o := rdOp_ok e s at_
      exact { h with F := o.F, O := o.O, K := o.K, A := o.A, B := o.B }
    · split
      · have o := takeRes_ok e s at_
        exact { h with rk := o.1, rv := o.2 }
      · split
        · exact { h with txn := by unfold rdTxn; exact rdMics_ok _ _ _ _ }
        · split
          · exact { h with reads := by unfold rdReads; exact rdLists_ok _ _ _ _ }
          · exact h
end Go.Proofs.YtdjjjnoecfbjeaaDoor

/- What is written of an event is read as the event; a beginning of it is torn: plain. -/
namespace Go.Proofs.YtdjjjnoecfbjeaaDoor
open Go.RowKit

theorem rdRaw_at (pre b post : List UInt8) : rdRaw 0 (pre ++ b ++ post) pre.length b.length = (b, 0, pre.length + b.length) := by
  unfold rdRaw
  rw [if_neg (by simp), if_neg (by simp)]
  simp [List.append_assoc]
theorem rdRaw_at' (pre b post : List UInt8) (n a : Nat) (hn : b.length = n) (ha : pre.length = a) : rdRaw 0 (pre ++ b ++ post) a n = (b, 0, a + n) := by
  subst hn ha; exact rdRaw_at pre b post
theorem rdRaw_torn (s : List UInt8) (at_ n : Nat) (h : s.length - at_ < n) : rdRaw 0 s at_ n = ([], 5, at_) := by
  unfold rdRaw
  rw [if_neg (by simp), if_pos h]
theorem rdRaw_bad (e : Nat) (s : List UInt8) (at_ n : Nat) (h : e ≠ 0) : rdRaw e s at_ n = ([], e, at_) := by
  unfold rdRaw
  rw [if_pos h]
/-- It reads these bytes as this; a proper beginning of them is torn. -/
structure Rds {α : Type} (f : List UInt8 → Nat → α × Nat × Nat) (b : List UInt8) (v : α) : Prop where
  reads : ∀ pre post, f (pre ++ b ++ post) pre.length = (v, 0, pre.length + b.length)
  torn : ∀ pre c d, b = c ++ d → d ≠ [] → (f (pre ++ c) pre.length).2.1 = 5
theorem rds_raw (b : List UInt8) (n : Nat) (h : b.length = n) : Rds (fun s a => rdRaw 0 s a n) b b where
  reads := fun pre post => by subst h; exact rdRaw_at pre b post
  torn := fun pre c d hb hd => by
    have h1 : c.length < n := by
      have h2 : 0 < d.length := List.length_pos_iff.2 hd
      rw [hb, List.length_append] at h
      omega
    show (rdRaw 0 (pre ++ c) pre.length n).2.1 = 5
    rw [rdRaw_torn _ _ _ (by simp; omega)]
/-- One behind the other. -/
theorem rds_seq {α β γ : Type} {f : List UInt8 → Nat → α × Nat × Nat} {g : α → Nat → List UInt8 → Nat → β × Nat × Nat} {k : α → β → γ} {b1 b2 : List UInt8} {v1 : α} {v2 : β}
    (h1 : Rds f b1 v1) (h2 : Rds (g v1 0) b2 v2) (he : ∀ v s a, ((g v 5 s a).2.1) = 5) :
    Rds (fun s a => let x := f s a; let y := g x.1 x.2.1 s x.2.2; (k x.1 y.1, y.2)) (b1 ++ b2) (k v1 v2) where
  reads := fun pre post => by
    have e1 := h1.reads pre (b2 ++ post)
    have e2 := h2.reads (pre ++ b1) post
    have e3 : pre ++ (b1 ++ b2) ++ post = pre ++ b1 ++ (b2 ++ post) := by simp [List.append_assoc]
    have e4 : pre ++ b1 ++ (b2 ++ post) = pre ++ b1 ++ b2 ++ post := by simp [List.append_assoc]
    simp only [e3, e1]
    rw [show pre.length + b1.length = (pre ++ b1).length by simp, e4, e2]
    simp [Nat.add_assoc]
  torn := fun pre c d hb hd => by
    show (g (f (pre ++ c) pre.length).1 (f (pre ++ c) pre.length).2.1 (pre ++ c) (f (pre ++ c) pre.length).2.2).2.1 = 5
    by_cases hl : c.length < b1.length
    · have hc : b1 = c ++ b1.drop c.length := by
        have h3 : c = b1.take c.length := by
          have := congrArg (List.take c.length) hb
          rw [List.take_append_of_le_length (by omega)] at this
          simpa using this.symm
        conv => lhs; rw [← List.take_append_drop c.length b1]
        rw [← h3]
      have ht := h1.torn pre c _ hc (fun e => by have := congrArg List.length e; simp at this; omega)
      rw [ht]
      exact he _ _ _
    · have hc : ∃ c2, c = b1 ++ c2 ∧ b2 = c2 ++ d := by
        refine ⟨c.drop b1.length, ?_, ?_⟩
        · have h3 : b1 = c.take b1.length := by
            have h := congrArg (List.take b1.length) hb
            rw [List.take_left' rfl, List.take_append_of_le_length (by omega)] at h
            exact h
          conv => lhs; rw [← List.take_append_drop b1.length c]
          rw [← h3]
        · have h := congrArg (List.drop b1.length) hb
          rw [List.drop_left' rfl, List.drop_append_of_le_length (by omega)] at h
          exact h
      obtain ⟨c2, rfl, hb2⟩ := hc
      have e1 := h1.reads pre c2
      rw [← List.append_assoc, e1]
      simp only
      have := h2.torn (pre ++ b1) c2 d hb2 hd
      rw [show pre.length + b1.length = (pre ++ b1).length by simp]
      exact this
theorem rds_nil {α : Type} (v : α) : Rds (fun _ a => (v, 0, a)) [] v where
  reads := fun pre post => by simp
  torn := fun pre c d hb hd => by
    have := congrArg List.length hb
    have h2 : 0 < d.length := List.length_pos_iff.2 hd
    simp at this
    omega
theorem rds_map {α β : Type} {f : List UInt8 → Nat → α × Nat × Nat} {b : List UInt8} {v : α} (h : Rds f b v) (k : α → β) : Rds (fun s a => (k (f s a).1, (f s a).2)) b (k v) where
  reads := fun pre post => by simp only [h.reads pre post]
  torn := fun pre c d hb hd => h.torn pre c d hb hd
theorem rds_num (x n : Nat) (h : x < 256 ^ n) : Rds (fun s a => (ofBe (rdRaw 0 s a n).1, (rdRaw 0 s a n).2)) (be x n) x := by
  have := rds_map (rds_raw (be x n) n (be_len x n)) ofBe
  rwa [ofBe_be n x h] at this
theorem raw_bad5 (n : Nat) (s : List UInt8) (a : Nat) : (rdRaw 5 s a n).2.1 = 5 := by rw [rdRaw_bad 5 s a n (by omega)]
/-- One micro. -/
def rdMic (s : List UInt8) (a : Nat) : Mic × Nat × Nat :=
  let x := rdRaw 0 s a 1
  let y := if 128 ≤ ofBe x.1 then ([], x.2) else rdRaw x.2.1 s x.2.2 2
  (⟨decide (128 ≤ ofBe x.1), ofBe x.1 % 128, ofBe y.1⟩, y.2)
theorem rds_mic (m : Mic) (hg : micBad m = false) (hv : m.v < 65536) : Rds rdMic (micBytes m) m := by
  obtain ⟨rd, key, v⟩ := m
  have hk : key < 8 := by unfold micBad at hg; simp at hg; omega
  cases rd
  · have h1 := rds_raw (be key 1) 1 (be_len key 1)
    have h2 := rds_raw (be v 2) 2 (be_len v 2)
    have e1 := ofBe_be 1 key (by omega)
    have e2 := ofBe_be 2 v hv
    have := rds_seq (k := fun x y => (⟨decide (128 ≤ ofBe x), ofBe x % 128, ofBe y⟩ : Mic)) (g := fun x e s a => if 128 ≤ ofBe x then ([], e, a) else rdRaw e s a 2) h1 (by
      have hn : ¬ 128 ≤ ofBe (be key 1) := by omega
      simp only [if_neg hn]
      exact h2) (fun x s a => by split; rfl; exact raw_bad5 2 s a)
    rw [e1, e2] at this
    have hm : (⟨decide (128 ≤ key), key % 128, v⟩ : Mic) = ⟨false, key, v⟩ := by
      rw [decide_eq_false (by omega), Nat.mod_eq_of_lt (by omega)]
    rw [hm] at this
    exact this
  · have hv0 : v = 0 := by unfold micBad at hg; simp at hg; omega
    subst hv0
    have h1 := rds_raw (be (key + 128) 1) 1 (be_len _ 1)
    have e1 := ofBe_be 1 (key + 128) (by omega)
    have := rds_seq (k := fun x y => (⟨decide (128 ≤ ofBe x), ofBe x % 128, ofBe y⟩ : Mic)) (g := fun x e s a => if 128 ≤ ofBe x then ([], e, a) else rdRaw e s a 2) h1 (by
      have hn : 128 ≤ ofBe (be (key + 128) 1) := by omega
      simp only [if_pos hn]
      exact rds_nil ([] : List UInt8)) (fun x s a => by split; rfl; exact raw_bad5 2 s a)
    rw [e1, List.append_nil] at this
    have hm : (⟨decide (128 ≤ key + 128), (key + 128) % 128, ofBe []⟩ : Mic) = ⟨true, key, 0⟩ := by
      rw [decide_eq_true (by omega)]
      have : (key + 128) % 128 = key := by omega
      rw [this]; rfl
    rw [hm] at this
    exact this
theorem rds_mics : ∀ l : List Mic, l.any micBad = false → (∀ m ∈ l, m.v < 65536) → Rds (fun s a => rdMics l.length 0 s a) (l.flatMap micBytes) l
  | [], _, _ => rds_nil []
  | m :: l, hg, hv => by
    simp only [List.any_cons, Bool.or_eq_false_iff] at hg
    have h1 := rds_mic m hg.1 (hv m (by simp))
    have h2 := rds_mics l hg.2 (fun k hk => hv k (by simp [hk]))
    have := rds_seq (k := fun m l => m :: l) (g := fun _ e s a => rdMics l.length e s a) h1 h2 (fun _ s a => by
      cases l with
      | nil => rfl
      | cons k l => simp [rdMics])
    simpa [rdMics, rdMic] using this
theorem rds_txn (l : List Mic) (hl : l.length < 256) (hg : l.any micBad = false) (hv : ∀ m ∈ l, m.v < 65536) : Rds (rdTxn 0) (be l.length 1 ++ l.flatMap micBytes) l := by
  have h1 := rds_num l.length 1 (by simpa using hl)
  have := rds_seq (k := fun _ (l : List Mic) => l) (g := fun n e s a => rdMics n e s a) h1 (rds_mics l hg hv) (fun n s a => by
    cases n with
    | zero => rfl
    | succ n => simp [rdMics])
  exact this
theorem flat2_at : ∀ (l : List Nat) (i : Nat) (h : i < l.length), ((l.flatMap fun n => be n 2).drop (2 * i)).take 2 = be l[i] 2
  | n :: l, 0, _ => by
    simp only [List.flatMap_cons, Nat.mul_zero, List.drop_zero, List.getElem_cons_zero]
    exact List.take_left' (be_len n 2)
  | n :: l, i + 1, h => by
    simp only [List.flatMap_cons, List.getElem_cons_succ]
    rw [show 2 * (i + 1) = (be n 2).length + 2 * i by rw [be_len]; omega, List.drop_append_of_le_length' ]
    exact flat2_at l i (by simpa using h)
where
  List.drop_append_of_le_length' {α : Type} {a b : List α} {k : Nat} : (a ++ b).drop (a.length + k) = b.drop k := by
    rw [List.drop_append]; simp
theorem nums_at (pre post : List UInt8) (l : List Nat) (hv : ∀ n ∈ l, n < 65536) (a : Nat) (ha : pre.length = a) : rdNums (pre ++ (l.flatMap fun n => be n 2) ++ post) a l.length = l := by
  subst ha
  unfold rdNums
  apply List.ext_getElem
  · simp
  · intro i h1 h2
    have hi : i < l.length := by simpa using h1
    simp only [List.getElem_map, List.getElem_range]
    have e1 : (pre ++ (l.flatMap fun n => be n 2) ++ post).drop (pre.length + 2 * i) = ((l.flatMap fun n => be n 2).drop (2 * i)) ++ post := by
      rw [List.append_assoc, ← List.drop_drop, List.drop_left' rfl, List.drop_append_of_le_length (by rw [flat2_len]; omega)]
    rw [e1, List.take_append_of_le_length (by rw [List.length_drop, flat2_len]; omega), flat2_at l i hi]
    exact ofBe_be 2 _ (hv _ (List.getElem_mem hi))
theorem rds_list (l : List Nat) (hl : l.length < 256) (hv : ∀ n ∈ l, n < 65536) : Rds (rdList 0) (listBytes l) l where
  reads := fun pre post => by
    have hb : listBytes l = UInt8.ofNat l.length :: (l.flatMap fun n => be n 2) := by simp [listBytes, be_one']
    have hlen : (listBytes l).length = 1 + 2 * l.length := listBytes_len' l
    have hg : ((pre ++ listBytes l ++ post).getD pre.length 0).toNat = l.length := by
      rw [hb]
      simp [List.getD_eq_getElem?_getD, List.getElem?_append_right]
      omega
    unfold rdList
    rw [if_neg (by simp), if_neg (by simp [hlen]), hg, if_neg (by simp [hlen]; omega)]
    have hn := nums_at (pre ++ [UInt8.ofNat l.length]) post l hv (pre.length + 1) (by simp)
    rw [show pre ++ [UInt8.ofNat l.length] ++ (l.flatMap fun n => be n 2) ++ post = pre ++ listBytes l ++ post by rw [hb]; simp] at hn
    rw [hn, hlen]
    congr 2
    omega
  torn := fun pre c d hb hd => by
    have hd2 : 0 < d.length := List.length_pos_iff.2 hd
    have hlen : c.length + d.length = 1 + 2 * l.length := by rw [← List.length_append, ← hb]; exact listBytes_len' l
    unfold rdList
    rw [if_neg (by simp)]
    cases c with
    | nil => rw [if_pos (by simp)]
    | cons y c =>
      have hy : y = UInt8.ofNat l.length := by
        have hb2 : listBytes l = UInt8.ofNat l.length :: (l.flatMap fun n => be n 2) := by simp [listBytes, be_one']
        rw [hb2] at hb
        exact (List.cons.inj hb).1.symm
      have hg : ((pre ++ y :: c).getD pre.length 0).toNat = l.length := by
        rw [hy]
        simp [List.getD_eq_getElem?_getD, List.getElem?_append_right]
        omega
      rw [if_neg (by simp), hg, if_pos (by simp at hlen ⊢; omega)]
where
  listBytes_len' (l : List Nat) : (listBytes l).length = 1 + 2 * l.length := by unfold listBytes; rw [List.length_append, be_len, flat2_len]
theorem rdList_five (s : List UInt8) (a : Nat) : (rdList 5 s a).2.1 = 5 := by simp [rdList]
theorem rds_lists : ∀ ls : List (List Nat), (∀ l ∈ ls, l.length < 256 ∧ ∀ n ∈ l, n < 65536) → Rds (fun s a => rdLists ls.length 0 s a) (ls.flatMap listBytes) ls
  | [], _ => rds_nil []
  | l :: ls, h => by
    have h1 := rds_list l (h l (by simp)).1 (h l (by simp)).2
    have h2 := rds_lists ls (fun k hk => h k (by simp [hk]))
    have := rds_seq (k := fun m l => m :: l) (g := fun _ e s a => rdLists ls.length e s a) h1 h2 (fun _ s a => by
      cases ls with
      | nil => rfl
      | cons k l => simp [rdLists])
    simpa [rdLists] using this
theorem rds_reads (ls : List (List Nat)) (hl : ls.length < 256) (h : ∀ l ∈ ls, l.length < 256 ∧ ∀ n ∈ l, n < 65536) : Rds (rdReads 0) (be ls.length 1 ++ ls.flatMap listBytes) ls := by
  have h1 := rds_num ls.length 1 (by simpa using hl)
  have := rds_seq (k := fun _ (l : List (List Nat)) => l) (g := fun n e s a => rdLists n e s a) h1 (rds_lists ls h) (fun n s a => by
    cases n with
    | zero => rfl
    | succ n => simp [rdLists])
  exact this
def q2 (e : Nat) (s : List UInt8) (a : Nat) : (List UInt8 × List UInt8) × Nat × Nat := let d := rdRaw e s a 2; let f := rdRaw d.2.1 s d.2.2 4; ((d.1, f.1), f.2)
def q3 (e : Nat) (s : List UInt8) (a : Nat) : (List UInt8 × List UInt8 × List UInt8) × Nat × Nat := let d := rdRaw e s a 1; let f := q2 d.2.1 s d.2.2; ((d.1, f.1), f.2)
def q4 (e : Nat) (s : List UInt8) (a : Nat) : (List UInt8 × List UInt8 × List UInt8 × List UInt8) × Nat × Nat := let d := rdRaw e s a 1; let f := q3 d.2.1 s d.2.2; ((d.1, f.1), f.2)
def q5 (e : Nat) (s : List UInt8) (a : Nat) : (List UInt8 × List UInt8 × List UInt8 × List UInt8 × List UInt8) × Nat × Nat := let d := rdRaw e s a 1; let f := q4 d.2.1 s d.2.2; ((d.1, f.1), f.2)
theorem q2_bad (s : List UInt8) (a : Nat) : (q2 5 s a).2.1 = 5 := by simp [q2, rdRaw_bad]
theorem q3_bad (s : List UInt8) (a : Nat) : (q3 5 s a).2.1 = 5 := by simp [q3, rdRaw_bad, q2_bad]
theorem q4_bad (s : List UInt8) (a : Nat) : (q4 5 s a).2.1 = 5 := by simp [q4, rdRaw_bad, q3_bad]
theorem bits_of (a b c : Bool) : ((bitsOf a b c % 2 == 1) = a ∧ (bitsOf a b c / 2 % 2 == 1) = b ∧ (bitsOf a b c / 4 % 2 == 1) = c) ∧ bitsOf a b c < 256 := by cases a <;> cases b <;> cases c <;> decide
theorem rds_cfg (g : Cfg) (hm : cfgMay g = true) : Rds (rdCfg 0) (cfgBytes g) g := by
  obtain ⟨m, o1, o2, o3, pa, cu, me⟩ := g
  unfold cfgMay at hm
  simp only [Bool.and_eq_true, decide_eq_true_eq] at hm
  obtain ⟨⟨⟨hm1, hm2, hm3⟩, hm4, hm5⟩, hm6, hm7⟩ := hm
  obtain ⟨n1, rfl⟩ := Int.eq_ofNat_of_zero_le (show 0 ≤ o1 by omega)
  obtain ⟨n2, rfl⟩ := Int.eq_ofNat_of_zero_le (show 0 ≤ o2 by omega)
  obtain ⟨n3, rfl⟩ := Int.eq_ofNat_of_zero_le (show 0 ≤ o3 by omega)
  have h2 : Rds (q2 0) (be n2 2 ++ be n3 4) (be n2 2, be n3 4) := rds_seq (k := fun x y => (x, y)) (g := fun _ e s a => rdRaw e s a 4) (rds_raw _ 2 (be_len _ 2)) (rds_raw _ 4 (be_len _ 4)) (fun _ s a => raw_bad5 4 s a)
  have h3 : Rds (q3 0) (be n1 1 ++ (be n2 2 ++ be n3 4)) (be n1 1, be n2 2, be n3 4) := rds_seq (k := fun x y => (x, y)) (g := fun _ e s a => q2 e s a) (rds_raw _ 1 (be_len _ 1)) h2 (fun _ s a => q2_bad s a)
  have h4 : Rds (q4 0) (be (bitsOf pa cu me) 1 ++ (be n1 1 ++ (be n2 2 ++ be n3 4))) (be (bitsOf pa cu me) 1, be n1 1, be n2 2, be n3 4) := rds_seq (k := fun x y => (x, y)) (g := fun _ e s a => q3 e s a) (rds_raw _ 1 (be_len _ 1)) h3 (fun _ s a => q3_bad s a)
  have h5 : Rds (q5 0) (be m 1 ++ (be (bitsOf pa cu me) 1 ++ (be n1 1 ++ (be n2 2 ++ be n3 4)))) (be m 1, be (bitsOf pa cu me) 1, be n1 1, be n2 2, be n3 4) := rds_seq (k := fun x y => (x, y)) (g := fun _ e s a => q4 e s a) (rds_raw _ 1 (be_len _ 1)) h4 (fun _ s a => q4_bad s a)
  have h := rds_map h5 (fun y => (⟨ofBe y.1, ofBe y.2.2.1, ofBe y.2.2.2.1, ofBe y.2.2.2.2, ofBe y.2.1 % 2 == 1, ofBe y.2.1 / 2 % 2 == 1, ofBe y.2.1 / 4 % 2 == 1⟩ : Cfg))
  obtain ⟨⟨b1, b2, b4⟩, bl⟩ := bits_of pa cu me
  simp only at h
  rw [ofBe_be 1 m (by omega), ofBe_be 1 n1 (by omega), ofBe_be 2 n2 (by omega), ofBe_be 4 n3 (by omega), ofBe_be 1 _ (by simpa using bl), b1, b2, b4] at h
  have hb : cfgBytes ⟨m, n1, n2, n3, pa, cu, me⟩ = be m 1 ++ (be (bitsOf pa cu me) 1 ++ (be n1 1 ++ (be n2 2 ++ be n3 4))) := by simp [cfgBytes, List.append_assoc]
  rw [hb]
  exact h
/-- An answer: its kind and number, before they are checked. -/
def rdRes (s : List UInt8) (a : Nat) : (Nat × Nat) × Nat × Nat :=
  let x := rdRaw 0 s a 1
  let y := if ofBe x.1 = 1 then rdRaw x.2.1 s x.2.2 2 else ([], x.2)
  ((ofBe x.1, ofBe y.1), y.2)
theorem rds_res (K V : Nat) (hg : goodB K V = true) (hV : V < 65536) : Rds rdRes (resBytes K V) (K, V) := by
  have hK : K ≤ 4 := by unfold goodB at hg; simp at hg; omega
  by_cases hk : K = 1
  · subst hk
    have h1 := rds_raw (be 1 1) 1 (be_len _ 1)
    have h2 := rds_raw (be V 2) 2 (be_len _ 2)
    have e1 := ofBe_be 1 1 (by omega)
    have e2 := ofBe_be 2 V hV
    have := rds_seq (k := fun x y => (ofBe x, ofBe y)) (g := fun x e s a => if ofBe x = 1 then rdRaw e s a 2 else ([], e, a)) h1 (by
      simp only [if_pos e1]; exact h2) (fun x s a => by split; exact raw_bad5 2 s a; rfl)
    rw [e1, e2] at this
    rw [show resBytes 1 V = be 1 1 ++ be V 2 from if_pos rfl]
    exact this
  · have hv0 : V = 0 := by unfold goodB at hg; simp at hg; omega
    subst hv0
    have h1 := rds_raw (be K 1) 1 (be_len _ 1)
    have e1 := ofBe_be 1 K (by omega)
    have := rds_seq (k := fun x y => (ofBe x, ofBe y)) (g := fun x e s a => if ofBe x = 1 then rdRaw e s a 2 else ([], e, a)) h1 (by
      simp only [if_neg (show ¬ ofBe (be K 1) = 1 by omega)]; exact rds_nil ([] : List UInt8)) (fun x s a => by split; exact raw_bad5 2 s a; rfl)
    rw [e1, List.append_nil] at this
    rw [show resBytes K 0 = be K 1 from if_neg hk]
    exact this
theorem takeRes_rd (s : List UInt8) (a : Nat) : takeRes 0 s a = ((if (rdRes s a).2.1 ≠ 0 then (0, 0, (rdRes s a).2.1) else if goodB (rdRes s a).1.1 (rdRes s a).1.2 then ((rdRes s a).1.1, (rdRes s a).1.2, 0) else (0, 0, 4)), (rdRes s a).2) := rfl
end Go.Proofs.YtdjjjnoecfbjeaaDoor
