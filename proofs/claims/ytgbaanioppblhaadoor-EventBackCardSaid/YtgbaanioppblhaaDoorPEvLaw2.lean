/- Of an event that may be: its bytes are read as it; a beginning of them is torn; with a byte behind they are none. Plain. -/
import Derived.Test.YtgbaanioppblhaaDoorPEvLaw
import Derived.Test.YtgbaanioppblhaaDoorPEvTakeE
set_option linter.all false
set_option linter.unusedVariables false
set_option linter.unusedSimpArgs false
set_option linter.unnecessarySimpa false
/- Of an event that may be: its bytes are read as it; a beginning of them is torn; with a byte behind they are none. Plain. -/
namespace Go.Proofs.YtgbaanioppblhaaDoor
open Go.RowKit

def rdHead (s : List UInt8) (a : Nat) : (Nat × Nat) × Nat × Nat :=
  let x := rdRaw 0 s a 1
  let y := rdRaw x.2.1 s x.2.2 2
  ((ofBe x.1, ofBe y.1), y.2)
theorem rds_head (c i : Nat) (hc : c < 256) (hi : i < 65536) : Rds rdHead (be c 1 ++ be i 2) (c, i) := by
  have := rds_seq (k := fun x y => (ofBe x, ofBe y)) (g := fun _ e s a => rdRaw e s a 2) (rds_raw (be c 1) 1 (be_len _ 1)) (rds_raw (be i 2) 2 (be_len _ 2)) (fun _ s a => raw_bad5 2 s a)
  rw [ofBe_be 1 c (by omega), ofBe_be 2 i hi] at this
  exact this
theorem rdBody_five (x : Ev) (s : List UInt8) (a : Nat) : (rdBody x 5 s a).2 = 5 := by
  unfold rdBody
  split
  · show (rdCfg 5 s a).2.1 = 5
    simp [rdCfg, rdRaw_bad]
  · split
    · simp [rdOp]
    · split
      · simp [takeRes, rdRaw_bad, ofBe]
      · split
        · simp [rdTxn, rdRaw_bad, ofBe, rdMics]
        · split
          · simp [rdReads, rdRaw_bad, ofBe, rdLists]
          · rfl
/-- An event as its header has it. -/
def Ev.bare (x : Ev) : Ev := if x.kind = 1 then { Ev.zero with kind := x.kind } else { Ev.zero with kind := x.kind, client := x.client, id := x.id }
theorem needed_of {x : Ev} (hm : x.may = true) : x = x.needed := by
  unfold Ev.may at hm
  simp only [Bool.and_eq_true, decide_eq_true_eq] at hm
  exact hm.2
theorem client_of {x : Ev} (hm : x.may = true) : x.client < 16 := by
  unfold Ev.may at hm
  simp only [Bool.and_eq_true, decide_eq_true_eq] at hm
  exact hm.1.2
theorem kind_range {x : Ev} (hm : x.may = true) : 1 ≤ x.kind ∧ x.kind ≤ 7 := by
  have hkm := kindMay_of hm
  refine Classical.byContradiction fun h => ?_
  have h1 : x.kind ≠ 1 := by omega
  have h2 : x.kind ≠ 2 := by omega
  have h3 : x.kind ≠ 3 := by omega
  have h4 : x.kind ≠ 4 := by omega
  have h5 : x.kind ≠ 5 := by omega
  have h6 : x.kind ≠ 6 := by omega
  have h7 : x.kind ≠ 7 := by omega
  simp [Ev.kindMay, h1, h2, h3, h4, h5, h6, h7] at hkm
theorem txn_facts {l : List Mic} (h : txnMay l = true) : l.length ≤ 8 ∧ l.any micBad = false := by
  unfold txnMay at h
  simp only [Bool.and_eq_true, decide_eq_true_eq, Bool.not_eq_true'] at h
  exact ⟨h.1.2, h.2⟩
theorem reads_facts {l : List (List Nat)} (h : readsMay l = true) : l.length ≤ 8 ∧ ∀ k ∈ l, k.length ≤ 32 := by
  unfold readsMay at h
  simp only [Bool.and_eq_true, decide_eq_true_eq, Bool.not_eq_true'] at h
  refine ⟨h.1, fun k hk => ?_⟩
  have := List.any_eq_false.1 h.2 k hk
  unfold listBad at this
  simpa using this
theorem body_whole (x : Ev) (ok : x.Ok) (hm : x.may = true) (pre : List UInt8) : rdBody x.bare 0 (pre ++ x.tail) pre.length = (x, 0) := by
  have hkm := kindMay_of hm
  have hn := needed_of hm
  have hk := kind_range hm
  have hp : ∀ b : List UInt8, pre ++ b = pre ++ b ++ [] := fun b => by simp
  rcases (show x.kind = 1 ∨ x.kind = 2 ∨ x.kind = 3 ∨ x.kind = 4 ∨ x.kind = 5 ∨ x.kind = 6 ∨ x.kind = 7 by omega) with h | h | h | h | h | h | h
  · simp only [Ev.kindMay, h, if_true] at hkm
    rw [show x.tail = cfgBytes x.cfg by simp [Ev.tail, h], hp]
    have hr := (rds_cfg x.cfg hkm).reads pre []
    rw [show rdBody x.bare 0 (pre ++ cfgBytes x.cfg ++ []) pre.length = ({ x.bare with cfg := (rdCfg 0 (pre ++ cfgBytes x.cfg ++ []) pre.length).1 }, (rdCfg 0 (pre ++ cfgBytes x.cfg ++ []) pre.length).2.1) by simp [rdBody, Ev.bare, h], hr]
    have e : ({ x.bare with cfg := x.cfg } : Ev) = x := by
      have e2 : ({ x.bare with cfg := x.cfg } : Ev) = x.needed := by simp [Ev.bare, Ev.needed, h]
      rw [e2, ← hn]
    show (({ x.bare with cfg := x.cfg } : Ev), 0) = (x, 0)
    rw [e]
  · simp only [Ev.kindMay, h] at hkm
    rw [show x.tail = opBytes x.op.F x.op.O x.op.K x.op.A x.op.B by simp [Ev.tail, h]]
    have hr := takeOp_whole x.op ⟨ok.F, ok.O, ok.K, ok.A, ok.B⟩ (by simpa using hkm)
    have hd : rdOp 0 (pre ++ opBytes x.op.F x.op.O x.op.K x.op.A x.op.B) pre.length = (x.op, 0) := by
      unfold rdOp
      rw [if_neg (by simp), List.drop_left' rfl, hr]
      simp
    rw [show ∀ s, rdBody x.bare 0 s pre.length = ({ x.bare with op := (rdOp 0 s pre.length).1 }, (rdOp 0 s pre.length).2) from fun s => by simp [rdBody, Ev.bare, h], hd]
    have e : ({ x.bare with op := x.op } : Ev) = x := by
      have e2 : ({ x.bare with op := x.op } : Ev) = x.needed := by simp [Ev.bare, Ev.needed, h]
      rw [e2, ← hn]
    show (({ x.bare with op := x.op } : Ev), 0) = (x, 0)
    rw [e]
  · simp only [Ev.kindMay, h] at hkm
    have hg : goodB x.rk x.rv = true := by simpa using hkm
    rw [show x.tail = resBytes x.rk x.rv by simp [Ev.tail, h], hp]
    have hr := (rds_res x.rk x.rv hg ok.rv).reads pre []
    have ht := takeRes_rd (pre ++ resBytes x.rk x.rv ++ []) pre.length
    rw [hr] at ht
    simp only [ne_eq, not_true_eq_false, if_false, hg, if_true] at ht
    rw [show ∀ s, rdBody x.bare 0 s pre.length = ({ x.bare with rk := (takeRes 0 s pre.length).1.1, rv := (takeRes 0 s pre.length).1.2.1 }, (takeRes 0 s pre.length).1.2.2) from fun s => by simp [rdBody, Ev.bare, h], ht]
    have e : ({ x.bare with rk := x.rk, rv := x.rv } : Ev) = x := by
      have e2 : ({ x.bare with rk := x.rk, rv := x.rv } : Ev) = x.needed := by simp [Ev.bare, Ev.needed, h]
      rw [e2, ← hn]
    show (({ x.bare with rk := x.rk, rv := x.rv } : Ev), 0) = (x, 0)
    rw [e]
  · rw [show ∀ s, rdBody x.bare 0 s pre.length = (x.bare, 0) from fun s => by simp [rdBody, Ev.bare, h]]
    have e : (x.bare) = x := by
      have e2 : (x.bare) = x.needed := by simp [Ev.bare, Ev.needed, h]
      rw [e2, ← hn]
    show ((x.bare), 0) = (x, 0)
    rw [e]
  · simp only [Ev.kindMay, h] at hkm
    obtain ⟨h8, hg⟩ := txn_facts (l := x.txn) (by simpa using hkm)
    rw [show x.tail = be x.txn.length 1 ++ x.txn.flatMap micBytes by simp [Ev.tail, h], hp]
    have hr := (rds_txn x.txn (by omega) hg (fun m hm => (ok.txn m hm).2)).reads pre []
    rw [show ∀ s, rdBody x.bare 0 s pre.length = ({ x.bare with txn := (rdTxn 0 s pre.length).1 }, (rdTxn 0 s pre.length).2.1) from fun s => by simp [rdBody, Ev.bare, h], hr]
    have e : ({ x.bare with txn := x.txn } : Ev) = x := by
      have e2 : ({ x.bare with txn := x.txn } : Ev) = x.needed := by simp [Ev.bare, Ev.needed, h]
      rw [e2, ← hn]
    show (({ x.bare with txn := x.txn } : Ev), 0) = (x, 0)
    rw [e]
  · simp only [Ev.kindMay, h] at hkm
    obtain ⟨h8, hg⟩ := reads_facts (l := x.reads) (by simpa using hkm)
    rw [show x.tail = be x.reads.length 1 ++ x.reads.flatMap listBytes by simp [Ev.tail, h], hp]
    have hr := (rds_reads x.reads (by omega) (fun l hl => ⟨by have := hg l hl; omega, ok.reads l hl⟩)).reads pre []
    rw [show ∀ s, rdBody x.bare 0 s pre.length = ({ x.bare with reads := (rdReads 0 s pre.length).1 }, (rdReads 0 s pre.length).2.1) from fun s => by simp [rdBody, Ev.bare, h], hr]
    have e : ({ x.bare with reads := x.reads } : Ev) = x := by
      have e2 : ({ x.bare with reads := x.reads } : Ev) = x.needed := by simp [Ev.bare, Ev.needed, h]
      rw [e2, ← hn]
    show (({ x.bare with reads := x.reads } : Ev), 0) = (x, 0)
    rw [e]
  · rw [show ∀ s, rdBody x.bare 0 s pre.length = (x.bare, 0) from fun s => by simp [rdBody, Ev.bare, h]]
    have e : (x.bare) = x := by
      have e2 : (x.bare) = x.needed := by simp [Ev.bare, Ev.needed, h]
      rw [e2, ← hn]
    show ((x.bare), 0) = (x, 0)
    rw [e]
theorem body_torn (x : Ev) (ok : x.Ok) (hm : x.may = true) (pre c d : List UInt8) (hb : x.tail = c ++ d) (hd : d ≠ []) : (rdBody x.bare 0 (pre ++ c) pre.length).2 = 5 := by
  have hkm := kindMay_of hm
  have hk := kind_range hm
  have hd2 : 0 < d.length := List.length_pos_iff.2 hd
  rcases (show x.kind = 1 ∨ x.kind = 2 ∨ x.kind = 3 ∨ x.kind = 4 ∨ x.kind = 5 ∨ x.kind = 6 ∨ x.kind = 7 by omega) with h | h | h | h | h | h | h
  · simp only [Ev.kindMay, h, if_true] at hkm
    rw [show x.tail = cfgBytes x.cfg by simp [Ev.tail, h]] at hb
    rw [show ∀ s, rdBody x.bare 0 s pre.length = ({ x.bare with cfg := (rdCfg 0 s pre.length).1 }, (rdCfg 0 s pre.length).2.1) from fun s => by simp [rdBody, Ev.bare, h]]
    exact (rds_cfg x.cfg hkm).torn pre c d hb hd
  · simp only [Ev.kindMay, h] at hkm
    rw [show x.tail = opBytes x.op.F x.op.O x.op.K x.op.A x.op.B by simp [Ev.tail, h]] at hb
    rw [show ∀ s, rdBody x.bare 0 s pre.length = ({ x.bare with op := (rdOp 0 s pre.length).1 }, (rdOp 0 s pre.length).2) from fun s => by simp [rdBody, Ev.bare, h]]
    have hr := takeOp_pre x.op ⟨ok.F, ok.O, ok.K, ok.A, ok.B⟩ (by simpa using hkm) c d hb hd
    unfold rdOp
    rw [if_neg (by simp), List.drop_left' rfl, hr]
    simp
  · simp only [Ev.kindMay, h] at hkm
    have hg : goodB x.rk x.rv = true := by simpa using hkm
    rw [show x.tail = resBytes x.rk x.rv by simp [Ev.tail, h]] at hb
    rw [show ∀ s, rdBody x.bare 0 s pre.length = ({ x.bare with rk := (takeRes 0 s pre.length).1.1, rv := (takeRes 0 s pre.length).1.2.1 }, (takeRes 0 s pre.length).1.2.2) from fun s => by simp [rdBody, Ev.bare, h]]
    have hr := (rds_res x.rk x.rv hg ok.rv).torn pre c d hb hd
    rw [takeRes_rd, hr]
    simp
  · rw [show x.tail = [] by simp [Ev.tail, h]] at hb
    have := congrArg List.length hb
    simp at this
    omega
  · simp only [Ev.kindMay, h] at hkm
    obtain ⟨h8, hg⟩ := txn_facts (l := x.txn) (by simpa using hkm)
    rw [show x.tail = be x.txn.length 1 ++ x.txn.flatMap micBytes by simp [Ev.tail, h]] at hb
    rw [show ∀ s, rdBody x.bare 0 s pre.length = ({ x.bare with txn := (rdTxn 0 s pre.length).1 }, (rdTxn 0 s pre.length).2.1) from fun s => by simp [rdBody, Ev.bare, h]]
    exact (rds_txn x.txn (by omega) hg (fun m hm => (ok.txn m hm).2)).torn pre c d hb hd
  · simp only [Ev.kindMay, h] at hkm
    obtain ⟨h8, hg⟩ := reads_facts (l := x.reads) (by simpa using hkm)
    rw [show x.tail = be x.reads.length 1 ++ x.reads.flatMap listBytes by simp [Ev.tail, h]] at hb
    rw [show ∀ s, rdBody x.bare 0 s pre.length = ({ x.bare with reads := (rdReads 0 s pre.length).1 }, (rdReads 0 s pre.length).2.1) from fun s => by simp [rdBody, Ev.bare, h]]
    exact (rds_reads x.reads (by omega) (fun l hl => ⟨by have := hg l hl; omega, ok.reads l hl⟩)).torn pre c d hb hd
  · rw [show x.tail = [] by simp [Ev.tail, h]] at hb
    have := congrArg List.length hb
    simp at this
    omega
theorem bytes_cons (x : Ev) : x.bytes = UInt8.ofNat x.kind :: ((if x.kind = 1 then [] else be x.client 1 ++ be x.id 2) ++ x.tail) := by
  unfold Ev.bytes Ev.head
  split <;> simp [be_one']
theorem rdEv_head (k : Nat) (s : List UInt8) (h : k ≠ 1) : rdEv k s = rdBody { Ev.zero with kind := k, client := (rdHead s 1).1.1, id := (rdHead s 1).1.2 } (rdHead s 1).2.1 s (rdHead s 1).2.2 := by
  unfold rdEv
  rw [if_neg h]
  rfl
theorem kindByte {x : Ev} (hm : x.may = true) : (UInt8.ofNat x.kind).toNat = x.kind := by have := kind_range hm; simp; omega
theorem rdEv_whole (x : Ev) (ok : x.Ok) (hm : x.may = true) : rdEv x.kind x.bytes = (x, 0) := by
  rw [bytes_cons]
  by_cases h : x.kind = 1
  · have := body_whole x ok hm [UInt8.ofNat x.kind]
    unfold rdEv
    rw [if_pos h, if_pos h]
    simpa [Ev.bare, h] using this
  · rw [rdEv_head _ _ h, if_neg h]
    have hr : rdHead ([UInt8.ofNat x.kind] ++ (be x.client 1 ++ be x.id 2) ++ x.tail) 1 = ((x.client, x.id), 0, 1 + (be x.client 1 ++ be x.id 2).length) := (rds_head x.client x.id ok.client ok.id).reads [UInt8.ofNat x.kind] x.tail
    have hw := body_whole x ok hm (UInt8.ofNat x.kind :: (be x.client 1 ++ be x.id 2))
    rw [show UInt8.ofNat x.kind :: (be x.client 1 ++ be x.id 2 ++ x.tail) = [UInt8.ofNat x.kind] ++ (be x.client 1 ++ be x.id 2) ++ x.tail by simp, hr]
    simp only [Ev.bare, if_neg h] at hw
    simpa [be_len] using hw
theorem rdEv_torn (x : Ev) (ok : x.Ok) (hm : x.may = true) (c d : List UInt8) (hb : x.bytes = (UInt8.ofNat x.kind :: c) ++ d) (hd : d ≠ []) : (rdEv x.kind (UInt8.ofNat x.kind :: c)).2 = 5 := by
  rw [bytes_cons] at hb
  simp only [List.cons_append, List.cons.injEq, true_and] at hb
  by_cases h : x.kind = 1
  · rw [if_pos h, List.nil_append] at hb
    have := body_torn x ok hm [UInt8.ofNat x.kind] c d hb hd
    unfold rdEv
    rw [if_pos h]
    simpa [Ev.bare, h] using this
  · rw [if_neg h] at hb
    rw [rdEv_head _ _ h]
    rcases pre_split hb hd with ⟨d1, hd1, hb1⟩ | ⟨c2, rfl, hb2⟩
    · have hr : (rdHead ([UInt8.ofNat x.kind] ++ c) 1).2.1 = 5 := (rds_head x.client x.id ok.client ok.id).torn [UInt8.ofNat x.kind] c d1 hb1 hd1
      rw [show UInt8.ofNat x.kind :: c = [UInt8.ofNat x.kind] ++ c from rfl, hr]
      exact rdBody_five _ _ _
    · have hr : rdHead ([UInt8.ofNat x.kind] ++ (be x.client 1 ++ be x.id 2) ++ c2) 1 = ((x.client, x.id), 0, 1 + (be x.client 1 ++ be x.id 2).length) := (rds_head x.client x.id ok.client ok.id).reads [UInt8.ofNat x.kind] c2
      have hw := body_torn x ok hm (UInt8.ofNat x.kind :: (be x.client 1 ++ be x.id 2)) c2 d hb2 hd
      rw [show UInt8.ofNat x.kind :: (be x.client 1 ++ be x.id 2 ++ c2) = [UInt8.ofNat x.kind] ++ (be x.client 1 ++ be x.id 2) ++ c2 by simp, hr]
      simp only [Ev.bare, if_neg h] at hw
      simpa [be_len] using hw
theorem put_of {x : Ev} (hm : x.may = true) : x.put = (x.bytes, 0) := by unfold Ev.put; rw [if_pos hm]
theorem takeEv_kk (kk : UInt8) (s : List UInt8) {x : Ev} (hm : x.may = true) (h : kk = UInt8.ofNat x.kind) : takeEv (kk :: s) = endEv (kk :: s) (rdEv x.kind (kk :: s)) := by
  subst h
  have hk := kind_range hm
  have hb := kindByte hm
  rw [takeEv_cons _ _ (by rw [hb]; omega), hb]
/-- An event's bytes are read as the event. -/
theorem takeEv_bytes (x : Ev) (ok : x.Ok) (hm : x.may = true) : takeEv x.bytes = (x, 0) := by
  have hw := rdEv_whole x ok hm
  rw [bytes_cons] at hw ⊢
  rw [takeEv_kk _ _ hm rfl, hw]
  unfold endEv
  rw [if_neg (by simp), if_pos (by rw [put_of hm, bytes_cons])]
/-- A beginning of them is torn. -/
theorem takeEv_torn (x : Ev) (ok : x.Ok) (hm : x.may = true) (c d : List UInt8) (hb : x.bytes = c ++ d) (hd : d ≠ []) : takeEv c = (.zero, 5) := by
  cases c with
  | nil => rfl
  | cons kk c =>
    have hkk : kk = UInt8.ofNat x.kind := by
      rw [bytes_cons] at hb
      exact (List.cons.inj hb).1.symm
    rw [takeEv_kk kk c hm hkk]
    subst hkk
    have ht := rdEv_torn x ok hm c d hb hd
    unfold endEv
    rw [ht, if_pos (by decide)]
/-- What is read of any bytes has these bytes, and may be. -/
theorem takeEv_ok {s : List UInt8} {y : Ev} (h : takeEv s = (y, 0)) : y.put = (s, 0) := by
  cases s with
  | nil => cases h
  | cons kk s =>
    by_cases hb : kk.toNat < 1 ∨ 7 < kk.toNat
    · rw [show takeEv (kk :: s) = (.zero, 4) from if_pos hb] at h
      cases h
    · rw [takeEv_cons kk s hb] at h
      unfold endEv at h
      split at h
      · rename_i h1
        have := congrArg Prod.snd h
        exact absurd this h1
      · split at h
        · rename_i h1 h2
          cases h
          exact h2
        · cases h
theorem takeEv_no {s : List UInt8} {y : Ev} {e : Nat} (h : takeEv s = (y, e)) (he : e ≠ 0) : y = .zero := by
  cases s with
  | nil => cases h; rfl
  | cons kk s =>
    by_cases hb : kk.toNat < 1 ∨ 7 < kk.toNat
    · rw [show takeEv (kk :: s) = (.zero, 4) from if_pos hb] at h
      cases h; rfl
    · rw [takeEv_cons kk s hb] at h
      unfold endEv at h
      split at h
      · cases h; rfl
      · split at h
        · cases h; exact absurd rfl he
        · cases h; rfl
theorem put_may {y : Ev} {s : List UInt8} (h : y.put = (s, 0)) : y.may = true ∧ y.bytes = s := by
  unfold Ev.put at h
  split at h
  · rename_i hm
    cases h
    exact ⟨hm, rfl⟩
  · cases h
theorem takeEv_okOk {s : List UInt8} : (takeEv s).1.Ok := by
  cases s with
  | nil => exact zero_ok
  | cons kk s =>
    by_cases hb : kk.toNat < 1 ∨ 7 < kk.toNat
    · rw [show takeEv (kk :: s) = (.zero, 4) from if_pos hb]
      exact zero_ok
    · rw [takeEv_cons kk s hb]
      have hkk : kk.toNat < 256 := kk.toNat_lt
      have hok : (rdEv kk.toNat (kk :: s)).1.Ok := by
        unfold rdEv
        split
        · exact rdBody_ok _ _ _ _ { zero_ok with kind := hkk }
        · exact rdBody_ok _ _ _ _ { zero_ok with kind := hkk, client := ofBe1_lt _ _ _, id := ofBe2_lt _ _ _ }
      unfold endEv
      split
      · exact zero_ok
      · split
        · exact hok
        · exact zero_ok
/-- With a byte behind they are none. -/
theorem takeEv_more (x : Ev) (ok : x.Ok) (hm : x.may = true) (b : UInt8) : (takeEv (x.bytes ++ [b])).2 ≠ 0 := fun h => by
  have h1 : takeEv (x.bytes ++ [b]) = ((takeEv (x.bytes ++ [b])).1, 0) := by rw [← h]
  obtain ⟨hm2, hb2⟩ := put_may (takeEv_ok h1)
  have := takeEv_torn _ takeEv_okOk hm2 x.bytes [b] hb2 (by simp)
  rw [takeEv_bytes x ok hm] at this
  cases this
end Go.Proofs.YtgbaanioppblhaaDoor

/- An event's bytes are 600 at most; two that may be have unlike bytes if they are unlike: plain. -/
namespace Go.Proofs.YtgbaanioppblhaaDoor
open Go.RowKit

theorem flat_len_le {α β : Type} (f : α → List β) (k : Nat) : ∀ l : List α, (∀ x ∈ l, (f x).length ≤ k) → (l.flatMap f).length ≤ k * l.length
  | [], _ => by simp
  | x :: l, h => by
    have h1 := h x (by simp)
    have h2 := flat_len_le f k l (fun y hy => h y (by simp [hy]))
    rw [List.flatMap_cons, List.length_append, List.length_cons, Nat.mul_add]
    omega
theorem op_len (F O K A B : Nat) : (opBytes F O K A B).length ≤ 7 := by
  unfold opBytes
  simp only [List.length_append, List.length_cons, List.length_nil]
  have h1 : (if hasK F then [UInt8.ofNat K] else []).length ≤ 1 := by split <;> simp
  have h2 : (if hasA F then be A 2 else []).length ≤ 2 := by split <;> simp [be_len]
  have h3 : (if hasB F then be B 2 else []).length ≤ 2 := by split <;> simp [be_len]
  omega
theorem res_len (K V : Nat) : (resBytes K V).length ≤ 3 := by
  unfold resBytes
  split <;> simp [be_len]
theorem mic_len (m : Mic) : (micBytes m).length ≤ 3 := by
  unfold micBytes
  split <;> simp [be_len]
theorem tail_len {x : Ev} (hm : x.may = true) : x.tail.length ≤ 521 := by
  have hkm := kindMay_of hm
  unfold Ev.tail
  split
  · simp [cfgBytes, be_len]
  · split
    · have := op_len x.op.F x.op.O x.op.K x.op.A x.op.B; omega
    · split
      · have := res_len x.rk x.rv; omega
      · split
        · rename_i h1 h2 h3 h5
          have ht : txnMay x.txn = true := by simpa [Ev.kindMay, h5] using hkm
          have h8 := (txn_facts ht).1
          have := flat_len_le micBytes 3 x.txn (fun m _ => mic_len m)
          rw [List.length_append, be_len]
          omega
        · split
          · rename_i h1 h2 h3 h5 h6
            have ht : readsMay x.reads = true := by simpa [Ev.kindMay, h6] using hkm
            obtain ⟨h8, h9⟩ := reads_facts ht
            have := flat_len_le listBytes 65 x.reads (fun l hl => by have := h9 l hl; rw [listBytes_len]; omega)
            rw [List.length_append, be_len]
            omega
          · simp
theorem bytes_len {x : Ev} (hm : x.may = true) : 0 < x.bytes.length ∧ x.bytes.length ≤ 600 := by
  have h := tail_len hm
  have hh : x.head.length ≤ 4 ∧ 0 < x.head.length := by
    unfold Ev.head
    split <;> simp [be_len]
  unfold Ev.bytes
  rw [List.length_append]
  omega
theorem bytes_inj {x y : Ev} (okx : x.Ok) (oky : y.Ok) (hx : x.may = true) (hy : y.may = true) : x.bytes = y.bytes ↔ x = y := by
  refine ⟨fun h => ?_, fun h => by rw [h]⟩
  have h1 := takeEv_bytes x okx hx
  rw [h, takeEv_bytes y oky hy] at h1
  exact (congrArg Prod.fst h1).symm
/-- What cannot be, by one reason. -/
theorem put_no_may {x : Ev} (h : x.put.2 ≠ 0) : x.put.1 = [] ∧ x.put.2 = 4 ∧ x.check = 4 := by
  unfold Ev.put at h ⊢
  unfold Ev.check
  split
  · rename_i hm
    rw [if_pos hm] at h
    exact absurd rfl h
  · exact ⟨rfl, rfl, rfl⟩
theorem may_of_put {x : Ev} (h : x.put.2 = 0) : x.may = true := by
  unfold Ev.put at h
  split at h
  · assumption
  · cases h
theorem check_of {x : Ev} (hm : x.may = true) : x.check = 0 := by unfold Ev.check; rw [if_pos hm]
end Go.Proofs.YtgbaanioppblhaaDoor
