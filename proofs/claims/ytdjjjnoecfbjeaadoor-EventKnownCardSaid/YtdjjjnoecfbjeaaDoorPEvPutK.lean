/- event's put of each kind: what is written behind what was written. Of events that may be. -/
import Derived.Test.YtdjjjnoecfbjeaaDoorPEvCheck
import Derived.Test.YtdjjjnoecfbjeaaDoorPBase
set_option linter.all false
set_option linter.unusedVariables false
set_option linter.unusedSimpArgs false
set_option linter.unnecessarySimpa false
/- event's put of each kind: what is written behind what was written. Of events that may be. -/
namespace Go.Proofs.YtdjjjnoecfbjeaaDoor
open Go.RowKit

theorem WrAt.lt {w : World} {p : Nat} {v : Value} {l : List UInt8} (h : WrAt w p v l) : p < w.heap.size := lt_of_cell h.e
theorem WrAt.fr {w w' : World} {p : Nat} {v : Value} {l : List UInt8} (h : WrAt w p v l) (f : Fr w w') : WrAt w' p v l where
  e := f.keep h.e
  b := f.keep h.b
  f0 := (f.frozen p 0 h.lt).trans h.f0
  f1 := (f.frozen p 1 h.lt).trans h.f1
  own := h.own.kept (row := none) ⟨f.os, f.tape, f.output, f.size, fun k hk _ => f.block hk⟩ (by cases v.ownBlock <;> simp)
/-- A writer beside a box. -/
structure PutSt (w : World) (p b : Nat) (c : Array Value) (t : TypeId) (l : List UInt8) (wi : World) (v : Value) : Prop where
  wr : WrAt wi p v l
  box : BoxAt wi b c t
  ne : some b ≠ v.ownBlock
  bp : p < b
  bel : Below p w wi
theorem PutSt.start {w : World} {p : Nat} {v : Value} {l : List UInt8} (h : WrAt w p v l) (c : Array Value) (t : TypeId) : PutSt w p w.heap.size c t l (w.alloc (.cells c t)) v where
  wr := h.fr ((Fr.refl w).alloc _)
  box := BoxAt.new w c t
  ne := fun e => by have := (h.own.lt w.heap.size e.symm).2; omega
  bp := h.lt
  bel := (Below.refl p w).alloc (Nat.le_of_lt h.lt) _
theorem PutSt.fr {w wi w' : World} {p b : Nat} {c : Array Value} {t : TypeId} {l : List UInt8} {v : Value} (h : PutSt w p b c t l wi v) (f : Fr wi w') : PutSt w p b c t l w' v where
  wr := h.wr.fr f
  box := h.box.fr f
  ne := h.ne
  bp := h.bp
  bel := h.bel.trans (Below.mono f (Nat.le_of_lt h.wr.lt))
theorem PutSt.alloc {w wi : World} {p b : Nat} {c : Array Value} {t : TypeId} {l : List UInt8} {v : Value} (h : PutSt w p b c t l wi v) (X : Obj) : PutSt w p b c t l (wi.alloc X) v := h.fr ((Fr.refl _).alloc X)
theorem PutSt.step {w wi w' : World} {p b : Nat} {c : Array Value} {t : TypeId} {l l' : List UInt8} {v : Value} (h : PutSt w p b c t l wi v) (k : Wrote p v l' wi w') : ∃ v', PutSt w p b c t l' w' v' := by
  have hb := k.below h.wr
  obtain ⟨v', hw, hc, hl⟩ := k
  refine ⟨v', hw, (hc.block b h.box.lt (by have := h.bp; omega) h.ne).trans h.box, ?_, h.bp, h.bel.trans hb⟩
  rcases hl with hl | ⟨g, hl, hg⟩
  · rw [hl]; exact h.ne
  · rw [hl]; intro e; cases e; have := h.box.lt; omega
/-- What a put leaves. -/
def Put (w : World) (p : Nat) (l : List UInt8) (w' : World) : Prop := ∃ v', WrAt w' p v' l ∧ Below p w w'
theorem PutSt.put {w wi : World} {p b : Nat} {c : Array Value} {t : TypeId} {l : List UInt8} {v : Value} (h : PutSt w p b c t l wi v) : Put w p l wi := ⟨v, h.wr, h.bel⟩

set_option maxRecDepth 100000 in
theorem skip_c (p : Nat) (x : Ev) (v t r : Value) (l : List UInt8) (w : World) (hw : WrAt w p v l) :
    Calls Tryd.prog 73 #[.pointer (some ⟨p, 0, none⟩), x.val t r] w fun e w' => e = .returned (.tuple #[]) ∧ Put w p l w' := by
  have h := (PutSt.start hw (x.cells t r) 32).put
  unfold Ev.cells at h
  unfold Ev.val
  have H := Lib.hid h
  clear h hw
  go_enter Tryd.func73, Tryd.ntmps73
  go_wp2
  go_end0
  exact ⟨rfl, H.out⟩
set_option maxRecDepth 100000 in
theorem putResult_c (p : Nat) (x : Ev) (v t r : Value) (l : List UInt8) (w : World) (hw : WrAt w p v l) (hl : l.length < 50000) (hK : x.rk < 256) (hV : x.rv < 65536) (hg : goodB x.rk x.rv = true) :
    Calls Tryd.prog 69 #[.pointer (some ⟨p, 0, none⟩), x.val t r] w fun e w' => e = .returned (.tuple #[]) ∧ Put w p (l ++ resBytes x.rk x.rv) w' := by
  have h := PutSt.start hw (x.cells t r) 32
  have h1 := fun W => resPut_c x.rk x.rv W hK hV
  unfold putRes at h1
  rw [hg] at h1
  simp only [if_true] at h1
  have hlen : (resBytes x.rk x.rv).length < 100000 := by unfold resBytes; split <;> simp [be_len]
  have hsz : (⟨(resBytes x.rk x.rv).toArray⟩ : ByteArray).size < 100000 := by rw [size_mk]; exact hlen
  unfold Ev.cells at h
  unfold Ev.val
  have H1 := Lib.hid h1
  clear h1 hw hg
  go_enter Tryd.func69, Tryd.ntmps69
  go_wp2_with fail
  refine (H1.out _).mono ?_
  rintro e w1 ⟨rfl, hb⟩
  have h2 := h.fr hb
  clear h hb
  go_wp2_with fail
  refine (wRaw_c p v l _ _ h2.wr (by omega) hsz).mono ?_
  rintro e w2 ⟨rfl, k⟩
  obtain ⟨v', h3⟩ := h2.step k
  have H3 := Lib.hid h3.put
  clear h2 h3 k
  go_wp2_with fail
  go_end0
  exact ⟨rfl, H3.out⟩
set_option maxRecDepth 100000 in
theorem putOp_c (p : Nat) (x : Ev) (v t r : Value) (l : List UInt8) (w : World) (hw : WrAt w p v l) (hE : Env w) (hl : l.length < 50000) (ok : x.Ok) (hm : x.op.may = true) :
    Calls Tryd.prog 65 #[.pointer (some ⟨p, 0, none⟩), x.val t r] w fun e w' => e = .returned (.tuple #[]) ∧ Put w p (l ++ opBytes x.op.F x.op.O x.op.K x.op.A x.op.B) w' := by
  have h := PutSt.start hw (x.cells t r) 32
  have h1 := fun W hE => opPut_c x.op.F x.op.O x.op.K x.op.A x.op.B W hE ok.F ok.O ok.K
  have h2 : putOp x.op.F x.op.O x.op.K x.op.A x.op.B = (opBytes x.op.F x.op.O x.op.K x.op.A x.op.B, 0) := if_pos hm
  rw [h2] at h1
  simp only at h1
  have hlen : (opBytes x.op.F x.op.O x.op.K x.op.A x.op.B).length < 100000 := by
    unfold opBytes
    simp only [List.length_append, List.length_cons, List.length_nil]
    have a1 : (if hasK x.op.F then [UInt8.ofNat x.op.K] else []).length ≤ 1 := by split <;> simp
    have a2 : (if hasA x.op.F then be x.op.A 2 else []).length ≤ 2 := by split <;> simp [be_len]
    have a3 : (if hasB x.op.F then be x.op.B 2 else []).length ≤ 2 := by split <;> simp [be_len]
    omega
  have hsz : (⟨(opBytes x.op.F x.op.O x.op.K x.op.A x.op.B).toArray⟩ : ByteArray).size < 100000 := by rw [size_mk]; exact hlen
  unfold Ev.cells at h
  unfold Ev.val
  have H1 := Lib.hid h1
  have hE' := hE.alloc (.cells (x.cells t r) 32)
  clear h1 hw hm h2
  go_enter Tryd.func65, Tryd.ntmps65
  go_wp2_with fail
  refine (H1.out _ hE').mono ?_
  rintro e w1 ⟨rfl, hb⟩
  have h2 := h.fr hb
  clear h hb
  go_wp2_with fail
  refine (wRaw_c p v l _ _ h2.wr (by omega) hsz).mono ?_
  rintro e w2 ⟨rfl, k⟩
  obtain ⟨v', h3⟩ := h2.step k
  have H3 := Lib.hid h3.put
  clear h2 h3 k
  go_wp2_with fail
  go_end0
  exact ⟨rfl, H3.out⟩
/-- Micros, and lists, in blocks ahead of the writer. -/
theorem RdM.lo {w : World} {v : Value} {l : List Mic} (h : RdM w v l) : SlAt w (· < w.heap.size) v l.length (micCells l) := by
  obtain ⟨a, cap, rfl, h1, h2, h3⟩ := h
  refine ⟨a, cap, rfl, h1, h2, ?_⟩
  rcases h3 with h3 | ⟨b, off, rfl, _, hlt, hc⟩
  · exact .inl h3
  · exact .inr ⟨b, off, rfl, hlt, hlt, hc⟩
theorem Rd16.lo {w : World} {v : Value} {l : List Nat} (h : Rd16 w v l) : SlAt w (· < w.heap.size) v l.length (u16Cells l) := by
  obtain ⟨a, cap, rfl, h1, h2, h3⟩ := h
  refine ⟨a, cap, rfl, h1, h2, ?_⟩
  rcases h3 with h3 | ⟨b, off, rfl, _, hlt, hc⟩
  · exact .inl h3
  · exact .inr ⟨b, off, rfl, hlt, hlt, hc⟩
theorem SlAt.low {w w' : World} {p : Nat} {v : Value} {n : Nat} {xs : List Value} (h : SlAt w (· < p) v n xs) (b : Below p w w') : SlAt w' (· < p) v n xs :=
  h.keep b.size fun k hk hlt => b.block k hk
theorem goodMic {l : List Mic} (h : l.any micBad = false) {k : Nat} (hk : k < l.length) : l[k].key < 8 := by
  have := List.any_eq_false.1 h l[k] (List.getElem_mem hk)
  unfold micBad at this
  simp at this
  omega
theorem flatMic_len : ∀ l : List Mic, (l.flatMap micBytes).length ≤ 3 * l.length
  | [] => by simp
  | m :: l => by
    have := flatMic_len l
    have h : (micBytes m).length ≤ 3 := by unfold micBytes; split <;> simp [be_len]
    simp only [List.flatMap_cons, List.length_append, List.length_cons]
    omega
set_option maxRecDepth 100000 in
set_option maxHeartbeats 1000000 in
theorem putTxn_c (p : Nat) (x : Ev) (v t r : Value) (l : List UInt8) (w : World) (hw : WrAt w p v l) (hl : l.length < 50000) (ok : x.Ok) (hm : txnMay x.txn = true) (ht : SlAt w (· < p) t x.txn.length (micCells x.txn)) :
    Calls Tryd.prog 77 #[.pointer (some ⟨p, 0, none⟩), x.val t r] w fun e w' => e = .returned (.tuple #[]) ∧ Put w p (l ++ (be x.txn.length 1 ++ x.txn.flatMap micBytes)) w' := by
  unfold txnMay at hm
  simp only [Bool.and_eq_true, decide_eq_true_eq, Bool.not_eq_true'] at hm
  obtain ⟨⟨hm1, hm2⟩, hm3⟩ := hm
  have h := PutSt.start hw (x.cells t r) 32
  have hok := ok.txn
  obtain ⟨ta, tc, rfl, htc, htm, htx⟩ := ht
  have ht : SlAt w (· < p) (.slice ta x.txn.length tc) x.txn.length (micCells x.txn) := ⟨ta, tc, rfl, htc, htm, htx⟩
  have hM3 := Lib.hid hm3
  unfold Ev.cells at h
  unfold Ev.val
  clear hw htx hm3 ok
  go_enter Tryd.func77, Tryd.ntmps77
  go_wp2_with fail
  refine (U8_c x.txn.length p v l _ (by omega) h.wr (by omega)).mono ?_
  rintro e w1 ⟨rfl, k1⟩
  obtain ⟨v1, h1⟩ := h.step k1
  have c10 := h1.box.at 10 rfl
  have hz1 := h1.box.lt
  clear h k1
  go_wp2_with fail
  go_loopw [15] (fun i wr => ∃ (k : Nat) (v2 : Value), k ≤ x.txn.length ∧ i = .int .i64 k ∧ PutSt w p w.heap.size (x.cells (.slice ta x.txn.length tc) r) 32 (l ++ be x.txn.length 1 ++ (x.txn.take k).flatMap micBytes) wr v2) (fun i _ => x.txn.length - (intOf i).toNat)
  case atStart => exact ⟨0, v1, Nat.zero_le _, rfl, by simpa [Ev.cells] using h1⟩
  case round =>
    obtain ⟨k, v2, hk, rfl, h2⟩ := hrel
    by_cases hlt : k < x.txn.length
    · obtain ⟨ta', tc', hte, _, _, htx⟩ := ht.low h2.bel
      obtain ⟨rfl, rfl⟩ : ta = ta' ∧ tc = tc' := by cases hte; exact ⟨rfl, rfl⟩
      obtain ⟨b, o, rfl, hbp, hbl, hc⟩ := htx.resolve_left (mic_ne_nil hlt)
      obtain ⟨d0, d1, d2⟩ := micCells_at x.txn k hlt
      have d0 := hc _ _ d0
      have d1 := hc _ _ d1
      have d2 := hc _ _ d2
      simp only [← Nat.add_assoc] at d1 d2
      have hgk := goodMic hM3.out hlt
      have hok1 := (hok _ (List.getElem_mem hlt)).2
      have hlen : (l ++ be x.txn.length 1 ++ (x.txn.take k).flatMap micBytes).length < 60000 := by
        have := flatMic_len (x.txn.take k)
        simp only [List.length_append, be_len, List.length_take] at this ⊢
        omega
      have hT := Lib.hid (List.take_succ_eq_append_getElem hlt)
      generalize x.txn[k] = m at d0 d1 d2 hgk hok1 hT
      generalize hL : l ++ be x.txn.length 1 ++ (x.txn.take k).flatMap micBytes = L at h2 hlen
      have HL := Lib.hid hL
      clear hL htx hte hc
      obtain ⟨rd, key, mv⟩ := m
      simp only at d0 d1 d2 hgk hok1
      have h3 := h2.alloc (.cells #[.bool rd, .int .u8 key, .int .u16 mv] 34)
      have hB3 := BoxAt.new wr #[.bool rd, .int .u8 key, .int .u16 mv] 34
      have hz2 := h2.box.lt
      clear c10 hz1
      have hne3 : some wr.heap.size ≠ v2.ownBlock := fun e => by have := (h2.wr.own.lt wr.heap.size e.symm).2; omega
      have hne4 : wr.heap.size ≠ p := by have := h2.wr.lt; omega
      cases rd
      · go_wp2_with fail
        refine (U8_c key p v2 L _ (by omega) h3.wr (by omega)).mono ?_
        rintro e w3 ⟨rfl, k3⟩
        have hB4 := (k3.choose_spec.2.1.block wr.heap.size hB3.lt hne4 hne3).trans hB3
        obtain ⟨v3, h4⟩ := h3.step k3
        have c2 := BoxAt.at hB4 2 rfl
        have hz3 := BoxAt.lt hB4
        clear h3 k3 hB3
        go_wp2_with fail
        refine (U16_c mv p v3 _ _ (by omega) h4.wr (by simp [be_len]; omega)).mono ?_
        rintro e w4 ⟨rfl, k4⟩
        obtain ⟨v4, h5⟩ := h4.step k4
        clear h4 k4 hB4 c2 hz3
        go_wp2_with fail
        go_roundw
        case rel => exact ⟨k + 1, v4, by omega, by go_num, by rw [hT.out, List.flatMap_append, ← List.append_assoc, HL.out]; simpa [micBytes, List.append_assoc] using h5⟩
        case measure => simp [intOf]; omega
      · go_wp2_with fail
        refine (U8_c (key + 128) p v2 L _ (by omega) h3.wr (by omega)).mono ?_
        rintro e w3 ⟨rfl, k3⟩
        obtain ⟨v3, h4⟩ := h3.step k3
        clear h3 k3 hB3
        go_wp2_with fail
        go_roundw
        case rel => exact ⟨k + 1, v3, by omega, by go_num, by rw [hT.out, List.flatMap_append, ← List.append_assoc, HL.out]; simpa [micBytes] using h4⟩
        case measure => simp [intOf]; omega
    · have hP := h2.put
      rw [List.take_of_length_le (by omega), List.append_assoc] at hP
      have HP := Lib.hid hP
      clear hP
      go_wp2_with fail
      go_end0
      exact ⟨rfl, HP.out⟩
/-- Lists of numbers, in blocks ahead of the writer. -/
def RdRlo (w : World) (p : Nat) (v : Value) (ls : List (List Nat)) : Prop := ∃ vs : List Value, vs.length = ls.length ∧ SlAt w (· < p) v ls.length vs ∧ ∀ (i : Nat) (l : List Nat) (u : Value), ls[i]? = some l → vs[i]? = some u → SlAt w (· < p) u l.length (u16Cells l)
theorem RdR.lo {w : World} {v : Value} {ls : List (List Nat)} (h : RdR w v ls) : RdRlo w w.heap.size v ls := by
  obtain ⟨vs, h1, ⟨a, cap, rfl, h2, h3, h4⟩, h5⟩ := h
  refine ⟨vs, h1, ⟨a, cap, rfl, h2, h3, ?_⟩, fun i l u hl hu => (h5 i l u hl hu).lo⟩
  rcases h4 with h4 | ⟨b, off, rfl, _, hlt, hc⟩
  · exact .inl h4
  · exact .inr ⟨b, off, rfl, hlt, hlt, hc⟩
theorem RdRlo.low {w w' : World} {p : Nat} {v : Value} {ls : List (List Nat)} (h : RdRlo w p v ls) (b : Below p w w') : RdRlo w' p v ls := by
  obtain ⟨vs, h1, h2, h3⟩ := h
  exact ⟨vs, h1, h2.low b, fun i l u hl hu => (h3 i l u hl hu).low b⟩
theorem RdRlo.at {w : World} {p k : Nat} {v : Value} {ls : List (List Nat)} (h : RdRlo w p v ls) (hk : k < ls.length) : ∃ b off cap u, v = .slice (some ⟨b, off, none⟩) ls.length cap ∧ ls.length ≤ cap ∧ cap ≤ maxLen ∧ w.cell? ⟨b, off + k, none⟩ = some u ∧ SlAt w (· < p) u ls[k].length (u16Cells ls[k]) := by
  obtain ⟨vs, h1, ⟨a, cap, rfl, h2, h3, h4⟩, h5⟩ := h
  have hk2 : k < vs.length := by omega
  rcases h4 with rfl | ⟨b, off, rfl, _, hlt, hc⟩
  · simp at hk2
  · exact ⟨b, off, cap, vs[k], rfl, h2, h3, hc k _ (by simp [hk2]), h5 k _ _ (by simp [hk]) (by simp [hk2])⟩
theorem listBytes_len (l : List Nat) : (listBytes l).length = 1 + 2 * l.length := by unfold listBytes; rw [List.length_append, be_len, flat2_len]
theorem flatList_len : ∀ l : List (List Nat), l.any listBad = false → (l.flatMap listBytes).length ≤ 65 * l.length
  | [], _ => by simp
  | m :: l, h => by
    simp only [List.any_cons, Bool.or_eq_false_iff] at h
    have := flatList_len l h.2
    have h1 : m.length ≤ 32 := by have := h.1; unfold listBad at this; simpa using this
    simp only [List.flatMap_cons, List.length_append, List.length_cons, listBytes_len]
    omega
theorem goodList {l : List (List Nat)} (h : l.any listBad = false) {k : Nat} (hk : k < l.length) : l[k].length ≤ 32 := by
  have := List.any_eq_false.1 h l[k] (List.getElem_mem hk)
  unfold listBad at this
  simpa using this
theorem any_takeL {l : List (List Nat)} (h : l.any listBad = false) (k : Nat) : (l.take k).any listBad = false := by
  rw [List.any_eq_false] at h ⊢
  exact fun m hm => h m (List.mem_of_mem_take hm)
set_option maxRecDepth 100000 in
set_option maxHeartbeats 1000000 in
theorem putReads_c (p : Nat) (x : Ev) (v t r : Value) (l : List UInt8) (w : World) (hw : WrAt w p v l) (hl : l.length < 50000) (ok : x.Ok) (hm : readsMay x.reads = true) (hr : RdRlo w p r x.reads) :
    Calls Tryd.prog 81 #[.pointer (some ⟨p, 0, none⟩), x.val t r] w fun e w' => e = .returned (.tuple #[]) ∧ Put w p (l ++ (be x.reads.length 1 ++ x.reads.flatMap listBytes)) w' := by
  unfold readsMay at hm
  simp only [Bool.and_eq_true, decide_eq_true_eq, Bool.not_eq_true'] at hm
  obtain ⟨hm2, hm3⟩ := hm
  have h := PutSt.start hw (x.cells t r) 32
  have hok := ok.reads
  have hsl : ∃ ra rc, r = .slice ra x.reads.length rc := by obtain ⟨_, _, ⟨a, c, h, _⟩, _⟩ := hr; exact ⟨a, c, h⟩
  obtain ⟨ra, rc, rfl⟩ := hsl
  have hM3 := Lib.hid hm3
  have hM4 := Lib.hid (fun k => flatList_len _ (any_takeL hm3 k))
  unfold Ev.cells at h
  unfold Ev.val
  clear hw hm3 ok
  go_enter Tryd.func81, Tryd.ntmps81
  go_wp2_with fail
  refine (U8_c x.reads.length p v l _ (by omega) h.wr (by omega)).mono ?_
  rintro e w1 ⟨rfl, k1⟩
  obtain ⟨v1, h1⟩ := h.step k1
  have c11 := h1.box.at 11 rfl
  have hz1 := h1.box.lt
  clear h k1
  go_wp2_with fail
  go_loopw [15] (fun i wr => ∃ (k : Nat) (v2 : Value), k ≤ x.reads.length ∧ i = .int .i64 k ∧ PutSt w p w.heap.size (x.cells t (.slice ra x.reads.length rc)) 32 (l ++ be x.reads.length 1 ++ (x.reads.take k).flatMap listBytes) wr v2) (fun i _ => x.reads.length - (intOf i).toNat)
  case atStart => exact ⟨0, v1, Nat.zero_le _, rfl, by simpa [Ev.cells] using h1⟩
  case round =>
    obtain ⟨k, v2, hk, rfl, h2⟩ := hrel
    by_cases hlt : k < x.reads.length
    · obtain ⟨b, o, rc', u, hre, hcap, hmx, hc, hs⟩ := (hr.low h2.bel).at hlt
      obtain ⟨rfl, rfl⟩ : ra = some ⟨b, o, none⟩ ∧ rc = rc' := by cases hre; exact ⟨rfl, rfl⟩
      unfold maxLen at hmx
      have hgk := goodList hM3.out hlt
      have hok1 := hok _ (List.getElem_mem hlt)
      have hlen : (l ++ be x.reads.length 1 ++ (x.reads.take k).flatMap listBytes).length < 60000 := by
        have := hM4.out k
        simp only [List.length_append, be_len, List.length_take] at this ⊢
        omega
      have hT := Lib.hid (List.take_succ_eq_append_getElem hlt)
      generalize x.reads[k] = m at hs hgk hok1 hT
      generalize hL : l ++ be x.reads.length 1 ++ (x.reads.take k).flatMap listBytes = L at h2 hlen
      have HL := Lib.hid hL
      clear hL hre c11 hz1
      go_wp2_with fail
      refine (List_c p v2 u L m _ h2.wr (by omega) hs hok1 (by omega)).mono ?_
      rintro e w3 ⟨rfl, k3⟩
      obtain ⟨v3, h4⟩ := h2.step k3
      clear h2 k3
      go_wp2_with fail
      go_roundw
      case rel => exact ⟨k + 1, v3, by omega, by go_num, by rw [hT.out, List.flatMap_append, ← List.append_assoc, HL.out]; simpa using h4⟩
      case measure => simp [intOf]; omega
    · have hP := h2.put
      rw [List.take_of_length_le (by omega), List.append_assoc] at hP
      have HP := Lib.hid hP
      clear hP
      go_wp2_with fail
      go_end0
      exact ⟨rfl, HP.out⟩
end Go.Proofs.YtdjjjnoecfbjeaaDoor

/- event's put of a config. Of configs that may be. -/
namespace Go.Proofs.YtdjjjnoecfbjeaaDoor
open Go.RowKit

/-- The bits of the first 'k' of three. -/
def bitsTo (a b c : Bool) (k : Nat) : Nat := if k = 0 then 0 else if k = 1 then a.toNat else if k = 2 then a.toNat + 2 * b.toNat else bitsOf a b c
theorem bs0 (b c : Bool) : bits BinOp.or IntKind.u8 ((bitsTo true b c 0 : Nat) : Int) 1 = ((bitsTo true b c 1 : Nat) : Int) := by revert b c; decide
theorem bs1 (a c : Bool) : bits BinOp.or IntKind.u8 ((bitsTo a true c 1 : Nat) : Int) 2 = ((bitsTo a true c 2 : Nat) : Int) := by revert a c; decide
theorem bs2 (a b : Bool) : bits BinOp.or IntKind.u8 ((bitsTo a b true 2 : Nat) : Int) 4 = ((bitsTo a b true 3 : Nat) : Int) := by revert a b; decide
set_option maxRecDepth 100000 in
set_option maxHeartbeats 2000000 in
theorem putConfig_c (p : Nat) (x : Ev) (v t r : Value) (l : List UInt8) (w : World) (hw : WrAt w p v l) (hl : l.length < 50000) (hm : cfgMay x.cfg = true) :
    Calls Tryd.prog 61 #[.pointer (some ⟨p, 0, none⟩), x.val t r] w fun e w' => e = .returned (.tuple #[]) ∧ Put w p (l ++ cfgBytes x.cfg) w' := by
  unfold cfgMay at hm
  simp only [Bool.and_eq_true, decide_eq_true_eq] at hm
  obtain ⟨⟨⟨hm1, hm2, hm3⟩, hm4, hm5⟩, hm6, hm7⟩ := hm
  have h := PutSt.start hw (x.cells t r) 32
  unfold cfgBytes
  unfold Ev.cells at h
  unfold Ev.val
  obtain ⟨xk, xc, xi, xo, xrk, xrv, xt, xr, ⟨m, o1, o2, o3, pa, cu, me⟩⟩ := x
  simp only at hm1 hm2 hm3 hm4 hm5 hm6 hm7 h ⊢
  obtain ⟨n1, rfl⟩ := Int.eq_ofNat_of_zero_le (show 0 ≤ o1 by omega)
  obtain ⟨n2, rfl⟩ := Int.eq_ofNat_of_zero_le (show 0 ≤ o2 by omega)
  obtain ⟨n3, rfl⟩ := Int.eq_ofNat_of_zero_le (show 0 ≤ o3 by omega)
  have hp : p < w.heap.size := h.bp
  have h0 := h.alloc (.cells #[.bool pa, .bool cu, .bool me] 4)
  have HH := Lib.hid h0
  clear h h0 hw
  go_enter Tryd.func61, Tryd.ntmps61
  go_wp2_with fail
  go_loop [4, 18] (fun b i => ∃ k : Nat, k ≤ 3 ∧ i = .int .i64 k ∧ b = .int .u8 (bitsTo pa cu me k)) (fun _ i => 3 - (intOf i).toNat)
  case atStart => exact ⟨0, by omega, rfl, rfl⟩
  case round =>
    obtain ⟨k, hk, rfl, rfl⟩ := hrel
    rcases (show k = 0 ∨ k = 1 ∨ k = 2 ∨ k = 3 by omega) with rfl | rfl | rfl | rfl
    · clear hm1 hm2 hm3 hm4 hm5 hm6 hm7
      cases pa
      all_goals
        go_wp2_with fail
        go_round
        case rel => exact ⟨1, by omega, by go_num, by first | rfl | rw [bs0] | rw [bs1] | rw [bs2]⟩
        case measure => simp [intOf]
    · clear hm1 hm2 hm3 hm4 hm5 hm6 hm7
      cases pa <;> cases cu
      all_goals
        go_wp2_with fail
        go_round
        case rel => exact ⟨2, by omega, by go_num, by first | rfl | rw [bs0] | rw [bs1] | rw [bs2]⟩
        case measure => simp [intOf]
    · clear hm1 hm2 hm3 hm4 hm5 hm6 hm7
      cases pa <;> cases cu <;> cases me
      all_goals
        go_wp2_with fail
        go_round
        case rel => exact ⟨3, by omega, by go_num, by first | rfl | rw [bs0] | rw [bs1] | rw [bs2]⟩
        case measure => simp [intOf]
    · have hb : bitsTo pa cu me 3 = bitsOf pa cu me := rfl
      rw [hb]
      clear hb
      have hbit : bitsOf pa cu me < 256 := by cases pa <;> cases cu <;> cases me <;> decide
      generalize hB : bitsOf pa cu me = B at hbit ⊢
      have HB := Lib.hid hB
      clear hB
      have h := HH.out
      go_wp2_with fail
      refine (U8_c m p v l _ (by omega) h.wr (by omega)).mono ?_
      rintro e w1 ⟨rfl, k1⟩
      obtain ⟨v1, h1⟩ := h.step k1
      clear h k1 HH
      go_wp2_with fail
      refine (U8_c B p v1 _ _ hbit h1.wr (by simp [be_len]; omega)).mono ?_
      rintro e w2 ⟨rfl, k2⟩
      obtain ⟨v2, h2⟩ := h1.step k2
      have c13 := h2.box.at 13 rfl
      have hz2 := h2.box.lt
      clear h1 k2
      go_wp2_with fail
      refine (U8_c n1 p v2 _ _ (by omega) h2.wr (by simp [be_len]; omega)).mono ?_
      rintro e w3 ⟨rfl, k3⟩
      obtain ⟨v3, h3⟩ := h2.step k3
      have c14 := h3.box.at 14 rfl
      have hz3 := h3.box.lt
      clear h2 k3 c13 hz2
      go_wp2_with fail
      refine (U16_c n2 p v3 _ _ (by omega) h3.wr (by simp [be_len]; omega)).mono ?_
      rintro e w4 ⟨rfl, k4⟩
      obtain ⟨v4, h4⟩ := h3.step k4
      have c15 := h4.box.at 15 rfl
      have hz4 := h4.box.lt
      clear h3 k4 c14 hz3
      go_wp2_with fail
      refine (U32_c n3 p v4 _ _ (by omega) h4.wr (by simp [be_len]; omega)).mono ?_
      rintro e w5 ⟨rfl, k5⟩
      obtain ⟨v5, h5⟩ := h4.step k5
      have HP := Lib.hid h5.put
      clear h4 k5 h5 c15 hz4
      go_wp2_with fail
      go_end0
      exact ⟨rfl, by rw [HB.out]; simpa [List.append_assoc] using HP.out⟩
end Go.Proofs.YtdjjjnoecfbjeaaDoor

/- event.Put. No condition but that the event can be read, and its numbers' bounds. -/
namespace Go.Proofs.YtdjjjnoecfbjeaaDoor
open Go.RowKit

theorem BoxAt.below {a w : World} {b p : Nat} {c : Array Value} {t : TypeId} (h : BoxAt a b c t) (f : Below p a w) (hb : b < p) : BoxAt w b c t := (Below.block f b hb).trans h
theorem SlAt.up {w W : World} {p : Nat} {v : Value} {n : Nat} {xs : List Value} (h : SlAt w (· < w.heap.size) v n xs) (f : Fr w W) (hp : w.heap.size ≤ p) : SlAt W (· < p) v n xs :=
  (h.fr f).mono fun k hk => by have : k < w.heap.size := hk; omega
theorem RdRlo.up {w W : World} {p : Nat} {v : Value} {ls : List (List Nat)} (h : RdRlo w w.heap.size v ls) (f : Fr w W) (hp : w.heap.size ≤ p) : RdRlo W p v ls := by
  obtain ⟨vs, h1, h2, h3⟩ := h
  exact ⟨vs, h1, h2.up f hp, fun i l u hl hu => (h3 i l u hl hu).up f hp⟩
/-- What a kind's put does. -/
def PutsK (q : Nat) (w : World) (x : Ev) (t r : Value) : Prop := ∀ (W : World) (p : Nat) (v : Value) (l : List UInt8), Fr w W → w.heap.size ≤ p → WrAt W p v l → l.length < 50000 → Calls Tryd.prog q #[.pointer (some ⟨p, 0, none⟩), x.val t r] W fun e w' => e = .returned (.tuple #[]) ∧ Put W p (l ++ x.tail) w'

set_option maxRecDepth 100000 in
set_option maxHeartbeats 1000000 in
theorem put_no (x : Ev) (t r : Value) (w : World) (hE : Env w) (hx : EvAt w (x.val t r) x) (ok : x.Ok) (hm : x.may = false) :
    Calls Tryd.prog 28 #[x.val t r] w fun e w' => e = .returned (.tuple #[.string ⟨#[]⟩, .int .i64 4]) ∧ Fr w w' := by
  have hch := fun W hE hx => EvCheck_c x (x.val t r) W hE hx ok
  have hc : x.check = 4 := by unfold Ev.check; rw [hm]; rfl
  rw [hc] at hch
  have hB0 := BoxAt.new w (x.cells t r) 32
  have hE' := hE.alloc (.cells (x.cells t r) 32)
  have hx' := hx.keep ((Fr.refl w).alloc (.cells (x.cells t r) 32))
  unfold Ev.cells at hB0
  unfold Ev.val at hch hx' ⊢
  have HC := Lib.hid hch
  clear hch hc hm hx hE
  go_enter Tryd.func28, Tryd.ntmps28
  go_wp2_with ((with_reducible refine wpList_here (.load 32 (.tmp 1)) rfl ?_); refine wpList_load_box 32 (.tmp 1) rfl _ rfl _ hB0 _ Tryd.underlying32 rfl Tryd.infoEv rfl ?_)
  refine (HC.out _ hE' hx').mono ?_
  rintro e w1 ⟨rfl, hb⟩
  go_wp2_with fail
  go_ret2
  exact ⟨rfl, ((Fr.refl w).alloc _).trans hb⟩
set_option maxRecDepth 100000 in
set_option maxHeartbeats 4000000 in
theorem put_yes (k q0 q1 q2 q3 : Nat) (x : Ev) (t r : Value) (w : World) (hE : Env w) (hx : EvAt w (x.val t r) x) (ok : x.Ok) (hm : x.may = true) (h1 : 1 ≤ k) (h7 : k ≤ 7) (hk : x.kind = k) (hne : k ≠ 1) (hq : evKind k = #[.func (.func q0) #[] #[], .func (.func q1) #[] #[], .func (.func q2) #[] #[], .func (.func q3) #[] #[]])
    (hf : IsFn q2) (hput : PutsK q2 w x t r) :
    Calls Tryd.prog 28 #[x.val t r] w fun e w' => e = .returned (.tuple #[.string ⟨x.bytes.toArray⟩, .int .i64 0]) ∧ Fr w w' := by
  have hch := fun W hE hx => EvCheck_c x (x.val t r) W hE hx ok
  have hc : x.check = 0 := by unfold Ev.check; rw [hm]; rfl
  rw [hc] at hch
  have hof := fun W => of_yes k W h1 h7
  rw [hq] at hof
  have hB0 := BoxAt.new w (x.cells t r) 32
  have hE' := hE.alloc (.cells (x.cells t r) 32)
  have hx' := hx.keep ((Fr.refl w).alloc (.cells (x.cells t r) 32))
  have hby : x.bytes = be x.kind 1 ++ be x.client 1 ++ be x.id 2 ++ x.tail := by unfold Ev.bytes Ev.head; rw [if_neg (by omega)]
  have hcl := ok.client
  have hid := ok.id
  have hk1 : ((k : Int) != 1) = true := by simp; omega
  unfold IsFn at hf
  unfold PutsK at hput
  rw [hby]
  unfold Ev.cells at hB0 hE' hx'
  unfold Ev.val at hch hx' hput ⊢
  rw [hk] at hch hx' hB0 hput hE' ⊢
  have HC := Lib.hid hch
  have HO := Lib.hid hof
  have HP := Lib.hid hput
  clear hch hc hm hx hE hof hput hby hq hne ok
  go_enter Tryd.func28, Tryd.ntmps28
  go_wp2_with ((with_reducible refine wpList_here (.load 32 (.tmp 1)) rfl ?_); refine wpList_load_box 32 (.tmp 1) rfl _ rfl _ hB0 _ Tryd.underlying32 rfl Tryd.infoEv rfl ?_)
  refine (HC.out _ hE' hx').mono ?_
  rintro e w1 ⟨rfl, hb⟩
  have hB1 := hB0.fr hb
  have d0 := hB1.at 0 rfl
  have hz1 := hB1.lt
  have hf1 : Fr w w1 := ((Fr.refl w).alloc _).trans hb
  clear hB0 hb hE' hx' HC
  go_wp2_with fail
  have hw0 := WrAt.new (w := w1) rfl
  refine (U8_c k w1.heap.size _ [] _ (by omega) hw0 (by simp)).mono ?_
  rintro e w2 ⟨rfl, H⟩
  have hB2 := (hB1.alloc _).below (H.below hw0) hz1
  have hf2 : Fr w w2 := H.fr (hf1.alloc _) hw0 hf1.size
  have d0' := hB2.at 0 rfl
  have d1' := hB2.at 1 rfl
  have hz2 := hB2.lt
  have hp := hf1.size
  obtain ⟨v2, hw2, _, _⟩ := H
  clear d0 hB1 hw0 hf1
  generalize w1.heap.size = p at hw2 hz1 hp ⊢
  go_wp2_with fail
  refine (U8_c x.client p v2 _ _ hcl hw2 (by simp [be_len])).mono ?_
  rintro e w3 ⟨rfl, H⟩
  have hB3 := hB2.below (H.below hw2) hz1
  have hf3 : Fr w w3 := H.fr hf2 hw2 hp
  have d2 := hB3.at 2 rfl
  have hz3 := hB3.lt
  obtain ⟨v3, hw3, _, _⟩ := H
  clear hB2 hf2 hw2 d0' d1' hz2
  go_wp2_with fail
  refine (U16_c x.id p v3 _ _ hid hw3 (by simp [be_len])).mono ?_
  rintro e w4 ⟨rfl, H⟩
  have hB4 := hB3.below (H.below hw3) hz1
  have hf4 : Fr w w4 := H.fr hf3 hw3 hp
  have d4 := hB4.at 0 rfl
  have hz4 := hB4.lt
  obtain ⟨v4, hw4, _, _⟩ := H
  clear hB3 hf3 hw3 d2 hz3
  go_wp2_with fail
  refine (HO.out _).mono ?_
  rintro e w5 ⟨rfl, hb⟩
  have hB5 := (hB4.fr hb).alloc (.cells #[.func (.func q0) #[] #[], .func (.func q1) #[] #[], .func (.func q2) #[] #[], .func (.func q3) #[] #[]] 89)
  have hf5 : Fr w w5 := hf4.trans hb
  have hw5 := hw4.fr hb
  clear hB4 hf4 hw4 d4 hz4 hb
  go_wp2_with (first | ((with_reducible refine wpList_here (.store 89 (.tmp 6) (.tmp 34)) rfl ?_); refine wpList_store_new 89 (.tmp 6) (.tmp 34) rfl _ _ _ rfl rfl rfl Tryd.info67 rfl rfl rfl rfl ?_) | ((with_reducible refine wpList_here (.load 32 (.tmp 1)) rfl ?_); refine wpList_load_box 32 (.tmp 1) rfl _ rfl _ hB5 _ Tryd.underlying32 rfl Tryd.infoEv rfl ?_))
  refine (HP.out _ p v4 _ (hf5.alloc _) hp (hw5.fr ((Fr.refl _).alloc _)) (by simp [be_len])).mono ?_
  rintro e w6 ⟨rfl, v6, hw6, hb6⟩
  have hf6 : Fr w w6 := (hf5.alloc _).trans' (Below.mono hb6 hp)
  clear hB5 hf5 hw5 hb6
  go_wp2_with fail
  refine (Bytes_c p v6 _ _ hw6).mono ?_
  rintro e w7 ⟨rfl, rfl⟩
  go_wp2_with fail
  go_ret2
  exact ⟨by simp, hf6⟩
set_option maxRecDepth 100000 in
set_option maxHeartbeats 4000000 in
theorem put_cfg (k q0 q1 q2 q3 : Nat) (x : Ev) (t r : Value) (w : World) (hE : Env w) (hx : EvAt w (x.val t r) x) (ok : x.Ok) (hm : x.may = true) (h1 : 1 ≤ k) (h7 : k ≤ 7) (hk : x.kind = k) (hne : k = 1) (hq : evKind k = #[.func (.func q0) #[] #[], .func (.func q1) #[] #[], .func (.func q2) #[] #[], .func (.func q3) #[] #[]])
    (hf : IsFn q2) (hput : PutsK q2 w x t r) :
    Calls Tryd.prog 28 #[x.val t r] w fun e w' => e = .returned (.tuple #[.string ⟨x.bytes.toArray⟩, .int .i64 0]) ∧ Fr w w' := by
  have hch := fun W hE hx => EvCheck_c x (x.val t r) W hE hx ok
  have hc : x.check = 0 := by unfold Ev.check; rw [hm]; rfl
  rw [hc] at hch
  have hof := fun W => of_yes k W h1 h7
  rw [hq] at hof
  have hB0 := BoxAt.new w (x.cells t r) 32
  have hE' := hE.alloc (.cells (x.cells t r) 32)
  have hx' := hx.keep ((Fr.refl w).alloc (.cells (x.cells t r) 32))
  have hby : x.bytes = be x.kind 1 ++ x.tail := by unfold Ev.bytes Ev.head; rw [if_pos (by omega)]
  have hcl := ok.client
  have hid := ok.id
  have hk1 : ((k : Int) != 1) = false := by simp; omega
  unfold IsFn at hf
  unfold PutsK at hput
  rw [hby]
  unfold Ev.cells at hB0 hE' hx'
  unfold Ev.val at hch hx' hput ⊢
  rw [hk] at hch hx' hB0 hput hE' ⊢
  have HC := Lib.hid hch
  have HO := Lib.hid hof
  have HP := Lib.hid hput
  clear hch hc hm hx hE hof hput hby hq hne ok
  go_enter Tryd.func28, Tryd.ntmps28
  go_wp2_with ((with_reducible refine wpList_here (.load 32 (.tmp 1)) rfl ?_); refine wpList_load_box 32 (.tmp 1) rfl _ rfl _ hB0 _ Tryd.underlying32 rfl Tryd.infoEv rfl ?_)
  refine (HC.out _ hE' hx').mono ?_
  rintro e w1 ⟨rfl, hb⟩
  have hB1 := hB0.fr hb
  have d0 := hB1.at 0 rfl
  have hz1 := hB1.lt
  have hf1 : Fr w w1 := ((Fr.refl w).alloc _).trans hb
  clear hB0 hb hE' hx' HC
  go_wp2_with fail
  have hw0 := WrAt.new (w := w1) rfl
  refine (U8_c k w1.heap.size _ [] _ (by omega) hw0 (by simp)).mono ?_
  rintro e w2 ⟨rfl, H⟩
  have hB2 := (hB1.alloc _).below (H.below hw0) hz1
  have hf2 : Fr w w2 := H.fr (hf1.alloc _) hw0 hf1.size
  have d0' := hB2.at 0 rfl
  have d1' := hB2.at 1 rfl
  have hz2 := hB2.lt
  have hp := hf1.size
  obtain ⟨v2, hw2, _, _⟩ := H
  clear d0 hB1 hw0 hf1
  generalize w1.heap.size = p at hw2 hz1 hp ⊢
  go_wp2_with fail
  refine (HO.out _).mono ?_
  rintro e w5 ⟨rfl, hb⟩
  have hB5 := (hB2.fr hb).alloc (.cells #[.func (.func q0) #[] #[], .func (.func q1) #[] #[], .func (.func q2) #[] #[], .func (.func q3) #[] #[]] 89)
  have hf5 : Fr w w5 := hf2.trans hb
  have hw5 := hw2.fr hb
  clear hB2 hf2 hw2 d0' d1' hz2 hb
  go_wp2_with (first | ((with_reducible refine wpList_here (.store 89 (.tmp 6) (.tmp 34)) rfl ?_); refine wpList_store_new 89 (.tmp 6) (.tmp 34) rfl _ _ _ rfl rfl rfl Tryd.info67 rfl rfl rfl rfl ?_) | ((with_reducible refine wpList_here (.load 32 (.tmp 1)) rfl ?_); refine wpList_load_box 32 (.tmp 1) rfl _ rfl _ hB5 _ Tryd.underlying32 rfl Tryd.infoEv rfl ?_))
  refine (HP.out _ p v2 _ (hf5.alloc _) hp (hw5.fr ((Fr.refl _).alloc _)) (by simp [be_len])).mono ?_
  rintro e w6 ⟨rfl, v6, hw6, hb6⟩
  have hf6 : Fr w w6 := (hf5.alloc _).trans' (Below.mono hb6 hp)
  clear hB5 hf5 hw5 hb6
  go_wp2_with fail
  refine (Bytes_c p v6 _ _ hw6).mono ?_
  rintro e w7 ⟨rfl, rfl⟩
  go_wp2_with fail
  go_ret2
  exact ⟨by simp, hf6⟩

theorem kindMay_of {x : Ev} (h : x.may = true) : x.kindMay = true := by unfold Ev.may at h; simp only [Bool.and_eq_true] at h; exact h.1.1
theorem Put_c (x : Ev) (v : Value) (w : World) (hE : Env w) (hx : EvAt w v x) (ok : x.Ok) :
    Calls Tryd.prog 28 #[v] w fun e w' => e = .returned (.tuple #[.string ⟨x.put.1.toArray⟩, .int .i64 x.put.2]) ∧ Fr w w' := by
  obtain ⟨⟨t, r, rfl, ht, hr⟩⟩ := hx
  have hx : EvAt w (x.val t r) x := ⟨t, r, rfl, ht, hr⟩
  cases hm : x.may
  · rw [show x.put = ([], 4) by unfold Ev.put; rw [hm]; rfl]
    exact put_no x t r w hE hx ok hm
  · rw [show x.put = (x.bytes, 0) by unfold Ev.put; rw [hm]; rfl]
    have hkm := kindMay_of hm
    have hk : 1 ≤ x.kind ∧ x.kind ≤ 7 := by
      rcases Nat.lt_or_ge x.kind 8 with h | h
      · rcases Nat.lt_or_ge x.kind 1 with h' | h'
        · have e0 : x.kind = 0 := by omega
          simp [Ev.kindMay, e0] at hkm
        · omega
      · have h1 : x.kind ≠ 1 := by omega
        have h2 : x.kind ≠ 2 := by omega
        have h3 : x.kind ≠ 3 := by omega
        have h4 : x.kind ≠ 4 := by omega
        have h5 : x.kind ≠ 5 := by omega
        have h6 : x.kind ≠ 6 := by omega
        have h7 : x.kind ≠ 7 := by omega
        simp [Ev.kindMay, h1, h2, h3, h4, h5, h6, h7] at hkm
    rcases (show x.kind = 1 ∨ x.kind = 2 ∨ x.kind = 3 ∨ x.kind = 4 ∨ x.kind = 5 ∨ x.kind = 6 ∨ x.kind = 7 by omega) with h | h | h | h | h | h | h
    · exact put_cfg 1 _ _ _ _ x t r w hE hx ok hm (by omega) (by omega) h rfl rfl (isFn Tryd.func61 (by kernel_rfl) rfl) fun W p v l hf hp hw hl => by
        rw [show x.tail = cfgBytes x.cfg by simp [Ev.tail, h]]
        exact putConfig_c p x v t r l W hw hl (by simpa [Ev.kindMay, h] using hkm)
    · exact put_yes 2 _ _ _ _ x t r w hE hx ok hm (by omega) (by omega) h (by omega) rfl (isFn Tryd.func65 (by kernel_rfl) rfl) fun W p v l hf hp hw hl => by
        rw [show x.tail = opBytes x.op.F x.op.O x.op.K x.op.A x.op.B by simp [Ev.tail, h]]
        exact putOp_c p x v t r l W hw (hE.keep hf) hl ok (by simpa [Ev.kindMay, h] using hkm)
    · exact put_yes 3 _ _ _ _ x t r w hE hx ok hm (by omega) (by omega) h (by omega) rfl (isFn Tryd.func69 (by kernel_rfl) rfl) fun W p v l hf hp hw hl => by
        rw [show x.tail = resBytes x.rk x.rv by simp [Ev.tail, h]]
        exact putResult_c p x v t r l W hw hl ok.rk ok.rv (by simpa [Ev.kindMay, h] using hkm)
    · exact put_yes 4 _ _ _ _ x t r w hE hx ok hm (by omega) (by omega) h (by omega) rfl (isFn Tryd.func73 (by kernel_rfl) rfl) fun W p v l hf hp hw hl => by
        rw [show x.tail = [] by simp [Ev.tail, h], List.append_nil]
        exact skip_c p x v t r l W hw
    · exact put_yes 5 _ _ _ _ x t r w hE hx ok hm (by omega) (by omega) h (by omega) rfl (isFn Tryd.func77 (by kernel_rfl) rfl) fun W p v l hf hp hw hl => by
        rw [show x.tail = be x.txn.length 1 ++ x.txn.flatMap micBytes by simp [Ev.tail, h]]
        exact putTxn_c p x v t r l W hw hl ok (by simpa [Ev.kindMay, h] using hkm) (ht.lo.up hf hp)
    · exact put_yes 6 _ _ _ _ x t r w hE hx ok hm (by omega) (by omega) h (by omega) rfl (isFn Tryd.func81 (by kernel_rfl) rfl) fun W p v l hf hp hw hl => by
        rw [show x.tail = be x.reads.length 1 ++ x.reads.flatMap listBytes by simp [Ev.tail, h]]
        exact putReads_c p x v t r l W hw hl ok (by simpa [Ev.kindMay, h] using hkm) (hr.lo.up hf hp)
    · exact put_yes 7 _ _ _ _ x t r w hE hx ok hm (by omega) (by omega) h (by omega) rfl (isFn Tryd.func73 (by kernel_rfl) rfl) fun W p v l hf hp hw hl => by
        rw [show x.tail = [] by simp [Ev.tail, h], List.append_nil]
        exact skip_c p x v t r l W hw
end Go.Proofs.YtdjjjnoecfbjeaaDoor
