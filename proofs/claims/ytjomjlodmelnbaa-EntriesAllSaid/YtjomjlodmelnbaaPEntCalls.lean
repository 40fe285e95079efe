/- Layer 16: calls (what stands on the ring ahead of all returns). No condition but that the list lies there. -/
import Derived.Test.YtjomjlodmelnbaaPEntLift
import Derived.Lib.Builder
import Derived.OwnWalkIn
import Derived.TacticsInMore
import Derived.LoopNIn
import Derived.LoopIn
import Derived.RangeFuncBox
import Derived.Shelf.Abstract
set_option linter.all false
set_option linter.unusedVariables false
set_option linter.unusedSimpArgs false
set_option linter.unnecessarySimpa false
/- Layer 16: calls (what stands on the ring ahead of all returns). No condition but that the list lies there. -/
namespace Go.Proofs.Ytjomjlodmelnbaa
open Go.RowKit Go.Sort
attribute [local go_sem] Oper.semAt_some

theorem left_present {N T : Nat → Nat} {rs : List ERow} {up : List Nat} (hd : (nodes N T rs).Nodup) (inj : ∀ i j, i < rs.length → j < rs.length → N i = N j → i = j) (hups : ∀ i ∈ up, i < rs.length) : left (nodes N T rs) (rems N T rs up) = (present rs up).map (nid N T) := by
  unfold left nodes present
  rw [List.filter_map]
  congr 1
  refine List.filter_congr fun e he => ?_
  simp only [Function.comp]
  congr 1
  rw [Bool.eq_iff_iff, List.contains_iff_mem, List.contains_iff_mem, mem_rems]
  have hrow := row_lt he
  cases hc : e.call with
  | true =>
    have e1 : nid N T e = N e.row := by simp [nid, hc]
    rw [e1]
    constructor
    · rintro ⟨i, hi, h | ⟨hdi, h⟩⟩
      · exact (inj _ _ hrow (hups i hi) h) ▸ hi
      · exact absurd h (N_ne_T hd hrow hdi)
    · intro h; exact ⟨_, h, .inl rfl⟩
  | false =>
    have e1 : nid N T e = T e.row := by simp [nid, hc]
    have hde : rs[e.row]?.any ERow.done = true := hasRet_all.1 ⟨e, by rw [List.take_length]; exact he, hc, rfl⟩
    rw [e1]
    constructor
    · rintro ⟨i, hi, h | ⟨hdi, h⟩⟩
      · exact absurd h.symm (N_ne_T hd (hups i hi) hde)
      · exact (T_inj hd hde hdi h) ▸ hi
    · intro h; exact ⟨_, h, .inr ⟨hde, rfl⟩⟩
theorem links_at {nx pv : Nat → Nat} : ∀ {l : List Nat} {k a b : Nat}, Links nx pv l → l[k]? = some a → l[k + 1]? = some b → nx a = b
  | [], _, _, _, _, h, _ => by simp at h
  | [c], k, _, _, _, _, h2 => by simp at h2
  | c :: d :: l, 0, a, b, h, h1, h2 => by
    simp at h1 h2
    rw [← h1, ← h2]; exact h.1
  | c :: d :: l, k + 1, a, b, h, h1, h2 => links_at (l := d :: l) (k := k) h.2.2 (by simpa using h1) (by simpa using h2)
/-- What stands at a place of the ring; the head behind all. -/
def ringAt (h : Nat) (N T : Nat → Nat) (rs : List ERow) (up : List Nat) (k : Nat) : Nat := ((present rs up).map (nid N T))[k]?.getD h
theorem ring_get (h : Nat) (N T : Nat → Nat) (rs : List ERow) (up : List Nat) {k : Nat} (hk : k ≤ (present rs up).length) : (h :: (present rs up).map (nid N T) ++ [h])[k + 1]? = some (ringAt h N T rs up k) := by
  unfold ringAt
  rw [List.cons_append, List.getElem?_cons_succ]
  by_cases h1 : k < (present rs up).length
  · rw [List.getElem?_append_left (by simpa using h1)]
    simp [h1]
  · have : k = ((present rs up).map (nid N T)).length := by simp; omega
    rw [this, List.getElem?_append_right (Nat.le_refl _)]
    simp
theorem LAt.ring {Z : Nat → Prop} {base : Nat} {w : World} {x h : Nat} {N T nx pv : Nat → Nat} {rs : List ERow} {up : List Nat} {vr vl : Value} (L : LAt Z base w x h N T nx pv rs up vr vl) : Links nx pv (h :: (present rs up).map (nid N T) ++ [h]) := by
  have := L.dance.ring
  rwa [left_present (List.nodup_cons.1 L.dance.nodup).2 L.inj L.ups.2.1] at this
theorem LAt.first {Z : Nat → Prop} {base : Nat} {w : World} {x h : Nat} {N T nx pv : Nat → Nat} {rs : List ERow} {up : List Nat} {vr vl : Value} (L : LAt Z base w x h N T nx pv rs up vr vl) : Cel w h 1 (Pt (ringAt h N T rs up 0)) := by
  rw [← links_at L.ring (k := 0) rfl (ring_get h N T rs up (Nat.zero_le _))]
  exact (L.links h List.mem_cons_self).2
theorem heads_get {rs : List ERow} {up : List Nat} {k : Nat} (hk : k < (heads rs up).length) : ∃ h : k < (present rs up).length, (heads rs up)[k] = (present rs up)[k] ∧ (present rs up)[k].call = true := by
  have hp : heads rs up <+: present rs up := List.takeWhile_prefix _
  have h1 : k < (present rs up).length := Nat.lt_of_lt_of_le hk hp.length_le
  have h2 : (heads rs up)[k] = (present rs up)[k] := hp.getElem hk
  exact ⟨h1, h2, h2 ▸ (mem_heads.1 (List.getElem_mem hk)).1⟩
theorem takeWhile_end {α : Type} {p : α → Bool} : ∀ (l : List α) (h : (l.takeWhile p).length < l.length), p (l[(l.takeWhile p).length]'h) = false
  | a :: l, h => by
    cases ha : p a with
    | true =>
      simp only [List.takeWhile_cons, ha, if_true, List.length_cons, List.getElem_cons_succ]
      exact takeWhile_end l (by simpa [List.takeWhile_cons, ha] using h)
    | false => simp [List.takeWhile_cons, ha]
/-- The node at a place ahead of all returns. -/
theorem LAt.atCall {Z : Nat → Prop} {base : Nat} {w : World} {x h : Nat} {N T nx pv : Nat → Nat} {rs : List ERow} {up : List Nat} {vr vl : Value} (L : LAt Z base w x h N T nx pv rs up vr vl) {k : Nat} (hk : k < (heads rs up).length) :
    (heads rs up)[k].row < rs.length ∧ ringAt h N T rs up k = N (heads rs up)[k].row ∧ N (heads rs up)[k].row ≠ h ∧ Cel w (N (heads rs up)[k].row) 1 (Pt (ringAt h N T rs up (k + 1))) := by
  obtain ⟨h1, h2, h3⟩ := heads_get hk
  have hlt : (heads rs up)[k].row < rs.length := (mem_heads.1 (List.getElem_mem hk)).2.2.1
  have e1 : ringAt h N T rs up k = N (heads rs up)[k].row := by
    unfold ringAt
    rw [h2]
    simp [h1, nid, h3]
  refine ⟨hlt, e1, fun e => ?_, ?_⟩
  · exact (List.nodup_cons.1 L.dance.nodup).1 (e ▸ nid_call hlt)
  · have := (L.links _ (List.mem_cons_of_mem _ (nid_call (N := N) (T := T) hlt))).2
    rw [← links_at L.ring (k := k + 1) (a := N (heads rs up)[k].row) (by rw [ring_get h N T rs up (by omega), e1]) (ring_get h N T rs up (by omega))]
    exact this
/-- The node behind all calls that stand ahead of all returns. -/
theorem LAt.atEnd {Z : Nat → Prop} {base : Nat} {w : World} {x h : Nat} {N T nx pv : Nat → Nat} {rs : List ERow} {up : List Nat} {vr vl : Value} (L : LAt Z base w x h N T nx pv rs up vr vl) :
    ringAt h N T rs up (heads rs up).length = h ∨ (ringAt h N T rs up (heads rs up).length ≠ h ∧ Cel w (ringAt h N T rs up (heads rs up).length) 4 (.bool false)) := by
  by_cases h1 : (heads rs up).length < (present rs up).length
  · right
    have h2 : (present rs up)[(heads rs up).length].call = false := takeWhile_end (p := fun e : Ent => e.call) (present rs up) h1
    have hm := mem_present.1 (List.getElem_mem h1)
    have hi := mem_inOrder.2 hm.1
    have hd : rs[(present rs up)[(heads rs up).length].row]?.any ERow.done = true := hasRet_all.1 ⟨_, by rw [List.take_length]; exact hi, h2, rfl⟩
    have e1 : ringAt h N T rs up (heads rs up).length = T (present rs up)[(heads rs up).length].row := by
      unfold ringAt
      simp [h1, nid, h2]
    rw [e1]
    exact ⟨fun e => (List.nodup_cons.1 L.dance.nodup).1 (e ▸ nid_ret hd), L.ret _ (row_lt hi) hd⟩
  · left
    unfold ringAt
    rw [List.getElem?_eq_none (by simp; omega)]
    rfl
theorem LAt.endCel {Z : Nat → Prop} {base : Nat} {w : World} {x h : Nat} {N T nx pv : Nat → Nat} {rs : List ERow} {up : List Nat} {vr vl : Value} (L : LAt Z base w x h N T nx pv rs up vr vl) :
    ∃ z, Cel w (ringAt h N T rs up (heads rs up).length) 0 z := by
  have hm : ringAt h N T rs up (heads rs up).length ∈ h :: nodes N T rs := by
    unfold ringAt
    by_cases h1 : (heads rs up).length < (present rs up).length
    · have h2 : ((present rs up).map (nid N T))[(heads rs up).length]? = some (((present rs up).map (nid N T))[(heads rs up).length]'(by simpa using h1)) := List.getElem?_eq_getElem _
      rw [h2, Option.getD_some]
      have h3 : ((present rs up).map (nid N T))[(heads rs up).length]'(by simpa using h1) ∈ (present rs up).map (nid N T) := List.getElem_mem _
      have h4 : ∀ b, b ∈ (present rs up).map (nid N T) → b ∈ nodes N T rs := fun b hb => by
        rw [← left_present (List.nodup_cons.1 L.dance.nodup).2 L.inj L.ups.2.1] at hb
        exact (mem_left.1 hb).1
      exact List.mem_cons_of_mem _ (h4 _ h3)
    · rw [List.getElem?_eq_none (by simp; omega)]
      exact List.mem_cons_self
  exact ⟨_, (L.links _ hm).1⟩
theorem nexts_nodup (rs : List ERow) (up : List Nat) : (nexts rs up).Nodup := (nexts_sorted rs up).imp fun {a b} h e => by subst e; exact earlier_irrefl h
theorem nexts_len (rs : List ERow) (up : List Nat) : (nexts rs up).length ≤ rs.length := nodup_len_le (nexts_nodup rs up) fun i hi => (mem_nexts.1 hi).2.1
theorem LAt.headsLen {Z : Nat → Prop} {base : Nat} {w : World} {x h : Nat} {N T nx pv : Nat → Nat} {rs : List ERow} {up : List Nat} {vr vl : Value} (L : LAt Z base w x h N T nx pv rs up vr vl) : (heads rs up).length ≤ 7036874417600 := by
  have h1 := nexts_len rs up
  unfold nexts at h1
  rw [List.length_map] at h1
  exact Nat.le_trans h1 L.ups.2.2
def ptOf : Value → Nat
  | .pointer (some a) => a.block
  | _ => 0
/-- How far off the end a node is. -/
def ringLeft (h : Nat) (N T : Nat → Nat) (rs : List ERow) (up : List Nat) (v : Value) : Nat := (present rs up).length - ((present rs up).map (nid N T)).idxOf (ptOf v)
theorem ringLeft_at {h : Nat} {N T : Nat → Nat} {rs : List ERow} {up : List Nat} (hd : ((present rs up).map (nid N T)).Nodup) {k : Nat} (hk : k < (present rs up).length) : ringLeft h N T rs up (Pt (ringAt h N T rs up k)) = (present rs up).length - k := by
  unfold ringLeft ptOf Pt ringAt
  have h1 : ((present rs up).map (nid N T))[k]? = some (((present rs up).map (nid N T))[k]'(by simpa using hk)) := List.getElem?_eq_getElem _
  simp only [h1, Option.getD_some]
  rw [hd.idxOf_getElem]
theorem ringLeft_end {h : Nat} {N T : Nat → Nat} {rs : List ERow} {up : List Nat} (hh : h ∉ (present rs up).map (nid N T)) : ringLeft h N T rs up (Pt (ringAt h N T rs up (present rs up).length)) = 0 := by
  unfold ringLeft ptOf Pt ringAt
  have h1 : ((present rs up).map (nid N T))[(present rs up).length]? = none := List.getElem?_eq_none (by simp)
  simp only [h1, Option.getD_none]
  rw [List.idxOf_eq_length hh]
  simp
theorem LAt.less {Z : Nat → Prop} {base : Nat} {w : World} {x h : Nat} {N T nx pv : Nat → Nat} {rs : List ERow} {up : List Nat} {vr vl : Value} (L : LAt Z base w x h N T nx pv rs up vr vl) {k : Nat} (hk : k < (heads rs up).length) : ringLeft h N T rs up (Pt (ringAt h N T rs up (k + 1))) < ringLeft h N T rs up (Pt (ringAt h N T rs up k)) := by
  obtain ⟨h1, _, _⟩ := heads_get hk
  have hn := List.nodup_cons.1 (L.dance.leftNodup (rems N T rs up))
  rw [left_present (List.nodup_cons.1 L.dance.nodup).2 L.inj L.ups.2.1] at hn
  rw [ringLeft_at hn.2 h1]
  by_cases h2 : k + 1 < (present rs up).length
  · rw [ringLeft_at hn.2 h2]; omega
  · have : k + 1 = (present rs up).length := by omega
    rw [this, ringLeft_end hn.1]; omega
/-- The rows of the first calls, behind a place. -/
def callsTo (rs : List ERow) (up : List Nat) (place : Int) (k : Nat) : List Nat := (((heads rs up).take k).map (·.row)).filter fun i => decide (place < placeOf rs i)
theorem callsTo_succ {rs : List ERow} {up : List Nat} {place : Int} {k : Nat} (hk : k < (heads rs up).length) : callsTo rs up place (k + 1) = callsTo rs up place k ++ (if place < placeOf rs (heads rs up)[k].row then [(heads rs up)[k].row] else []) := by
  unfold callsTo
  rw [List.take_add_one, List.map_append, List.filter_append]
  congr 1
  rw [List.getElem?_eq_getElem hk]
  simp only [Option.toList_some, List.map_cons, List.map_nil, List.filter_cons, List.filter_nil]
  split <;> simp_all
theorem callsTo_all (rs : List ERow) (up : List Nat) (place : Int) : callsTo rs up place (heads rs up).length = nextsBehind rs up place := by
  unfold callsTo nextsBehind nexts
  rw [List.take_length]
theorem callsTo_len {rs : List ERow} {up : List Nat} {place : Int} {k : Nat} : (callsTo rs up place k).length ≤ k := by
  unfold callsTo
  refine Nat.le_trans (List.length_filter_le _ _) ?_
  rw [List.length_map, List.length_take]
  omega
end Go.Proofs.Ytjomjlodmelnbaa

/- Layer 16: calls, walked. No condition but that the list lies there. -/
namespace Go.Proofs.Ytjomjlodmelnbaa
open Go.RowKit Go.Sort
attribute [local go_sem] Oper.semAt_some

theorem Try.infoNode5 : (Try.prog.info? 75).map (fun i => i.size) = some 5 := by kernel_rfl
theorem run_sameAddr_apart {P : Program} {w : World} {a b : Nat} {va vb : Value} (ha : Cel w a 0 va) (hb : Cel w b 0 vb) (fz : Fre w b) (hne : a ≠ b) : (sameAddr ⟨a, 0, none⟩ ⟨b, 0, none⟩).run P w = .ok false w := by
  obtain ⟨ca, ta, fa, h1, h2⟩ := cells_of_cell? ha.1
  obtain ⟨cb, tb, fb, h3, h4⟩ := cells_of_cell? hb.1
  have h5 := ha.2
  have h6 := fz 0
  have h7 := fz cb.size
  have n1 : ca.size ≠ 0 := fun e => by rw [Array.getElem?_eq_none (by omega)] at h2; cases h2
  have n2 : cb.size ≠ 0 := fun e => by rw [Array.getElem?_eq_none (by omega)] at h4; cases h4
  simp [sameAddr, hne, noView, viewAt, mayBeOne, stringish, h5, h6, World.shape?, h1, h3, h7, n1, n2]
theorem ptr_neq {w : World} {a b : Nat} {va vb : Value} (ha : Cel w a 0 va) (hb : Cel w b 0 vb) (fz : Fre w b) (hne : a ≠ b) : (binOp .neq 65 (Pt a) (Pt b)).run Try.prog w = .ok (.bool true) w := by
  obtain ⟨j, hj, hs⟩ := Option.map_eq_some_iff.1 Try.infoNode5
  have hsz : j.size ≠ 0 := by omega
  have h : ∀ d : Nat, (Op.equalIn (d + 1) 65 (Pt a) (Pt b)).run Try.prog w = .ok false w := fun d => by
    simp [Pt, Op.equalIn, run_underlying Try.underlying65, sizeOf, typeInfo, hj, hsz, run_sameAddr_apart ha hb fz hne]
  simp only [binOp]
  simp [Op.equal, Op.maxDepth, h 9999]
theorem ptr_eq (w : World) (a : Nat) : (binOp .neq 65 (Pt a) (Pt a)).run Try.prog w = .ok (.bool false) w := by
  obtain ⟨j, hj, hs⟩ := Option.map_eq_some_iff.1 Try.infoNode5
  exact Lib.run_neq_ptr_same w _ Try.underlying65 hj
/-- Numbers that are handed back, in memory of their own. -/
def IntsP (w : World) (l : List Nat) (e : Ending) (w' : World) : Prop := ∃ v, e = .returned v ∧ w'.ownsRow w.heap.size 3 1 v l.length (l.map intV) ∧ Fr w w'
set_option maxRecDepth 100000 in
set_option maxHeartbeats 8000000 in
theorem calls_c {Z : Nat → Prop} {base : Nat} {w : World} {x : Nat} {rs : List ERow} {up : List Nat} (H : ListAt Z base w x rs up) (place : Int) :
    Calls Try.prog 41 #[Pt x, .int .i64 place] w (IntsP w (nextsBehind rs up place)) := by
  obtain ⟨h, N, T, nx, pv, vr, vl, L⟩ := H
  have HI := Lib.hid (fun W (f : Fr w W) => is16_c (x := x) (h := h) W (L.x0.fr f).1)
  obtain ⟨ar, cr, hvr, hcr, hrow⟩ := L.rowAt
  subst hvr
  have HL := Lib.hid L
  have HROW := Lib.hid hrow
  have hlen : (heads rs up).length ≤ 7036874417600 := L.headsLen
  have HLEN := Lib.hid hlen
  clear hlen
  have c0 := L.x0.1
  have lx := L.x0.lt
  have d0 := L.first.1
  have lh := L.first.lt
  clear L hrow
  go_enter Try.func41, Try.ntmps41
  go_wp2_with fail
  refine (HI.out _ (Fr.refl _)).mono ?_
  rintro e w1 ⟨rfl, hf⟩
  have c0 := hf.keep c0
  have lx := Nat.lt_of_lt_of_le lx hf.size
  have d0 := hf.keep d0
  have lh := Nat.lt_of_lt_of_le lh hf.size
  go_wp2_with fail
  go_loopw [4, 5] (fun vl vn wr => ∃ (k : Nat) (la : Option Addr) (ln lc : Nat), k ≤ (heads rs up).length ∧ vl = .slice la ln lc ∧ vn = Pt (ringAt h N T rs up k) ∧ Fr w wr ∧ Hid (wr.ownsRow w.heap.size 3 1 (.slice la ln lc) (callsTo rs up place k).length ((callsTo rs up place k).map intV))) (fun _ vn _ => ringLeft h N T rs up vn)
  case atStart => exact ⟨0, none, 0, 0, Nat.zero_le _, rfl, rfl, hf, World.ownsRow_nil _ _ _ _⟩
  case round =>
    obtain ⟨k, la, ln, lc, hk, rfl, rfl, hfr, HO⟩ := hrel
    have c0 := (HL.out.x0.fr hfr).1
    have lx := (HL.out.x0.fr hfr).lt
    by_cases hlt : k < (heads rs up).length
    · obtain ⟨hi, hrk, hnh, hnx⟩ := HL.out.atCall hlt
      have hless := HL.out.less hlt
      have hsucc := callsTo_succ (place := place) hlt
      generalize (heads rs up)[k].row = i at hi hrk hnh hnx hsucc
      obtain ⟨q2, q4, q5, q6, q7⟩ := HL.out.row i hi
      obtain ⟨g, har, hg⟩ := HROW.out i hi
      have c1 := (HL.out.x1.fr hfr).1
      rw [har] at c1
      have hg := hfr.keep hg
      have lg := lt_of_cell hg
      simp only at lg
      have q1 := (hnx.fr hfr).1
      have lN := (hnx.fr hfr).lt
      have q2 := (q2.fr hfr).1
      have q4 := (q4.fr hfr).1
      have q6 := (q6.fr hfr).1
      generalize placeOf rs i = q at q6 hsucc
      rw [hrk] at hless
      have HLESS := Lib.hid hless
      have HSUCC := Lib.hid hsucc
      have hil : (i : Int) < (rs.length : Int) := by omega
      have HNX := Lib.hid hnx
      clear hless hsucc hnx q5 q7 har
      by_cases hp : place < (q : Int)
      · rw [hrk]
        have hnq := ptr_neq ((HL.out.links (N i) (List.mem_cons_of_mem _ (nid_call hi))).1.fr hfr) ((HL.out.links h List.mem_cons_self).1.fr hfr) (HL.out.hz.fr hfr (HL.out.links h List.mem_cons_self).1.lt) hnh
        go_wp2_with fail
        go_quiet (fail)
        have hown : ((wr.drewN nq).alloc (.cells #[.int .i64 i] 3)).ownsRow w.heap.size 3 1 (.slice la ln lc) (callsTo rs up place k).length ((callsTo rs up place k).map intV) := World.ownsRow.alloc (w := wr.drewN nq) HO.out _
        have hy : ((wr.drewN nq).alloc (.cells #[.int .i64 i] 3)).cell? ⟨wr.heap.size, 0, none⟩ = some (intV i) := (BoxAt.new' (wr.drewN nq) #[.int .i64 i] 3 _ (by simp)).at 0 rfl
        have hfr2 : Fr w ((wr.drewN nq).alloc (.cells #[.int .i64 i] 3)) := (hfr.drewN nq).alloc _
        have hln : (callsTo rs up place k).length ≤ 7036874417600 := by
          have h1 := callsTo_len (rs := rs) (up := up) (place := place) (k := k)
          have h2 := HLEN.out
          omega
        go_wp2_with (at_builtin; refine wpList_appendInt (base := w.heap.size) rfl (.tmp 49) (.tmp 55) rfl (.slice la ln lc) (callsTo rs up place k) rfl hown hfr2.size wr.heap.size 1 i rfl hy hln ?_)
        intro va vn vc w5 hO5 hch5 hat5
        have hF5 : Fr w w5 := hch5.fr hfr2 fun g hg => (World.ownsRow.lt HO.out g hg).1
        have hown5 : Hid (w5.ownsRow w.heap.size 3 1 (.slice va vn vc) (callsTo rs up place (k + 1)).length ((callsTo rs up place (k + 1)).map intV)) := by
          rw [HSUCC.out, if_pos hp]
          refine Lib.hid ?_
          simpa using hO5
        have q1 := (HNX.out.fr hF5).1
        have lN := (HNX.out.fr hF5).lt
        clear hO5 hch5 hat5 hown hy hfr2 hln q2 q4 q6 c0 lx c1 hg lg hnq
        go_wp2_with fail
        go_roundw
        case rel => exact ⟨k + 1, va, vn, vc, by omega, rfl, rfl, hF5, hown5⟩
        case measure => exact HLESS.out
      · rw [hrk]
        have hnq := ptr_neq ((HL.out.links (N i) (List.mem_cons_of_mem _ (nid_call hi))).1.fr hfr) ((HL.out.links h List.mem_cons_self).1.fr hfr) (HL.out.hz.fr hfr (HL.out.links h List.mem_cons_self).1.lt) hnh
        have hown5 : Hid (wr.ownsRow w.heap.size 3 1 (.slice la ln lc) (callsTo rs up place (k + 1)).length ((callsTo rs up place (k + 1)).map intV)) := by
          rw [HSUCC.out, if_neg hp, List.append_nil]
          exact HO.out
        go_wp2_with fail
        go_quiet (fail)
        go_wp2_with fail
        go_roundw
        case rel => exact ⟨k + 1, la, ln, lc, by omega, rfl, rfl, hfr.drewN _, hown5⟩
        case measure => exact HLESS.out
    · obtain rfl : k = (heads rs up).length := by omega
      have hown5 : Hid (wr.ownsRow w.heap.size 3 1 (.slice la ln lc) (nextsBehind rs up place).length ((nextsBehind rs up place).map intV)) := by
        rw [← callsTo_all]
        exact HO.out
      rcases HL.out.atEnd with he | ⟨he, h4⟩
      · have hnq := ptr_eq wr h
        rw [he]
        go_wp2_with fail
        go_ret
        exact ⟨_, rfl, hown5.out, hfr⟩
      · obtain ⟨z0, hend⟩ := HL.out.endCel
        have hnq := ptr_neq (hend.fr hfr) ((HL.out.links h List.mem_cons_self).1.fr hfr) (HL.out.hz.fr hfr (HL.out.links h List.mem_cons_self).1.lt) he
        have c4 := (h4.fr hfr).1
        have l4 := (h4.fr hfr).lt
        generalize ringAt h N T rs up (heads rs up).length = b at *
        go_wp2_with fail
        go_ret
        exact ⟨_, rfl, hown5.out, hfr⟩
end Go.Proofs.Ytjomjlodmelnbaa

/- Layer 16: Behind, walked. No condition but that the list lies there. -/
namespace Go.Proofs.Ytjomjlodmelnbaa
open Go.RowKit Go.Sort
attribute [local go_sem] Oper.semAt_some

/-- What Behind looks through. -/
def behindOf (rs : List ERow) (up : List Nat) (i : Int) : List Nat := if i < 0 then nexts rs up else if i.toNat < rs.length then nextsBehind rs up (placeOf rs i.toNat) else []
/-- What Behind answers. -/
def firstOf (l : List Nat) : Value := .tuple #[.int .i64 ((l.head?.getD 0 : Nat) : Int), .bool (!l.isEmpty)]
theorem ints_form {w : World} {base : Nat} {v : Value} {l : List Nat} (h : w.ownsRow base 3 1 v l.length (l.map intV)) : ∃ a cap, v = .slice a l.length cap ∧ l.length ≤ cap ∧ ∀ i (hi : i < l.length), ∃ g, a = some ⟨g, 0, none⟩ ∧ w.cell? ⟨g, i, none⟩ = some (intV l[i]) := by
  have hc := fun g hg => World.ownsRow.cells h (g := g) hg
  rcases h.2 with ⟨h1, h0⟩ | ⟨g, cap, cur, h1, g1, g2, g3, g4, g5⟩
  · exact ⟨none, 0, by rw [h1, h0], by omega, fun i hi => by omega⟩
  · refine ⟨_, cap, h1, g3, fun i hi => ⟨g, rfl, ?_⟩⟩
    have := hc g (by rw [h1]; rfl) i (intV l[i]) (by simp [hi])
    rwa [WideShapes.add_plain, Nat.zero_add] at this
set_option maxRecDepth 100000 in
set_option maxHeartbeats 4000000 in
theorem behind_c {Z : Nat → Prop} {base : Nat} {w : World} {x : Nat} {rs : List ERow} {up : List Nat} (H : ListAt Z base w x rs up) (i : Int) :
    Calls Try.prog 24 #[Pt x, .int .i64 i] w fun e w' => e = .returned (firstOf (behindOf rs up i)) ∧ Fr w w' := by
  have HH := Lib.hid H
  by_cases h0 : i < 0
  · have hb : behindOf rs up i = nextsBehind rs up (-1) := by unfold behindOf; rw [if_pos h0, nextsBehind_all]
    rw [hb]
    have HC := fun W (f : Fr w W) => calls_c (HH.out.fr f) (-1)
    have HC := Lib.hid HC
    clear H hb
    have hge : ¬ i ≥ 0 := by omega
    go_enter Try.func24, Try.ntmps24
    go_wp2_with fail
    refine (HC.out _ (Fr.refl _)).mono ?_
    rintro e w1 ⟨v, rfl, hO, hf⟩
    obtain ⟨a, cap, rfl, hcap, hrow⟩ := ints_form hO
    have hF := hf
    clear hO
    obtain ⟨l, hl⟩ : ∃ l, l = nextsBehind rs up (-1) := ⟨_, rfl⟩
    rw [← hl] at hrow hcap ⊢
    have HLE := Lib.hid hl
    clear hl
    cases l with
    | nil =>
      go_wp2_with fail
      go_loopw [29] (fun i wr => i = .int .i64 0 ∧ Fr w wr) (fun _ _ => 0)
      case atStart => exact ⟨rfl, hF⟩
      case round =>
        obtain ⟨rfl, hfr⟩ := hrel
        go_wp2_with fail
        go_ret2
        exact ⟨by rw [← HLE.out]; rfl, hfr⟩
    | cons k l =>
      obtain ⟨g, rfl, hg⟩ := hrow 0 (by simp)
      have lg := lt_of_cell hg
      simp only at lg
      rw [List.getElem_cons_zero] at hg
      unfold intV at hg
      go_wp2_with fail
      go_loopw [29] (fun i wr => i = .int .i64 0 ∧ Fr w1 wr) (fun _ _ => 0)
      case atStart => exact ⟨rfl, Fr.refl _⟩
      case round =>
        obtain ⟨rfl, hfr⟩ := hrel
        have hg := hfr.keep hg
        have lg := Nat.lt_of_lt_of_le lg hfr.size
        go_wp2_with fail
        go_ret2
        exact ⟨by rw [← HLE.out]; rfl, hF.trans hfr⟩
  · by_cases h1 : i < rs.length
    · obtain ⟨k, rfl⟩ : ∃ k : Nat, i = k := ⟨i.toNat, by omega⟩
      have hk : k < rs.length := by omega
      have hb : behindOf rs up k = nextsBehind rs up (placeOf rs k) := by unfold behindOf; rw [if_neg h0, if_pos (by simpa using hk)]; simp
      rw [hb]
      obtain ⟨h, N, T, nx, pv, vr, vl, L⟩ := H
      have HC := fun W (f : Fr w W) => calls_c (HH.out.fr f) (placeOf rs k)
      have HC := Lib.hid HC
      have HA := Lib.hid (atYes_c L k hk)
      have q6 := (L.row k hk).2.2.2.1
      have c6 := q6.1
      have l6 := q6.lt
      generalize placeOf rs k = q at c6 HC ⊢
      clear L hb h1 q6
      have hge : (k : Int) ≥ 0 := by omega
      go_enter Try.func24, Try.ntmps24
      go_wp2_with fail
      refine HA.out.mono ?_
      rintro e w0 ⟨rfl, hf0⟩
      have c6 := hf0.keep c6
      have l6 := Nat.lt_of_lt_of_le l6 hf0.size
      go_wp2_with fail
      refine (HC.out _ hf0).mono ?_
      rintro e w1 ⟨v, rfl, hO, hf⟩
      obtain ⟨a, cap, rfl, hcap, hrow⟩ := ints_form hO
      have hF := hf0.trans hf
      clear hO
      obtain ⟨l, hl⟩ : ∃ l, l = nextsBehind rs up q := ⟨_, rfl⟩
      rw [← hl] at hrow hcap ⊢
      have HLE := Lib.hid hl
      clear hl
      cases l with
      | nil =>
        go_wp2_with fail
        go_loopw [29] (fun i wr => i = .int .i64 0 ∧ Fr w wr) (fun _ _ => 0)
        case atStart => exact ⟨rfl, hF⟩
        case round =>
          obtain ⟨rfl, hfr⟩ := hrel
          go_wp2_with fail
          go_ret2
          exact ⟨by rw [← HLE.out]; rfl, hfr⟩
      | cons k l =>
        obtain ⟨g, rfl, hg⟩ := hrow 0 (by simp)
        have lg := lt_of_cell hg
        simp only at lg
        rw [List.getElem_cons_zero] at hg
        unfold intV at hg
        go_wp2_with fail
        go_loopw [29] (fun i wr => i = .int .i64 0 ∧ Fr w1 wr) (fun _ _ => 0)
        case atStart => exact ⟨rfl, Fr.refl _⟩
        case round =>
          obtain ⟨rfl, hfr⟩ := hrel
          have hg := hfr.keep hg
          have lg := Nat.lt_of_lt_of_le lg hfr.size
          go_wp2_with fail
          go_ret2
          exact ⟨by rw [← HLE.out]; rfl, hF.trans hfr⟩
    · have hb : behindOf rs up i = [] := by unfold behindOf; rw [if_neg h0, if_neg (by omega)]
      rw [hb]
      obtain ⟨h, N, T, nx, pv, vr, vl, L⟩ := H
      have HA := Lib.hid (atNo_c L i (by omega))
      clear L hb h1
      have hge : i ≥ 0 := by omega
      go_enter Try.func24, Try.ntmps24
      go_wp2_with fail
      refine HA.out.mono ?_
      rintro e w0 ⟨rfl, hf0⟩
      go_wp2_with fail
      go_ret2
      exact ⟨rfl, hf0⟩
end Go.Proofs.Ytjomjlodmelnbaa

/- Layer 16: the iterator that Next hands back. No condition but that the list lies there. -/
namespace Go.Proofs.Ytjomjlodmelnbaa
open Go.RowKit Go.Sort
attribute [local go_sem] Oper.semAt_some

/-- What the value in a box owns. -/
def OutOwn (W : World) (B g : Nat) : Prop := ∃ v, W.cell? ⟨B, 0, none⟩ = some v ∧ v.ownBlock = some g
/-- What a round keeps: all cells but the box's and what its value owns. -/
structure KpO (B : Nat) (W1 W' : World) : Prop where
  size : W1.heap.size ≤ W'.heap.size
  block : ∀ k o, W1.heap[k]? = some o → o.isCells = true → k ≠ B → ¬ OutOwn W1 B k → W'.heap[k]? = some o
  own : ∀ g, OutOwn W' B g → OutOwn W1 B g ∨ W1.heap.size ≤ g
theorem kpO_t {B : Nat} {X Y Z : World} (h : KpO B X Y) (k : KpO B Y Z) : KpO B X Z := by
  refine ⟨Nat.le_trans h.size k.size, fun j o hj ho hB hn => ?_, fun g hg => ?_⟩
  · refine k.block j o (h.block j o hj ho hB hn) ho hB fun hy => ?_
    rcases h.own j hy with h1 | h1
    · exact hn h1
    · have := (Array.getElem?_eq_some_iff.1 hj).1; omega
  · rcases k.own g hg with h1 | h1
    · exact h.own g h1
    · have := h.size; exact .inr (by omega)
theorem kpO_b {B : Nat} {w : World} (hBw : B < w.heap.size) (W : World) (l : Nat) (o o' : Obj) (hl : w.heap.size ≤ l) (h : W.heap[l]? = some o) (hc : o.isCells = false) (_ : o.isWalk = false) : KpO B W (W.putObj l o') := by
  have hlW := (Array.getElem?_eq_some_iff.1 h).1
  have hlB : l ≠ B := by omega
  have hg := grownBy_putObj' W l o'
  have hbx : (W.putObj l o').cell? ⟨B, 0, none⟩ = W.cell? ⟨B, 0, none⟩ := World.cell?_of_block (a := ⟨B, 0, none⟩) (hg.block B (by omega) (fun e => hlB (Option.some.inj e).symm))
  refine ⟨hg.size, fun k p hk hp _ _ => ?_, fun g ⟨u, hu, ho⟩ => .inl ⟨u, hbx ▸ hu, ho⟩⟩
  rw [hg.block k (Array.getElem?_eq_some_iff.1 hk).1 (fun e => ?_)]
  · exact hk
  · cases e
    rw [h] at hk; cases hk; rw [hc] at hp; cases hp
theorem wp_rangeFuncO {P : Program} {α : Type} {g : Operand} {ps : Array Tmp} {assign body : Code} {Q : Exit → Act → World → Prop} {a : Act} {w : World} {B : Nat} (hBw : B < w.heap.size)
    {gf : Nat} {lb : Array Value} (hg : a.eval g = .func (.func gf) #[] lb) (eg : ∀ args w, (callFunc gf args).run P w = .ok (.enter gf args) w)
    {encs : α → Array Value} {S Sp : List α → Prop} {N : Nat} (hseq : SeqStopsK Fence.wide 8 P gf lb encs (KpO B) S Sp N w) (hps : ∀ x, (encs x).size = ps.size)
    (I : List α → World → Prop) (Ix : Code → List α → World → Prop) (hI : OwnFrom w.heap.size I) (hIx : ∀ c, OwnFrom w.heap.size (Ix c)) (h0 : I [] w) (a₁ : α → Act)
    (hassign : ∀ (l : Nat) (x : α) (W : World) (K : Act → World → Prop), K (a₁ x) W →
      assign.wpIn (Fence.wide.inRound l) 7 P (Exit.then K (fun _ _ _ => False)) { tmps := (ps.zip (encs x)).foldl (fun t (p, v) => t.setIfInBounds p v) a.tmps, defers := [] } W)
    (hbody : ∀ (l : Nat) (pre : List α) (x : α) (W : World), I pre W → pre.length < N → body.wpIn (Fence.wide.inRound l) 7 P (ownPostK (KpO B) I Ix (pre ++ [x]) W) (a₁ x) W)
    (hdone : ∀ (D : Nat) (xs : List α) (W : World), w.heap.size ≤ D → S xs → I xs W → W.heap[D]? = some (.deferred (some [])) → Q .normal { a with defers := { target := .collected D, args := #[] } :: a.defers } W)
    (hstop : ∀ (D : Nat) (c : Code) (pre : List α) (W : World), w.heap.size ≤ D → Sp pre → Ix c pre W → W.heap[D]? = some (.deferred (some [])) → c.wp P Q { a with defers := { target := .collected D, args := #[] } :: a.defers } W) :
    (Code.rangeFunc g ps assign body).wp P Q a w :=
  (wpIn_wide (n := 9)).1 (wpIn_rangeFunc_ownF (F := Fence.wide) (n := 9) rfl (by omega) hg trivial eg hseq kpO_t (kpO_b hBw) (Below.refl _ _) hps I Ix hI hIx h0 a₁ hassign hbody hdone (fun D c pre W h1 h2 h3 h4 => wpIn_wide.2 (hstop D c pre W h1 h2 h3 h4)))
set_option maxRecDepth 100000 in
set_option maxHeartbeats 2000000 in
theorem nexts_stops (p : Option Addr) (L : List Nat) (Bn B n : Nat) (w : World) (hlen : L.length ≤ 7036874417600) (hn : 1 ≤ n) (hBn : Bn < w.heap.size) (hB : B < w.heap.size) (hc : w.cell? ⟨Bn, 0, none⟩ = some (.pointer p)) (hb0 : w.cell? ⟨B, 0, none⟩ = some (.slice none 0 0)) (H : ∀ W, Fr w W → Calls Try.prog 41 #[.pointer p, .int .i64 (-1)] W (IntsP W L)) :
    SeqStopsK Fence.wide n Try.prog 48 #[.pointer (some ⟨Bn, 0, none⟩)] (fun i : Nat => #[Value.int .i64 i]) (KpO B) (fun ys => ys = L) (fun pre => pre <+: L) L.length w := by
  intro l J Jx W hW hJ _ hY h0
  have hcW := (hW.cell (p := ⟨Bn, 0, none⟩) hBn).trans hc
  have hbW := (hW.cell (p := ⟨B, 0, none⟩) hB).trans hb0
  have hsz := hW.size
  have HC := Lib.hid (H W hW)
  clear hc hBn hb0 hW H
  refine callsIn_of_wp Try.func48 rfl trivial ?_ rfl
  simp only [Try.ntmps48, List.size_toArray, List.length_cons, List.length_nil, Nat.reduceAdd, Nat.reduceSub, Array.replicate_succ, Array.replicate_zero, List.push_toArray, List.append_toArray, List.nil_append, List.cons_append]
  gi_wp2_with fail
  refine ⟨trivial, (callsIn_wide.2 HC.out).mono ?_⟩
  rintro e W1 ⟨v, rfl, hO, hf⟩
  have h1 : J [] W1 := hJ _ _ _ none h0 ⟨hf.os, hf.tape, hf.output, hf.size, fun k hk _ => hf.block hk⟩ (fun r e => by cases e)
  obtain ⟨a, cap, rfl, hcap, hrow⟩ := ints_form hO
  have hgo : ∀ g, a = some ⟨g, 0, none⟩ → g ≠ B ∧ ¬ OutOwn W1 B g ∧ ∃ o, W1.heap[g]? = some o ∧ o.isCells = true := fun g hg => by
    have h2 := World.ownsRow.lt hO g (by rw [hg]; rfl)
    refine ⟨by omega, ?_, ?_⟩
    · rintro ⟨u, hu, hw⟩
      rw [hf.keep hbW] at hu
      cases hu
      cases hw
    · rcases hO.2 with ⟨h3, _⟩ | ⟨g', c', cur, h3, _, h4, _⟩
      · rw [hg] at h3; cases h3
      · rw [hg] at h3; cases h3
        exact ⟨_, h4, rfl⟩
  have HGO := Lib.hid hgo
  have HROW := Lib.hid hrow
  clear hgo hrow hO h0 HC
  gi_wp2_with fail
  gi_loopw [8] (fun i wr => ∃ k : Nat, k ≤ L.length ∧ i = .int .i64 k ∧ J (L.take k) wr ∧ Hid (∀ g, a = some ⟨g, 0, none⟩ → wr.heap[g]? = W1.heap[g]? ∧ ¬ OutOwn wr B g)) (fun i _ => L.length - (intOf i).toNat)
  case atStart => exact ⟨0, Nat.zero_le _, rfl, h1, fun g hg => ⟨rfl, (HGO.out g hg).2.1⟩⟩
  case round =>
    clear h1
    obtain ⟨k, hk, rfl, hJs, HS⟩ := hrel
    by_cases hlt : k < L.length
    · obtain ⟨fn, tmps, assign, body, hy, hR⟩ := hY _ L[k] wr hJs (by rw [List.length_take]; omega)
      obtain ⟨g, rfl, hg⟩ := HROW.out k hlt
      have hcx : wr.cell? ⟨g, k, none⟩ = some (.int .i64 (L[k] : Nat)) := (World.cell?_of_block (a := ⟨g, k, none⟩) (HS.out g rfl).1).trans hg
      have lg := lt_of_cell hcx
      simp only at lg
      clear hg
      gi_wp2_with fail
      refine hR.mono ?_
      have htk : L.take k ++ [L[k]] = L.take (k + 1) := (List.take_succ_eq_append_getElem hlt).symm
      rw [htk]
      rintro e W3 (⟨rfl, hJ3, hk3⟩ | ⟨rfl, hJx3⟩)
      · have hS3 : Hid (∀ g', (some ⟨g, 0, none⟩ : Option Addr) = some ⟨g', 0, none⟩ → W3.heap[g']? = W1.heap[g']? ∧ ¬ OutOwn W3 B g') := fun g' hg' => by
          obtain ⟨q1, q2⟩ := HS.out g' hg'
          obtain ⟨q3, q4, o, q5, q6⟩ := HGO.out g' hg'
          refine ⟨(hk3.block g' o (q1.trans q5) q6 q3 q2).trans q5.symm, fun h => ?_⟩
          rcases hk3.own g' h with h1 | h1
          · exact q2 h1
          · have := (Array.getElem?_eq_some_iff.1 (q1.trans q5)).1
            omega
        gi_wp2_with fail
        go_roundw
        case rel => exact ⟨k + 1, by omega, by go_num, hJ3, hS3⟩
        case measure => simp [intOf]; omega
      · gi_wp2_with fail
        refine bodyPost_ret (results_none rfl _ _ _) rfl ?_
        exact ⟨⟨_, rfl⟩, .inr ⟨_, List.take_prefix _ _, hJx3⟩⟩
    · obtain rfl : k = L.length := by omega
      rw [List.take_length] at hJs
      gi_wp2_with fail
      go_end0
      exact ⟨⟨_, rfl⟩, .inl ⟨_, rfl, hJs⟩⟩
end Go.Proofs.Ytjomjlodmelnbaa

/- Layer 16: Next, and the law's list of what it hands back. No condition but that the list lies there. -/
namespace Go.Proofs.Ytjomjlodmelnbaa
open Go.RowKit Go.Sort
attribute [local go_sem] Oper.semAt_some

theorem nextFn_c (p : Option Addr) (w : World) : Calls Try.prog 33 #[.pointer p] w fun e w' => e = .returned (.func (.func 48) #[] #[.pointer (some ⟨w.heap.size, 0, none⟩)]) ∧ w' = w.alloc (.cells #[.pointer p] 24) := by
  go_enter Try.func33, Try.ntmps33
  go_wp2
  go_ret
  exact ⟨rfl, rfl⟩
/-- An append inside a round, told whose block the new slice is. -/
theorem wpListIn_append_lies {F : Fence} {n : Nat} {P : Program} (w : World) {ops : Array Oper} {rest : List Oper} {o : Oper} {a : Act} {Q : Exit → Act → World → Prop}
    (hg : o.guard = none) (s x : Operand) (t : TypeId) (hop : o.op = Op.call { callee := Callee.builtin Builtin.append, args := #[s, x], argTypes := #[t, t] })
    (base : Nat) (e : TypeId) (i : TypeInfo) (z : Value) (size bytes : Nat) (h1 : P.underlying t = some (.slice e)) (h2 : P.info? e = some i) (h3 : i.zero = some z) (h4 : i.size = size) (h5 : i.bytes = bytes) (h6 : z.cells.size = size) (h7 : 0 < size)
    (v : Value) (k : Nat) (xs : List Value) (hs : a.eval s = v) (hown : w.ownsRow base e size v k xs) (ad : Addr) (m c : Nat) (news : List Value) (hx : a.eval x = .slice (some ad) m c) (hn : news.length = m * size)
    (hc : ∀ j u, news[j]? = some u → w.cell? (ad.add j) = some u) (h1c : ∀ u ∈ news, u.oneCell' = true) (hm : 0 < m) (b1 : k + m ≤ maxLen) (b2 : (k + m) * bytes ≤ 140737488355328) (b3 : base ≤ w.heap.size)
    (hK : ∀ g cap w', w'.ownsRow base e size (.slice (some ⟨g, 0, none⟩) (k + m) cap) (k + m) (xs ++ news) → w.grownBy w' v.ownBlock → (v.ownBlock = some g ∨ g = w.heap.size) → g < w'.heap.size → wpListIn F n P ops Q rest (a.put o.dst (.slice (some ⟨g, 0, none⟩) (k + m) cap)) w') :
    wpListIn F n P ops Q (o :: rest) a w := by
  refine wpListIn_plain hg fun K hK' => ?_
  obtain ⟨g, cap, w', hrun, r1, r2, r3, r4⟩ := run_append_lies (P := P) w t o.type base e i z size bytes h1 h2 h3 h4 h5 h6 h7 v k xs hown ad m c news hn hc h1c hm b1 b2 b3 w.heap.size rfl
  unfold Oper.wpIn
  refine ⟨?_, ?_⟩
  · simp [Oper.about, hop, resolve, Target.leads, Sem.run_pure]
  · rw [Oper.semAt_plain F _ _ (by rw [hop]; intro c hc'; cases hc')]
    simp [execOp, hop, resolve, invoke, builtin, hs, hx, hrun, Result.andThen]
    exact hK' _ _ (hK g cap w' r1 r2 r3 r4)
/-- What a round that appends keeps. -/
theorem kpO_append {B : Nat} {W w1 : World} {t : TypeId} {v v' : Value} {tmp : Obj} (hv : Boxed W B t v) (hv2 : Boxed (w1.setCell ⟨B, 0, none⟩ v') B t v') (hgrow : (W.alloc tmp).grownBy w1 v.ownBlock) (hat : ∀ g, v'.ownBlock = some g → v.ownBlock = some g ∨ g = (W.alloc tmp).heap.size) : KpO B W (w1.setCell ⟨B, 0, none⟩ v') := by
  have hsz := hgrow.size
  rw [World.size_alloc] at hsz
  refine ⟨by simp; omega, fun k o hk ho hB hn => ?_, fun g ⟨u, hu, hg⟩ => ?_⟩
  · have hlt := (Array.getElem?_eq_some_iff.1 hk).1
    refine (Below.heap_setCell w1 _ _ k (fun e => hB e)).trans ?_
    refine (hgrow.block k (by simp; omega) (fun e => hn ⟨v, hv.cell, e.symm⟩)).trans ?_
    exact (Below.heap_alloc _ _ _ hlt).trans hk
  · rw [hv2.cell] at hu
    cases hu
    rcases hat g hg with h1 | h1
    · exact .inl ⟨v, hv.cell, h1⟩
    · rw [World.size_alloc] at h1; exact .inr (by omega)
/-- The law's list: numbers, and that there is one. -/
def NextP (w : World) (l : List Nat) (e : Ending) (w' : World) : Prop := ∃ v, e = .returned (.tuple #[v, .bool true]) ∧ w'.ownsRow w.heap.size 3 1 v l.length (l.map intV) ∧ Fr w w'
set_option maxRecDepth 100000 in
set_option maxHeartbeats 4000000 in
theorem nextV_c {w : World} (p : Option Addr) (L : List Nat) (hlen : L.length ≤ 7036874417600) (H : ∀ W, Fr w W → Calls Try.prog 41 #[.pointer p, .int .i64 (-1)] W (IntsP W L)) :
    Calls Try.prog 11 #[.pointer p] w (NextP w L) := by
  have H2 := Lib.hid (fun W => nextFn_c p W)
  have hnil := fun W => run_eql_fnil Try.underlying81 (.func 48) #[] #[.pointer (some ⟨w.heap.size, 0, none⟩)] W
  have hf2 : Fr w ((w.alloc (.cells #[.pointer p] 24)).alloc (.cells #[.slice none 0 0] 27)) := ((Fr.refl w).alloc _).alloc _
  have bO := Boxed.new (w.alloc (.cells #[.pointer p] 24)) 27 (.slice none 0 0)
  have bN := (Boxed.new w 24 (.pointer p)).alloc (.cells #[.slice none 0 0] 27)
  rw [World.size_alloc] at bO
  have hS := nexts_stops p L (w.heap.size) (w.heap.size + 1) 8 _ hlen (by omega) (by simp; omega) (by simp) bN.cell bO.cell (fun W hW => H W (hf2.trans hW))
  have HS := Lib.hid hS
  have HF2 := Lib.hid hf2
  have HBO := Lib.hid bO
  clear H hS hf2 bO bN
  obtain ⟨i0, hi, hz0, hz1, hz2⟩ := info_parts Try.infoIntB
  refine calls_of_marks Try.func11 rfl ?_
  simp only [Try.ntmps11, List.size_toArray, List.length_cons, List.length_nil, Nat.reduceAdd, Nat.reduceSub, Array.replicate_succ, Array.replicate_zero, List.push_toArray, List.append_toArray, List.nil_append, List.cons_append]
  go_wp2_with fail
  refine (H2.out _).mono ?_
  rintro e w2 ⟨rfl, rfl⟩
  go_wp2_with fail
  have hz : ((w.alloc (.cells #[.pointer p] 24)).alloc (.cells #[.slice none 0 0] 27)).heap.size = w.heap.size + 2 := by simp
  generalize ((w.alloc (.cells #[.pointer p] 24)).alloc (.cells #[.slice none 0 0] 27)) = w3 at HS HF2 HBO hz ⊢
  refine wp_rangeFuncO (B := w.heap.size + 1) (by omega) (α := Nat) (encs := fun i : Nat => #[Value.int .i64 i]) (gf := 48) (lb := #[.pointer (some ⟨w.heap.size, 0, none⟩)]) rfl (enters_of Try.func48 (by kernel_rfl) rfl)
    HS.out (fun _ => rfl)
    (fun pre W => (∃ v, Boxed W (w.heap.size + 1) 27 v ∧ W.ownsRow w.heap.size 3 1 v pre.length (pre.map intV) ∧ True) ∧ Below w.heap.size w W)
    (fun _ _ _ => False)
    (OwnFrom.and (Own.from (holdsRow_own w.heap.size (w.heap.size + 1) 27 3 1 (fun pre => pre.length) (fun pre : List Nat => pre.map intV) (fun _ _ => True)) _) (ownFrom_below (Nat.le_refl _) (by omega)))
    (fun _ _ _ _ _ hs _ _ => hs)
    ⟨⟨_, HBO.out, World.ownsRow_nil _ _ _ _, trivial⟩, HF2.out⟩
    (fun x' => { tmps := #[.pointer p, undef, .slice none 0 0, .bool false, .func (.func 48) #[] #[.pointer (some ⟨w.heap.size, 0, none⟩)], .pointer (some ⟨w.heap.size + 1, 0, none⟩), .int .i64 (x' : Nat), .pointer p, .func (.func 48) #[] #[.pointer (some ⟨w.heap.size, 0, none⟩)], .func (.func 48) #[] #[.pointer (some ⟨w.heap.size, 0, none⟩)], .bool false, .func (.func 48) #[] #[.pointer (some ⟨w.heap.size, 0, none⟩)], .int .i64 (x' : Nat), undef, undef, undef, undef, undef], defers := [] }) ?assign ?body ?done ?stop
  case assign =>
    intro l y W K hK
    gi_wp2
    exact hK
  case body =>
    rintro l pre y W ⟨⟨v, hv, hrow, _⟩, hB⟩ hlt
    have hc := hv.cell
    have hBs := hB.size
    have hal := hrow.alloc (.cells #[.int .i64 (y : Nat)] 3)
    have b1 : pre.length + 1 ≤ maxLen := by unfold maxLen; omega
    have b2 : (pre.length + 1) * 8 ≤ 140737488355328 := by omega
    have b3 : w.heap.size ≤ (W.alloc (.cells #[.int .i64 (y : Nat)] 3)).heap.size := by simp; omega
    have hkey : ∀ g' cap' w1, World.ownsRow w1 w.heap.size 3 1 (.slice (some ⟨g', 0, none⟩) (pre.length + 1) cap') (pre.length + 1) (pre.map intV ++ [.int .i64 (y : Nat)]) → (W.alloc (.cells #[.int .i64 (y : Nat)] 3)).grownBy w1 v.ownBlock → (v.ownBlock = some g' ∨ g' = (W.alloc (.cells #[.int .i64 (y : Nat)] 3)).heap.size) → Boxed w1 (w.heap.size + 1) 27 v ∧ Hid (KeepsOthers W (w1.setCell ⟨w.heap.size + 1, 0, none⟩ (.slice (some ⟨g', 0, none⟩) (pre.length + 1) cap')) ∧ KpO (w.heap.size + 1) W (w1.setCell ⟨w.heap.size + 1, 0, none⟩ (.slice (some ⟨g', 0, none⟩) (pre.length + 1) cap')) ∧ (∃ v, Boxed (w1.setCell ⟨w.heap.size + 1, 0, none⟩ (.slice (some ⟨g', 0, none⟩) (pre.length + 1) cap')) (w.heap.size + 1) 27 v ∧ World.ownsRow (w1.setCell ⟨w.heap.size + 1, 0, none⟩ (.slice (some ⟨g', 0, none⟩) (pre.length + 1) cap')) w.heap.size 3 1 v (pre ++ [y]).length ((pre ++ [y]).map intV) ∧ True) ∧ Below w.heap.size w (w1.setCell ⟨w.heap.size + 1, 0, none⟩ (.slice (some ⟨g', 0, none⟩) (pre.length + 1) cap'))) := by
      intro g' cap' w1 hown' hgrow hat
      obtain ⟨hv1, hv2, hr2, hk2, hb2⟩ := hv.appended (by decide) hrow hB.size (by omega) hown' hgrow
      have hkp := kpO_append hv hv2 hgrow (fun g hg => (Option.some.inj (show some g' = some g from hg)) ▸ hat)
      refine ⟨hv1, hk2, hkp, ⟨_, hv2, ?_, trivial⟩, hB.trans hb2⟩
      simpa [intV] using hr2
    clear hrow
    gi_wp2_with (gi_at_builtin; refine wpListIn_append_lies _ rfl _ _ 27 rfl w.heap.size 3 i0 (.int .i64 0) 1 8 Try.underlying27 hi hz0 hz1 hz2 rfl (by decide) v pre.length (pre.map intV) rfl hal ⟨W.heap.size, 0, none⟩ 1 1 [.int .i64 (y : Nat)] rfl rfl (cell_one_new _ _ _) (by simp [Value.oneCell']) (by decide) b1 b2 b3 ?_; intro g' cap' w1 hown' hgrow hat _; obtain ⟨hv1, HK⟩ := hkey g' cap' w1 hown' hgrow hat; have hc1 := hv1.cell; have hf1 := hv1.frozen; have hl1 := hv1.lt; clear hown' hgrow hat)
    exact HK.out
  case done =>
    rintro D ys W hD rfl ⟨⟨v, hv, hrow, _⟩, hB⟩ hK
    have hc := hv.cell
    have hl := hv.lt
    go_wp2_with fail
    refine ⟨by simp, .inl ⟨_, _, rfl, run_takeDeferred hK, ?_⟩⟩
    refine ⟨.tuple #[v, .bool true], ?_, v, rfl, ownsRow_putObj hrow _ hK rfl, hB.trans (belowK_b (w := w) (Nat.le_refl _) W D _ _ (by omega) hK rfl rfl)⟩
    simp [results, Try.results11, go_sem]
  case stop =>
    rintro D c pre W _ _ h _
    exact h.elim
theorem next_c {Z : Nat → Prop} {base : Nat} {w : World} {x : Nat} {rs : List ERow} {up : List Nat} (H : ListAt Z base w x rs up) :
    Calls Try.prog 11 #[Pt x] w (NextP w (nexts rs up)) := by
  refine nextV_c (some ⟨x, 0, none⟩) _ ?_ (fun W f => ?_)
  · obtain ⟨h, N, T, nx, pv, vr, vl, L⟩ := H
    exact Nat.le_trans (nexts_len rs up) L.ups.2.2
  · rw [← nextsBehind_all]
    exact calls_c (H.fr f) (-1)
end Go.Proofs.Ytjomjlodmelnbaa

/- Layer 16: a list and its blocks; New, Lift, Unlift as they are used. No condition but that the list lies there. -/
namespace Go.Proofs.Ytjomjlodmelnbaa
open Go.RowKit Go.Sort
attribute [local go_sem] Oper.semAt_some

theorem ListAt.mono {Z Z' : Nat → Prop} {base base' : Nat} {w : World} {x : Nat} {rs : List ERow} {up : List Nat} (H : ListAt Z base w x rs up) (hz : ∀ b, b < w.heap.size → Z b → Z' b) (hb : base' ≤ base) : ListAt Z' base' w x rs up := by
  obtain ⟨h, N, T, nx, pv, vr, vl, L⟩ := H
  exact ⟨h, N, T, nx, pv, vr, vl, ⟨L.x0, L.x1, L.x2, L.x3, L.links, L.row, L.ret, ownsRow_base L.rows hb, ownsRow_base L.lifted hb, L.dance, L.ups, L.inj, L.apart,
    fun g hg => ⟨hz g (World.ownsRow.lt L.rows g hg).2 (L.ownr g hg).1, (L.ownr g hg).2⟩, fun g hg => ⟨hz g (World.ownsRow.lt L.lifted g hg).2 (L.ownl g hg).1, (L.ownl g hg).2⟩,
    ⟨hz x L.x0.lt L.zs.1, fun b hb => hz b (L.links b hb).1.lt (L.zs.2 b hb)⟩, L.hz⟩⟩
/-- A list whose blocks are of Z, all new since base, all there. -/
structure Lst (base : Nat) (w : World) (x : Nat) (rs : List ERow) (up : List Nat) (Z : Nat → Prop) : Prop where
  at_ : ListAt Z base w x rs up
  ge : ∀ b, Z b → base ≤ b
  lt : ∀ b, Z b → b < w.heap.size
theorem Lst.ups {base : Nat} {w : World} {x : Nat} {rs : List ERow} {up : List Nat} {Z : Nat → Prop} (H : Lst base w x rs up Z) : up.Nodup ∧ ∀ i ∈ up, i < rs.length := by
  obtain ⟨h, N, T, nx, pv, vr, vl, L⟩ := H.at_
  exact ⟨L.ups.1, L.ups.2.1⟩
theorem Lst.few {base : Nat} {w : World} {x : Nat} {rs : List ERow} {up : List Nat} {Z : Nat → Prop} (H : Lst base w x rs up Z) : rs.length ≤ 7036874417600 := by
  obtain ⟨h, N, T, nx, pv, vr, vl, L⟩ := H.at_
  exact L.ups.2.2
theorem ListAt.keep {Z : Nat → Prop} {base : Nat} {w w' : World} {x : Nat} {rs : List ERow} {up : List Nat} (H : ListAt Z base w x rs up) {S : Nat → Prop} (k : Chg S w w') (hz : ∀ b, Z b → b < w.heap.size → ¬ S b) : ListAt Z base w' x rs up := by
  obtain ⟨h, N, T, nx, pv, vr, vl, L⟩ := H
  exact ⟨h, N, T, nx, pv, vr, vl, L.keep k hz⟩
theorem Lst.keep {base : Nat} {w w' : World} {x : Nat} {rs : List ERow} {up : List Nat} {Z S : Nat → Prop} (H : Lst base w x rs up Z) (k : Chg S w w') (hz : ∀ b, Z b → ¬ S b) : Lst base w' x rs up Z :=
  ⟨H.at_.keep k fun b hb _ => hz b hb, H.ge, fun b hb => Nat.lt_of_lt_of_le (H.lt b hb) k.size⟩
theorem Lst.fr {base : Nat} {w w' : World} {x : Nat} {rs : List ERow} {up : List Nat} {Z : Nat → Prop} (H : Lst base w x rs up Z) (f : Fr w w') : Lst base w' x rs up Z := ⟨H.at_.fr f, H.ge, fun b hb => Nat.lt_of_lt_of_le (H.lt b hb) f.size⟩
/-- What New makes. -/
def NewQ (base : Nat) (w : World) (rs : List ERow) (e : Ending) (w' : World) : Prop := Fr w w' ∧ ((mayRows rs = false ∧ e = .returned (.pointer none)) ∨ (mayRows rs = true ∧ ∃ x Z, e = .returned (Pt x) ∧ Lst base w' x rs [] Z ∧ ∀ b, Z b → w.heap.size ≤ b))
theorem new16_c {base : Nat} (l : List TRow) (v : Value) (w : World) (hl : RdT w v l) (hn : l.length ≤ 3518437208780) (hb : base ≤ w.heap.size) : Calls Try.prog 8 #[v] w (NewQ base w (eRows l)) := by
  refine (new_c l v w hl hn).mono ?_
  rintro e w' ⟨hf, ⟨h1, rfl⟩ | ⟨h1, x, h, B, N, T, nx, pv, vr, w0, rfl, hf0, hf1, S⟩⟩
  · exact ⟨hf, .inl ⟨h1, rfl⟩⟩
  · have hL := S.list (by rw [eRows_len]; omega) hf1
    refine ⟨hf, .inr ⟨h1, x, fun b => w.heap.size ≤ b ∧ b < w'.heap.size, rfl, ⟨hL.mono (fun b hb hz => ⟨Nat.le_trans hf0.size hz, hb⟩) (Nat.le_trans hb hf0.size), fun b hb' => Nat.le_trans hb hb'.1, fun b hb => hb.2⟩, fun b hb => hb.1⟩⟩
/-- Lift, as a function. -/
def liftOf (rs : List ERow) (up : List Nat) (i : Int) : Nat × List Nat := if 0 ≤ i ∧ i < rs.length then (if i.toNat ∈ up then (8, up) else (0, up ++ [i.toNat])) else (2, up)
/-- A list that was turned: its blocks are what they were, and new ones. -/
def Turned (base : Nat) (w w' : World) (x : Nat) (rs : List ERow) (up : List Nat) (Z : Nat → Prop) : Prop := ∃ Z', Lst base w' x rs up Z' ∧ (∀ b, Z' b → Z b ∨ w.heap.size ≤ b) ∧ Chg Z w w'
theorem Lst.turned {base : Nat} {w w' : World} {x : Nat} {rs : List ERow} {up : List Nat} {Z : Nat → Prop} (hge : ∀ b, Z b → base ≤ b) (hb : base ≤ w.heap.size) (H : ListAt (fun b => Z b ∨ w.heap.size ≤ b) base w' x rs up) (k : Chg (fun b => Z b ∨ w.heap.size ≤ b) w w') : Turned base w w' x rs up Z := by
  refine ⟨fun b => (Z b ∨ w.heap.size ≤ b) ∧ b < w'.heap.size, ⟨H.mono (fun b hb hz => ⟨hz, hb⟩) (Nat.le_refl _), fun b hz => ?_, fun b hz => hz.2⟩, fun b hz => hz.1, ⟨k.os, k.tape, k.output, k.size, fun j hj hn => k.block j hj fun e => ?_⟩⟩
  · rcases hz.1 with h1 | h1
    · exact hge b h1
    · omega
  · rcases e with e | e
    · exact hn e
    · omega
def LiftQ (base : Nat) (w : World) (x : Nat) (rs : List ERow) (up : List Nat) (Z : Nat → Prop) (i : Int) (e : Ending) (w' : World) : Prop := e = .returned (.int .i64 ((liftOf rs up i).1 : Nat)) ∧ Turned base w w' x rs (liftOf rs up i).2 Z
theorem lift16_c {base : Nat} {w : World} {x : Nat} {rs : List ERow} {up : List Nat} {Z : Nat → Prop} (H : Lst base w x rs up Z) (hb : base ≤ w.heap.size) (i : Int) : Calls Try.prog 12 #[Pt x, .int .i64 i] w (LiftQ base w x rs up Z i) := by
  have hsame : ∀ {w'}, Fr w w' → Turned base w w' x rs up Z := fun {w'} hf => ⟨Z, H.fr hf, fun b h => .inl h, hf.chg⟩
  unfold LiftQ liftOf
  by_cases h1 : 0 ≤ i ∧ i < rs.length
  · obtain ⟨k, rfl⟩ : ∃ k : Nat, i = k := ⟨i.toNat, by omega⟩
    have hk : k < rs.length := by omega
    rw [if_pos h1, Int.toNat_natCast]
    by_cases h2 : k ∈ up
    · rw [if_pos h2]
      refine (liftThere_c H.at_ k hk h2).mono ?_
      rintro e w' ⟨rfl, hf⟩
      exact ⟨rfl, hsame hf⟩
    · rw [if_neg h2]
      refine (lift_c (Z := fun b => Z b ∨ w.heap.size ≤ b) (H.at_.mono (fun b _ h => .inl h) (Nat.le_refl _)) (fun k hk => .inr hk) hb k hk h2).mono ?_
      rintro e w' ⟨rfl, hL, hC⟩
      exact ⟨rfl, Lst.turned H.ge hb hL hC⟩
  · rw [if_neg h1]
    refine (liftArg_c H.at_ i (by omega)).mono ?_
    rintro e w' ⟨rfl, hf⟩
    exact ⟨rfl, hsame hf⟩
def UnQ (base : Nat) (w : World) (x : Nat) (rs : List ERow) (up : List Nat) (Z : Nat → Prop) (e : Ending) (w' : World) : Prop := (up = [] ∧ e = .returned (.tuple #[.int .i64 0, .int .i64 11]) ∧ Turned base w w' x rs [] Z) ∨ ∃ up0 i, up = up0 ++ [i] ∧ e = .returned (.tuple #[.int .i64 (i : Nat), .int .i64 0]) ∧ Turned base w w' x rs up0 Z
theorem unlift16_c {base : Nat} {w : World} {x : Nat} {rs : List ERow} {up : List Nat} {Z : Nat → Prop} (H : Lst base w x rs up Z) (hb : base ≤ w.heap.size) : Calls Try.prog 26 #[Pt x] w (UnQ base w x rs up Z) := by
  rcases List.eq_nil_or_concat up with rfl | ⟨up0, i, rfl⟩
  · refine (unliftNone_c H.at_).mono ?_
    rintro e w' ⟨rfl, hf⟩
    exact .inl ⟨rfl, rfl, Z, H.fr hf, fun b h => .inl h, hf.chg⟩
  · have H2 := H
    rw [List.concat_eq_append] at H2
    refine (unlift_c (Z := fun b => Z b ∨ w.heap.size ≤ b) (H2.at_.mono (fun b _ h => .inl h) (Nat.le_refl _))).mono ?_
    rintro e w' ⟨rfl, hL, hC⟩
    exact .inr ⟨up0, i, by simp, rfl, Lst.turned H.ge hb hL hC⟩
end Go.Proofs.Ytjomjlodmelnbaa
