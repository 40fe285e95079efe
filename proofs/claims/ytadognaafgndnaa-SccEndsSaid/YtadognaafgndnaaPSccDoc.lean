/- Layer 28: the document's Count, Group, Turns: their walks. No condition but bounds. -/
import Derived.Test.YtadognaafgndnaaPSccNum
import Derived.Test.YtadognaafgndnaaPSccRd
import Derived.Test.YtadognaafgndnaaPGen
set_option linter.all false
set_option linter.unusedVariables false
set_option linter.unusedSimpArgs false
set_option linter.unnecessarySimpa false
/- Layer 28: the document's Count, Group, Turns: their walks. No condition but bounds. -/
namespace Go.Proofs.Ytadognaafgndnaa
open Go.RowKit
attribute [local go_sem] Oper.semAt_some

theorem countTo_lt {l : List Nat} {B : Nat} (h : ∀ x ∈ l, x ≤ B) : ∀ i, i ≤ l.length → countTo l i ≤ B + 1
  | 0, _ => Nat.zero_le _
  | i + 1, hi => by
    have ih := countTo_lt h i (by omega)
    have h2 : l.getD i 0 ≤ B := by
      rw [List.getD_eq_getElem?_getD, List.getElem?_eq_getElem (by omega)]
      exact h _ (List.getElem_mem (by omega))
    show (if countTo l i ≤ l.getD i 0 then l.getD i 0 + 1 else countTo l i) ≤ _
    split <;> omega
set_option maxRecDepth 100000 in
set_option maxHeartbeats 1000000 in
theorem docCount_c {w : World} {v : Value} {l : List Nat} (hv : RdI w v l) (hb : l.length ≤ 5864062014640) (hx : ∀ x ∈ l, x ≤ 5864062014640) :
    Calls Try.prog 18 #[v] w fun e w' => e = .returned (.int .i64 (countTo l l.length : Nat)) ∧ Fr w w' := by
  have HB := Lib.hid (fun i hi => countTo_lt hx i hi)
  obtain ⟨va, vc, rfl, hvc, hx2⟩ := hv
  have HX := Lib.hid hx2
  have HXB := Lib.hid hx
  clear hx2 hx
  go_enter Try.func18, Try.ntmps18
  go_wp2_with fail
  go_loopw [3, 4] (fun vn vi wr => ∃ i : Nat, i ≤ l.length ∧ vi = .int .i64 i ∧ vn = .int .i64 (countTo l i : Nat) ∧ Hid (Fr w wr)) (fun _ vi _ => l.length - (intOf vi).toNat)
  case atStart => exact ⟨0, Nat.zero_le _, rfl, rfl, Fr.refl _⟩
  case round =>
    obtain ⟨i, hi, rfl, rfl, HR⟩ := hrel
    by_cases hit : i < l.length
    · obtain ⟨q, p, rfl, hz⟩ := HX.out i hit
      have hz := HR.out.keep hz
      have lq := lt_of_cell hz
      simp only at lq
      have hxb := HXB.out _ (List.getElem_mem hit)
      have hcb := HB.out i hi
      have HC : Hid (countTo l (i + 1) = if countTo l i ≤ l[i] then l[i] + 1 else countTo l i) := Lib.hid (by
        show (if countTo l i ≤ l.getD i 0 then l.getD i 0 + 1 else countTo l i) = _
        rw [getD_at hit])
      unfold intV at hz
      generalize l[i] = x at hz hxb HC
      obtain ⟨c1, hc1⟩ : ∃ c1, c1 = countTo l (i + 1) := ⟨_, rfl⟩
      rw [← hc1] at HC
      generalize countTo l i = c at HC hcb
      by_cases h : c ≤ x
      · have h1 : (x : Int) ≥ (c : Int) := by omega
        have HE : Hid (countTo l (i + 1) = x + 1) := Lib.hid (by rw [← hc1, HC.out, if_pos h])
        clear HC hc1 h hcb
        go_wp2_with fail
        go_roundw
        case rel => exact ⟨i + 1, by omega, by go_num, by rw [HE.out]; go_num, HR⟩
        case measure => first | (simp [intOf]; done) | (simp [intOf]; omega)
      · have h1 : ¬ (x : Int) ≥ (c : Int) := by omega
        have HE : Hid (countTo l (i + 1) = c) := Lib.hid (by rw [← hc1, HC.out, if_neg h])
        clear HC hc1 h hcb
        go_wp2_with fail
        go_roundw
        case rel => exact ⟨i + 1, by omega, by go_num, by rw [HE.out], HR⟩
        case measure => first | (simp [intOf]; done) | (simp [intOf]; omega)
    · obtain rfl : i = l.length := by omega
      go_wp2_with fail
      go_ret
      exact ⟨rfl, HR.out⟩
/-- The nodes of a component, so far. -/
def groupTo (l : List Nat) (c i : Nat) : List Nat := (List.range i).filter fun k => decide (l.getD k 0 = c)
theorem groupTo_succ (l : List Nat) (c i : Nat) : groupTo l c (i + 1) = groupTo l c i ++ if l.getD i 0 = c then [i] else [] := by
  unfold groupTo
  rw [List.range_succ, List.filter_append]
  congr 1
  by_cases h : l.getD i 0 = c
  · rw [if_pos h]; simp at h; simp [h]
  · rw [if_neg h]; simp at h; simp [h]
theorem groupTo_len (l : List Nat) (c i : Nat) : (groupTo l c i).length ≤ i := by
  have := List.length_filter_le (fun k => decide (l.getD k 0 = c)) (List.range i)
  rw [List.length_range] at this
  exact this
set_option maxRecDepth 100000 in
set_option maxHeartbeats 1000000 in
theorem docGroup_c {w : World} {v : Value} {l : List Nat} (c : Nat) (hv : RdI w v l) (hb : l.length ≤ 5864062014640) :
    Calls Try.prog 19 #[v, .int .i64 c] w fun e w' => ∃ vo, e = .returned vo ∧ RdI w' vo (groupF l c) ∧ Fr w w' := by
  obtain ⟨va, vc, rfl, hvc, hx2⟩ := hv
  have HX := Lib.hid hx2
  clear hx2
  go_enter Try.func19, Try.ntmps19
  go_wp2_with fail
  go_loopw [5, 6] (fun vo vi wr => ∃ i : Nat, i ≤ l.length ∧ vi = .int .i64 i ∧ Hid (Fr w wr ∧ wr.ownsRow w.heap.size 3 1 vo (groupTo l c i).length ((groupTo l c i).map intV))) (fun _ vi _ => l.length - (intOf vi).toNat)
  case atStart => exact ⟨0, Nat.zero_le _, rfl, Fr.refl _, World.ownsRow_nil _ _ _ _⟩
  case round =>
    obtain ⟨i, hi, rfl, HR⟩ := hrel
    by_cases hit : i < l.length
    · obtain ⟨q, p, rfl, hz⟩ := HX.out i hit
      have hz := HR.out.1.keep hz
      have lq := lt_of_cell hz
      simp only at lq
      have HT := Lib.hid (groupTo_succ l c i)
      rw [getD_at hit] at HT
      have hlen : (groupTo l c i).length ≤ 5864062014640 := Nat.le_trans (groupTo_len l c i) (by omega)
      unfold intV at hz
      generalize l[i] = x at hz HT
      obtain ⟨oa, oc, rfl⟩ := ints_at HR.out.2
      by_cases h : x = c
      · subst h
        have hown := HR.out.2.alloc (.cells #[.int .i64 (i : Nat)] 3)
        have hy : (wr.alloc (.cells #[.int .i64 (i : Nat)] 3)).cell? ⟨wr.heap.size, 0, none⟩ = some (intV i) := (BoxAt.new' wr #[.int .i64 (i : Nat)] 3 _ (by simp)).at 0 rfl
        have hsz := (HR.out.1.alloc (.cells #[.int .i64 (i : Nat)] 3)).size
        have HF := Lib.hid (HR.out.1.alloc (.cells #[.int .i64 (i : Nat)] 3))
        have HT2 : Hid (groupTo l x (i + 1) = groupTo l x i ++ [i]) := Lib.hid (by rw [HT.out, if_pos rfl])
        clear HR HT
        go_wp2_with (at_builtin; refine wpList_appendInt (base := w.heap.size) rfl (.tmp 19) (.tmp 21) rfl _ (groupTo l x i) rfl hown hsz wr.heap.size 1 i rfl hy hlen ?_)
        intro va vn vc w6 hO6 hch6 hat6
        have HN : Hid (Fr w w6 ∧ w6.ownsRow w.heap.size 3 1 (.slice va vn vc) (groupTo l x (i + 1)).length ((groupTo l x (i + 1)).map intV)) := Lib.hid ⟨hch6.fr HF.out fun b hb => (World.ownsRow.lt hown b hb).1, by rw [HT2.out]; simpa using hO6⟩
        clear hO6 hch6 hat6 hown hy hsz HF HT2 hz lq
        go_wp2_with fail
        go_roundw
        case rel => exact ⟨i + 1, by omega, by go_num, HN⟩
        case measure => first | (simp [intOf]; done) | (simp [intOf]; omega)
      · have h1 : ¬ (x : Int) = (c : Int) := by omega
        have h2 : ((x : Int) == (c : Int)) = false := by simpa using h1
        have h3 : (x == c) = false := by simpa using h
        have HN : Hid (Fr w wr ∧ wr.ownsRow w.heap.size 3 1 (.slice oa (groupTo l c i).length oc) (groupTo l c (i + 1)).length ((groupTo l c (i + 1)).map intV)) := Lib.hid (by
          have e : groupTo l c (i + 1) = groupTo l c i := by rw [HT.out, if_neg h, List.append_nil]
          rw [e]; exact HR.out)
        clear HR HT h
        go_wp2_with fail
        go_roundw
        case rel => exact ⟨i + 1, by omega, by go_num, HN⟩
        case measure => first | (simp [intOf]; done) | (simp [intOf]; omega)
    · obtain rfl : i = l.length := by omega
      have HR2 := Lib.hid (And.intro (RdI.own HR.out.2) HR.out.1)
      clear HR
      go_wp2_with fail
      go_ret
      exact ⟨_, rfl, HR2.out⟩
set_option maxRecDepth 100000 in
set_option maxHeartbeats 1000000 in
theorem docTurns_c {w : World} {vN v : Value} {N : List (List Nat)} {g : List Nat} (hN : RdGr w vN N) (hv : RdI w v g) (h0 : 0 < g.length) (hh : headN g < N.length) (hgb : g.length ≤ 5864062014640) :
    Calls Try.prog 20 #[vN, v] w fun e w' => e = .returned (.bool (turnsG N g)) ∧ Fr w w' := by
  obtain ⟨na, nc, rfl, hnc, hnx⟩ := hN
  obtain ⟨va, vc, rfl, hvc, hx⟩ := hv
  obtain ⟨q, p, rfl, hz⟩ := hx 0 h0
  have hhead : g[0] = headN g := by
    cases g with
    | nil => simp at h0
    | cons a l => rfl
  rw [hhead, Nat.add_zero] at hz
  obtain ⟨nq, np, nu, rfl, hn2, ⟨ua, uc, rfl, huc, hux⟩, hnl⟩ := hnx _ hh
  have hout : N[headN g] = outs N (headN g) := by unfold outs; rw [List.getD_eq_getElem?_getD, List.getElem?_eq_getElem hh]; rfl
  have HU := Lib.hid hux
  obtain ⟨r, hr⟩ : ∃ r, r = turnsG N g := ⟨_, rfl⟩
  rw [← hr]
  have HR : Hid (r = (decide (1 < g.length) || (N[headN g]).contains (headN g))) := Lib.hid (by rw [hr, hout]; rfl)
  clear hnx hx hux hhead hout hr
  generalize N[headN g] = l at hn2 hnl HU HR huc
  generalize headN g = h at hz hh hn2 HR
  unfold intV at hz
  have lq := lt_of_cell hz
  have ln := lt_of_cell hn2
  simp only at lq ln
  generalize g.length = gl at h0 hgb HR hvc
  by_cases h1 : 1 < gl
  · have HE : Hid (r = true) := Lib.hid (by rw [HR.out]; simp [h1])
    have h2 : (gl : Int) > 1 := by omega
    clear HR
    go_enter Try.func20, Try.ntmps20
    go_wp2_with fail
    go_ret
    exact ⟨by rw [HE.out]; rfl, by first | exact Fr.refl _ | exact (Fr.refl _).drewN _⟩
  · have HE : Hid (r = l.contains h) := Lib.hid (by rw [HR.out]; simp [h1])
    have h2 : ¬ (gl : Int) > 1 := by omega
    clear HR h1
    go_enter Try.func20, Try.ntmps20
    go_wp2_with fail
    go_loopw [5] (fun vi wr => ∃ i : Nat, i ≤ l.length ∧ vi = .int .i64 i ∧ Hid (Fr w wr ∧ (l.take i).contains h = false)) (fun vi _ => l.length - (intOf vi).toNat)
    case atStart => exact ⟨0, Nat.zero_le _, rfl, Fr.refl _, by simp⟩
    case round =>
      obtain ⟨i, hi, rfl, HI⟩ := hrel
      have hz := HI.out.1.keep hz
      have hn2 := HI.out.1.keep hn2
      have lq := lt_of_cell hz
      have ln := lt_of_cell hn2
      simp only at lq ln
      by_cases hit : i < l.length
      · obtain ⟨xq, xp, rfl, hxz⟩ := HU.out i hit
        have hxz := HI.out.1.keep hxz
        have lx := lt_of_cell hxz
        simp only at lx
        have HT : Hid ((l.take (i + 1)).contains h = ((l.take i).contains h || (l[i] == h))) := Lib.hid (by
          rw [List.take_succ_eq_append_getElem hit, Bool.eq_iff_iff, Bool.or_eq_true, List.contains_iff_mem, List.contains_iff_mem, List.mem_append, List.mem_singleton, beq_iff_eq]
          exact or_congr Iff.rfl eq_comm)
        have HA : Hid (l[i] = h → l.contains h = true) := Lib.hid (fun e => List.contains_iff_mem.2 (by rw [← e]; exact List.getElem_mem hit))
        unfold intV at hxz
        generalize l[i] = x at hxz HT HA
        by_cases e : x = h
        · have HY : Hid (r = true) := Lib.hid (by rw [HE.out]; exact HA.out e)
          subst e
          have HFF := Lib.hid HI.out.1
          clear HT HA HE HI HU
          go_wp2_with fail
          go_quiet (fail)
          go_wp2_with fail
          go_ret
          exact ⟨by rw [HY.out]; rfl, by first | exact HFF.out | exact HFF.out.drew | exact HFF.out.drewN _⟩
        · have e1 : ¬ (x : Int) = (h : Int) := by omega
          have e2 : ((x : Int) == (h : Int)) = false := by simpa using e1
          have e3 : (x == h) = false := by simpa using e
          have HN : Hid (∀ W, Fr wr W → Fr w W ∧ (l.take (i + 1)).contains h = false) := Lib.hid (fun W f => ⟨HI.out.1.trans f, by rw [HT.out, HI.out.2, e3]; rfl⟩)
          clear HT HA HI HU e
          go_wp2_with fail
          go_quiet (fail)
          go_wp2_with fail
          go_roundw
          case rel => exact ⟨i + 1, by omega, by go_num, HN.out _ (by first | exact Fr.refl _ | exact (Fr.refl _).drew | exact (Fr.refl _).drewN _)⟩
          case measure => first | (simp [intOf]; done) | (simp [intOf]; omega)
      · obtain rfl : i = l.length := by omega
        have HY : Hid (r = false) := Lib.hid (by rw [HE.out]; have := HI.out.2; rwa [List.take_length] at this)
        go_wp2_with fail
        go_ret
        exact ⟨by rw [HY.out]; rfl, HI.out.1⟩
end Go.Proofs.Ytadognaafgndnaa
