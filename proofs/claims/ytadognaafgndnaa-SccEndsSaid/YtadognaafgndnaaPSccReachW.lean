/- Layer 28: the document's Reach: its walk. No condition but the graph's bound. -/
import Derived.Test.YtadognaafgndnaaPSccOwn
import Derived.Test.YtadognaafgndnaaPSccNum
import Derived.Test.YtadognaafgndnaaPSccRd
set_option linter.all false
set_option linter.unusedVariables false
set_option linter.unusedSimpArgs false
set_option linter.unnecessarySimpa false
/- Layer 28: the document's Reach: its walk. No condition but the graph's bound. -/
namespace Go.Proofs.Ytadognaafgndnaa
open Go.RowKit
attribute [local go_sem] Oper.semAt_some

theorem BoxAt.put8 {w : World} {b : Nat} {c : Array Value} {t : TypeId} (h : BoxAt w b c t) (j : Nat) (v : Value) : BoxAt (w.setCell ⟨b, j, none⟩ v) b (c.setIfInBounds j v) t := by
  unfold BoxAt at h ⊢
  rw [setCell_eq_setRow w b j c t (0, 0) v h]
  exact setRow_heap w b c _ t (0, 0) h
/-- A row of marks. -/
def bitV (f : Nat → Bool) (m : Nat) : Int := if f m then 1 else 0
def rowA (f : Nat → Bool) (n : Nat) : Array Value := ((List.range n).map fun m => zV (bitV f m)).toArray
theorem rowA_at (f : Nat → Bool) {n m : Nat} (h : m < n) : (rowA f n)[m]? = some (zV (bitV f m)) := by
  unfold rowA
  rw [List.getElem?_toArray, List.getElem?_map, List.getElem?_range h]; rfl
theorem rowA_size (f : Nat → Bool) (n : Nat) : (rowA f n).size = n := by simp [rowA]
theorem rowA_congr {f g : Nat → Bool} {n : Nat} (h : ∀ m, f m = g m) : rowA f n = rowA g n := by
  unfold rowA bitV
  simp only [h]
theorem rowA_none (n : Nat) : rowA (fun _ => false) n = madeCells #[.int .i64 0] n := by
  refine Array.ext ?_ fun i h1 h2 => ?_
  · rw [rowA_size]; unfold madeCells; simp
  · have h3 : i < n := by rw [rowA_size] at h1; exact h1
    have e1 := rowA_at (fun _ => false) h3
    have e2 := made_at h3
    rw [Array.getElem?_eq_getElem h1] at e1
    rw [Array.getElem?_eq_getElem h2] at e2
    rw [Option.some.inj e1, Option.some.inj e2]; rfl
theorem rowA_set (f : Nat → Bool) {n x : Nat} (h : x < n) : (rowA f n).setIfInBounds x (.int .i64 1) = rowA (addB f [x]) n := by
  refine Array.ext (by rw [Array.size_setIfInBounds, rowA_size, rowA_size]) fun i h1 h2 => ?_
  have h3 : i < n := by rw [rowA_size] at h2; exact h2
  have e2 := rowA_at (addB f [x]) h3
  rw [Array.getElem?_eq_getElem h2] at e2
  rw [Option.some.inj e2, Array.getElem_setIfInBounds (by rw [rowA_size]; exact h3)]
  by_cases e : x = i
  · subst e
    rw [if_pos rfl]
    unfold bitV
    rw [addB_mem (by simp)]; rfl
  · rw [if_neg e]
    have e1 := rowA_at f h3
    rw [Array.getElem?_eq_getElem (by rw [rowA_size]; exact h3)] at e1
    rw [Option.some.inj e1]
    have : addB f [x] i = f i := by unfold addB; simp [Ne.symm e]
    unfold bitV
    rw [this]
theorem rowA_own {w : World} {base b : Nat} {f : Nat → Bool} {n : Nat} (h : BoxAt w b (rowA f n) 3) (hb : base ≤ b) (hn : n ≤ 5864062014634) : w.ownsRow base 3 1 (.slice (some ⟨b, 0, none⟩) n n) n (((List.range n).map (bitV f)).map zV) := by
  refine ⟨by simp, .inr ⟨b, n, rowA f n, rfl, hb, h, Nat.le_refl _, by unfold maxLen; omega, by rw [rowA_size, Nat.mul_one], ?_⟩⟩
  rw [Nat.mul_one]
  unfold rowA
  rw [List.take_of_length_le (by simp), List.map_map]
  rfl
def reachRow (N : List (List Nat)) (i : Nat) : List Int := (List.range N.length).map (bitV (reachB N i))
def reachRows (N : List (List Nat)) : List (List Int) := (List.range N.length).map (reachRow N)
theorem addB_nil (f : Nat → Bool) (m : Nat) : addB f [] m = f m := by unfold addB; simp
theorem addB_app (f : Nat → Bool) (l : List Nat) (x m : Nat) : addB (addB f l) [x] m = addB f (l ++ [x]) m := by
  unfold addB
  rw [Bool.or_assoc]
  congr 1
  rw [Bool.eq_iff_iff]
  simp
set_option maxRecDepth 100000 in
set_option maxHeartbeats 8000000 in
theorem docReach_c {w : World} {v : Value} {N : List (List Nat)} (hv : RdGr w v N) (hb : N.length ≤ 5864062014634) (hG : MayG N) :
    Calls Try.prog 28 #[v] w fun e w' => ∃ vo, e = .returned vo ∧ RdGZ w' vo (reachRows N) ∧ Fr w w' := by
  obtain ⟨va, vc, rfl, hvc, hx⟩ := hv
  have HX := Lib.hid hx
  have HM : Hid (∀ k (hk : k < N.length), ∀ x ∈ N[k], x < N.length) := Lib.hid (fun k hk x hx => hG _ (List.getElem_mem hk) x hx)
  have HO : Hid (∀ k (hk : k < N.length), outs N k = N[k]) := Lib.hid (fun k hk => by unfold outs; rw [List.getD_eq_getElem?_getD, List.getElem?_eq_getElem hk]; rfl)
  have hmk := mk_ints N.length hb
  clear hx hG
  go_enter Try.func28, Try.ntmps28
  go_wp2_with fail
  go_loopw [4, 5] (fun vo vi wr => ∃ i : Nat, i ≤ N.length ∧ vi = .int .i64 i ∧ Hid (∃ gs, RowsAt w wr vo gs ((reachRows N).take i))) (fun _ vi _ => N.length - (intOf vi).toNat)
  case atStart => exact ⟨0, Nat.zero_le _, rfl, [], by rw [List.take_zero]; exact RowsAt.nil w⟩
  case round =>
    obtain ⟨i, hi, rfl, HR⟩ := hrel
    obtain ⟨wo, rfl⟩ : ∃ wo, wo = wr := ⟨_, rfl⟩
    obtain ⟨vo, rfl⟩ : ∃ vo, vo = u4 := ⟨_, rfl⟩
    by_cases hit : i < N.length
    · have HB0 : Hid (BoxAt (wo.alloc (.cells (madeCells #[.int .i64 0] N.length) 3)) wo.heap.size (rowA (fun _ => false) N.length) 3) := Lib.hid (by rw [rowA_none]; exact BoxAt.new' _ _ _ _ rfl)
      have hc0 := HB0.out.cel i (rowA_at _ hit)
      have c0 := hc0.1
      have f0 := hc0.2
      have l0 := hc0.lt
      have HB1 : Hid (BoxAt ((wo.alloc (.cells (madeCells #[.int .i64 0] N.length) 3)).setCell ⟨wo.heap.size, i, none⟩ (.int .i64 1)) wo.heap.size (rowA (sweeps N N.length (oneB i) 0) N.length) 3 ∧ Chg (fun b => b = wo.heap.size) (wo.alloc (.cells (madeCells #[.int .i64 0] N.length) 3)) ((wo.alloc (.cells (madeCells #[.int .i64 0] N.length) 3)).setCell ⟨wo.heap.size, i, none⟩ (.int .i64 1))) := Lib.hid ⟨by
        have h := HB0.out.put8 i (.int .i64 1)
        rw [rowA_set _ hit] at h
        rw [rowA_congr (g := addB (fun _ => false) [i])] 
        · exact h
        · intro m
          show oneB i m = addB (fun _ => false) [i] m
          unfold oneB addB
          rw [Bool.eq_iff_iff]; simp, (Chg.refl (fun b => b = wo.heap.size) _).set (p := ⟨wo.heap.size, i, none⟩) (.inr rfl) _⟩
      have hE : (wo.alloc (.cells (madeCells #[.int .i64 0] N.length) 3)).setCell ⟨wo.heap.size, i, none⟩ (.int .i64 1) = wo.alloc (.cells ((madeCells #[.int .i64 0] N.length).setIfInBounds i (.int .i64 1)) 3) := by go_simp
      rw [hE] at HB1
      clear hE
      obtain ⟨gs, hR⟩ := HR.out
      have HRA := Lib.hid (hR.fr ((Fr.refl wo).alloc (.cells (madeCells #[.int .i64 0] N.length) 3)))
      have HBN : Hid (∀ j, rowOb vo gs j ≠ some wo.heap.size) := Lib.hid (fun j h => by have := (hR.ge h).2; omega)
      have hwb := hR.frm.size
      clear hc0 hR HR
      go_wp2_with fail
      clear c0 f0 l0 HB0
      go_loopw [7] (fun vt wr => ∃ t : Nat, t ≤ N.length ∧ vt = .int .i64 t ∧ Hid (BoxAt wr wo.heap.size (rowA (sweeps N N.length (oneB i) t) N.length) 3 ∧ Chg (fun b => b = wo.heap.size) (wo.alloc (.cells (madeCells #[.int .i64 0] N.length) 3)) wr)) (fun vt _ => N.length - (intOf vt).toNat)
      case atStart => exact ⟨0, Nat.zero_le _, rfl, HB1⟩
      case round =>
        obtain ⟨t, ht, rfl, HT⟩ := hrel
        clear HB1
        by_cases htt : t < N.length
        · have HS : Hid (sweeps N N.length (oneB i) (t + 1) = sweepTo N (sweeps N N.length (oneB i) t) N.length) := Lib.hid rfl
          generalize sweeps N N.length (oneB i) t = f at HS HT
          go_wp2_with fail
          go_loopw [8] (fun vk wr => ∃ k : Nat, k ≤ N.length ∧ vk = .int .i64 k ∧ Hid (BoxAt wr wo.heap.size (rowA (sweepTo N f k) N.length) 3 ∧ Chg (fun b => b = wo.heap.size) (wo.alloc (.cells (madeCells #[.int .i64 0] N.length) 3)) wr)) (fun vk _ => N.length - (intOf vk).toNat)
          case atStart => exact ⟨0, Nat.zero_le _, rfl, HT⟩
          case round =>
            obtain ⟨k, hk, rfl, HK⟩ := hrel
            by_cases hkt : k < N.length
            · obtain ⟨xb, xo, u, rfl, hc, ⟨ua, uc, rfl, huc, hu⟩, hul⟩ := HX.out k hkt
              have HST : Hid (sweepTo N f (k + 1) = if sweepTo N f k k then addB (sweepTo N f k) N[k] else sweepTo N f k) := Lib.hid (by
                rw [← HO.out k hkt]; rfl)
              have HU := Lib.hid hu
              have HLT := Lib.hid (HM.out k hkt)
              have HC := Lib.hid hc
              clear hu hc
              generalize N[k] = l at HU HC HST HLT hul huc
              generalize sweepTo N f k = F at HST HK
              have HKP : Hid (∀ W, Chg (fun b => b = wo.heap.size) (wo.alloc (.cells (madeCells #[.int .i64 0] N.length) 3)) W → Fr w W) := Lib.hid (fun W h => h.fr (HRA.out.frm) fun b hb => by rw [hb]; exact hwb)
              by_cases hFk : F k = true
              · have HF1 : Hid (sweepTo N f (k + 1) = addB F l) := Lib.hid (by rw [HST.out, if_pos hFk])
                have HK0 : Hid (BoxAt wr wo.heap.size (rowA (addB F (l.take 0)) N.length) 3 ∧ Chg (fun b => b = wo.heap.size) (wo.alloc (.cells (madeCells #[.int .i64 0] N.length) 3)) wr) := Lib.hid ⟨by rw [rowA_congr (g := F) (fun m => by rw [List.take_zero]; exact addB_nil F m)]; exact HK.out.1, HK.out.2⟩
                have HFK := Lib.hid hFk
                clear HST HK hFk
                go_wp2_with fail
                go_loopw [9] (fun vm wr => ∃ m : Nat, m ≤ l.length ∧ vm = .int .i64 m ∧ Hid (BoxAt wr wo.heap.size (rowA (addB F (l.take m)) N.length) 3 ∧ Chg (fun b => b = wo.heap.size) (wo.alloc (.cells (madeCells #[.int .i64 0] N.length) 3)) wr)) (fun vm _ => l.length - (intOf vm).toNat)
                case atStart => exact ⟨0, Nat.zero_le _, rfl, HK0⟩
                case round =>
                  obtain ⟨m, hm, rfl, HI⟩ := hrel
                  clear HK0
                  have hck := HI.out.1.at k (rowA_at _ hkt)
                  have hbk : bitV (addB F (l.take m)) k = 1 := by unfold bitV; rw [addB_mono HFK.out]; rfl
                  rw [hbk] at hck
                  unfold zV at hck
                  have lB := HI.out.1.lt
                  have hc := (HKP.out _ HI.out.2).keep HC.out
                  have lc := lt_of_cell hc
                  simp only at lc
                  clear hbk
                  by_cases hmt : m < l.length
                  · obtain ⟨yb, yo, rfl, hy⟩ := HU.out m hmt
                    have hy := (HKP.out _ HI.out.2).keep hy
                    have ly := lt_of_cell hy
                    simp only at ly
                    have hxn := HLT.out _ (List.getElem_mem hmt)
                    have hcx := HI.out.1.cel l[m] (rowA_at _ hxn)
                    have cx := hcx.1
                    have fx := hcx.2
                    have HN : Hid (BoxAt (wr.setCell ⟨wo.heap.size, l[m], none⟩ (.int .i64 1)) wo.heap.size (rowA (addB F (l.take (m + 1))) N.length) 3 ∧ Chg (fun b => b = wo.heap.size) (wo.alloc (.cells (madeCells #[.int .i64 0] N.length) 3)) (wr.setCell ⟨wo.heap.size, l[m], none⟩ (.int .i64 1))) := Lib.hid ⟨by
                      have h := HI.out.1.put8 l[m] (.int .i64 1)
                      rw [rowA_set _ hxn] at h
                      rw [rowA_congr (g := addB (addB F (l.take m)) [l[m]]) (fun x => by rw [addB_app, List.take_succ_eq_append_getElem hmt])]
                      exact h, HI.out.2.set (p := ⟨wo.heap.size, l[m], none⟩) (.inr rfl) _⟩
                    clear hcx HI
                    unfold intV at hy
                    unfold zV at cx
                    generalize l[m] = x at hy hxn cx fx HN
                    generalize bitV (addB F (l.take m)) x = z at cx
                    go_wp2_with fail
                    go_roundw
                    case rel => exact ⟨m + 1, by omega, by go_num, HN⟩
                    case measure => first | (simp [intOf]; done) | (simp [intOf]; omega)
                  · obtain rfl : m = l.length := by omega
                    have HN : Hid (BoxAt wr wo.heap.size (rowA (sweepTo N f (k + 1)) N.length) 3 ∧ Chg (fun b => b = wo.heap.size) (wo.alloc (.cells (madeCells #[.int .i64 0] N.length) 3)) wr) := Lib.hid (by
                      have h := HI.out
                      rw [List.take_length] at h
                      rw [HF1.out]; exact h)
                    clear HI HF1
                    go_wp2_with fail
                    go_roundw
                    case rel => exact ⟨k + 1, by omega, by go_num, HN⟩
                    case measure => first | (simp [intOf]; done) | (simp [intOf]; omega)
              · have hF0 : F k = false := by simpa using hFk
                have HN : Hid (BoxAt wr wo.heap.size (rowA (sweepTo N f (k + 1)) N.length) 3 ∧ Chg (fun b => b = wo.heap.size) (wo.alloc (.cells (madeCells #[.int .i64 0] N.length) 3)) wr) := Lib.hid (by rw [HST.out, if_neg hFk]; exact HK.out)
                have hck := HK.out.1.at k (rowA_at _ hkt)
                have hbk : bitV F k = 0 := by unfold bitV; rw [hF0]; rfl
                rw [hbk] at hck
                unfold zV at hck
                have lB := HK.out.1.lt
                clear hbk HST hFk hF0 HK
                obtain ⟨wk, rfl⟩ : ∃ wk, wk = wr := ⟨_, rfl⟩
                go_wp2_with fail
                go_loopw [9] (fun vm wr => vm = .int .i64 0 ∧ Hid (wr = wk)) (fun vm _ => 0)
                case atStart => exact ⟨rfl, rfl⟩
                case round =>
                  obtain ⟨rfl, HE⟩ := hrel
                  obtain rfl : wr = wk := HE.out
                  go_wp2_with fail
                  go_roundw
                  case rel => exact ⟨k + 1, by omega, by go_num, HN⟩
                  case measure => first | (simp [intOf]; done) | (simp [intOf]; omega)
            · obtain rfl : k = N.length := by omega
              have HN : Hid (BoxAt wr wo.heap.size (rowA (sweeps N N.length (oneB i) (t + 1)) N.length) 3 ∧ Chg (fun b => b = wo.heap.size) (wo.alloc (.cells (madeCells #[.int .i64 0] N.length) 3)) wr) := Lib.hid (by rw [HS.out]; exact HK.out)
              clear HK HS
              go_wp2_with fail
              go_roundw
              case rel => exact ⟨t + 1, by omega, by go_num, HN⟩
              case measure => first | (simp [intOf]; done) | (simp [intOf]; omega)
        · obtain rfl : t = N.length := by omega
          have HRW := Lib.hid (HRA.out.apart HT.out.2 fun b hb => ⟨fun j => by rw [hb]; exact HBN.out j, by rw [hb]; exact hwb⟩)
          have HOW : Hid (wr.ownsRow w.heap.size 3 1 (.slice (some ⟨wo.heap.size, 0, none⟩) N.length N.length) (reachRow N i).length ((reachRow N i).map zV)) := Lib.hid (by
            have h := rowA_own HT.out.1 hwb hb
            have e : (reachRow N i).length = N.length := by simp [reachRow]
            rw [e]; exact h)
          have HTK : Hid ((reachRows N).take (i + 1) = (reachRows N).take i ++ [reachRow N i]) := Lib.hid (by
            rw [List.take_succ_eq_append_getElem (by simpa [reachRows] using hit)]
            simp [reachRows])
          have hti : ((reachRows N).take i).length = i := by rw [List.length_take]; simp [reachRows]; omega
          have hglen := HRW.out.glen
          obtain ⟨oa, oc, hvo⟩ := vals_form HRW.out.row
          rw [hti] at hvo
          subst hvo
          have hlen : gs.length ≤ 5864062014640 := by rw [hglen, hti]; omega
          have hown := HRW.out.row.alloc (.cells #[.slice (some ⟨wo.heap.size, 0, none⟩) N.length N.length] 25)
          rw [← hglen] at hown
          have hy : (wr.alloc (.cells #[.slice (some ⟨wo.heap.size, 0, none⟩) N.length N.length] 25)).cell? ⟨wr.heap.size, 0, none⟩ = some (.slice (some ⟨wo.heap.size, 0, none⟩) N.length N.length) := (BoxAt.new' wr #[.slice (some ⟨wo.heap.size, 0, none⟩) N.length N.length] 25 _ (by simp)).at 0 rfl
          have hsz := (HRW.out.frm.alloc (.cells #[.slice (some ⟨wo.heap.size, 0, none⟩) N.length N.length] 25)).size
          have HFA := Lib.hid ((Fr.refl wr).alloc (.cells #[.slice (some ⟨wo.heap.size, 0, none⟩) N.length N.length] 25))
          clear HT HRA hti hglen
          go_wp2_with (at_builtin; refine wpList_appendVal (base := w.heap.size) rfl (.tmp 57) (.tmp 59) rfl _ gs rfl hown hsz wr.heap.size 1 _ rfl rfl hy hlen ?_)
          intro va vn vc w6 hO6 hch6 hat6
          have HN : Hid (∃ gs, RowsAt w w6 (.slice va vn vc) gs ((reachRows N).take (i + 1))) := Lib.hid ⟨_, by
            rw [HTK.out]
            refine (HRW.out.fr HFA.out).snoc (ownsRow_kept2 HOW.out fun g hg => HFA.out.block (World.ownsRow.lt HOW.out g hg).2) (fun b hb j => ?_) hch6 hO6 (fun b hb => (hat6 b hb).imp id fun e => by subst e; simp)
            cases hb
            exact HBN.out j⟩
          clear hO6 hch6 hat6 hown hy hsz HFA HRW HOW HTK
          go_wp2_with fail
          go_roundw
          case rel => exact ⟨i + 1, by omega, by go_num, HN⟩
          case measure => first | (simp [intOf]; done) | (simp [intOf]; omega)
    · obtain rfl : i = N.length := by omega
      obtain ⟨gs, hR⟩ := HR.out
      rw [List.take_of_length_le (by simp [reachRows])] at hR
      have HE := Lib.hid (And.intro hR.rd hR.frm)
      clear hR HR
      go_wp2_with fail
      go_ret
      exact ⟨_, rfl, HE.out⟩
end Go.Proofs.Ytadognaafgndnaa

/- Layer 28: the document's search: its walk. No condition but that it lies in memory, and bounds. -/
namespace Go.Proofs.Ytadognaafgndnaa
open Go.RowKit
attribute [local go_sem] Oper.semAt_some

section
variable {G : List (List Nat)} {C : Nat → Nat}
theorem dfrom_mono : ∀ (m : Nat) (d : Ds) (i v : Nat), d.met v = true → (dfrom G C m d i).met v = true
  | 0, _, _, _, h => h
  | m + 1, d, i, v, h => by
    have hf : ∀ (es : List Nat) (d : Ds), d.met v = true → (es.foldl (fun d k => if d.met k then d else dfrom G C m d k) d).met v = true := fun es => by
      induction es with
      | nil => exact fun d h => h
      | cons k es ih =>
        intro d h
        rw [List.foldl_cons]
        refine ih _ ?_
        split
        · exact h
        · exact dfrom_mono m d k v h
    have h1 := hf (outs G i) (d.mark i) (mark_met.2 (.inl h))
    show (dEnd C _ i _).met v = true
    unfold dEnd
    split <;> exact h1
def dFold (G : List (List Nat)) (C : Nat → Nat) (m : Nat) (es : List Nat) (d : Ds) : Ds := es.foldl (fun d k => if d.met k then d else dfrom G C m d k) d
theorem dFold_snoc (m : Nat) (es : List Nat) (k : Nat) (d : Ds) : dFold G C m (es ++ [k]) d = if (dFold G C m es d).met k then dFold G C m es d else dfrom G C m (dFold G C m es d) k := by
  unfold dFold; rw [List.foldl_append]; rfl
theorem dFold_mono (m : Nat) (es : List Nat) (d : Ds) (v : Nat) (h : d.met v = true) : (dFold G C m es d).met v = true := by
  unfold dFold
  induction es generalizing d with
  | nil => exact h
  | cons k es ih =>
    rw [List.foldl_cons]
    refine ih _ ?_
    split
    · exact h
    · exact dfrom_mono m d k v h
end
/-- The document's search in memory. -/
structure DMem (w0 w : World) (q gm : Nat) (vN vA vO : Value) (n : Nat) (d : Ds) : Prop where
  frm : Fr w0 w
  c0 : Cel w q 0 vN
  c1 : Cel w q 1 vA
  c2 : Cel w q 2 (.slice (some ⟨gm, 0, none⟩) n n)
  c3 : Cel w q 3 vO
  met : ∀ v, v < n → Cel w gm v (zV (bitV d.met v))
  out : w.ownsRow w0.heap.size 3 1 vO d.out.length (d.out.map intV)
  nd : d.out.Nodup
  lt : ∀ x ∈ d.out, x < n
  qne : q ≠ gm
  oq : vO.ownBlock ≠ some q
  og : vO.ownBlock ≠ some gm
  geq : w0.heap.size ≤ q
  gen : w0.heap.size ≤ gm
theorem DMem.outLe {w0 w : World} {q gm : Nat} {vN vA vO : Value} {n : Nat} {d : Ds} (H : DMem w0 w q gm vN vA vO n d) : d.out.length ≤ n := nodup_le H.nd H.lt
theorem DMem.fr {w0 w w' : World} {q gm : Nat} {vN vA vO : Value} {n : Nat} {d : Ds} (H : DMem w0 w q gm vN vA vO n d) (f : Fr w w') : DMem w0 w' q gm vN vA vO n d := by
  have k : Chg (fun _ => False) w w' := f.chg
  have z : ¬ False := fun h => h
  refine ⟨H.frm.trans f, H.c0.chg k z, H.c1.chg k z, H.c2.chg k z, H.c3.chg k z, fun v hv => (H.met v hv).chg k z, ownsRow_kept2 H.out fun g hg => k.block g (World.ownsRow.lt H.out g hg).2 z, H.nd, H.lt, H.qne, H.oq, H.og, H.geq, H.gen⟩
/-- A node is marked. -/
theorem DMem.mark {w0 w : World} {q gm : Nat} {vN vA vO : Value} {n : Nat} {d : Ds} (H : DMem w0 w q gm vN vA vO n d) (i : Nat) : DMem w0 (w.setCell ⟨gm, i, none⟩ (.int .i64 1)) q gm vN vA vO n (d.mark i) := by
  have k : Chg (fun b => b = gm) w (w.setCell ⟨gm, i, none⟩ (.int .i64 1)) := (Chg.refl (fun b => b = gm) w).set (p := ⟨gm, i, none⟩) (.inr rfl) _
  refine ⟨k.fr H.frm fun b hb => by rw [hb]; exact H.gen, H.c0.chg k H.qne, H.c1.chg k H.qne, H.c2.chg k H.qne, H.c3.chg k H.qne, fun v hv => ?_, ownsRow_kept2 H.out fun g hg => k.block g (World.ownsRow.lt H.out g hg).2 fun e => H.og (by rw [← e]; exact hg), H.nd, H.lt, H.qne, H.oq, H.og, H.geq, H.gen⟩
  by_cases e : v = i
  · subst e
    have : bitV (d.mark v).met v = 1 := by unfold bitV; rw [mark_met.2 (.inr rfl)]; rfl
    rw [this]; exact (H.met v hv).set _
  · have : bitV (d.mark i).met v = bitV d.met v := by
      unfold bitV
      have : (d.mark i).met v = d.met v := by
        show addB d.met [i] v = d.met v
        unfold addB; simp [e]
      rw [this]
    rw [this]; exact (H.met v hv).keepSet (.inr e) _
/-- A component ends. -/
theorem DMem.endTo {w0 w w5 : World} {q gm : Nat} {vN vA vO v : Value} {n : Nat} {d : Ds} (H : DMem w0 w q gm vN vA vO n d) {x : Nat} (hx : x < n) (hn : x ∉ d.out)
    (k : Chg (fun b => vO.ownBlock = some b) w w5) (hO : w5.ownsRow w0.heap.size 3 1 v (d.out ++ [x]).length ((d.out ++ [x]).map intV)) (hat : ∀ b, v.ownBlock = some b → vO.ownBlock = some b ∨ w.heap.size ≤ b) (hgl : gm < w.heap.size) :
    DMem w0 (w5.setCell ⟨q, 3, none⟩ v) q gm vN vA v n { d with out := d.out ++ [x] } := by
  have hvq : v.ownBlock ≠ some q := fun e => by
    rcases hat _ e with h | h
    · exact H.oq h
    · have := H.c0.lt; omega
  have hvg : v.ownBlock ≠ some gm := fun e => by
    rcases hat _ e with h | h
    · exact H.og h
    · omega
  have k2 : Chg (fun b => b = q) w5 (w5.setCell ⟨q, 3, none⟩ v) := (Chg.refl (fun b => b = q) w5).set (p := ⟨q, 3, none⟩) (.inr rfl) _
  have cc : ∀ {o u}, Cel w q o u → o ≠ 3 → Cel (w5.setCell ⟨q, 3, none⟩ v) q o u := fun {o u} h ho => (h.chg k H.oq).keepSet (.inr ho) v
  refine ⟨k2.fr (k.fr H.frm fun b hb => (World.ownsRow.lt H.out b hb).1) fun b hb => by rw [hb]; exact H.geq, cc H.c0 (by omega), cc H.c1 (by omega), cc H.c2 (by omega), (H.c3.chg k H.oq).set v, fun u hu => ((H.met u hu).chg k H.og).chg k2 (fun e => H.qne e.symm),
    ownsRow_kept2 hO fun g hg => k2.block g (World.ownsRow.lt hO g hg).2 fun e => hvq (by rw [← e]; exact hg), ?_, fun y hy => ?_, H.qne, hvq, hvg, H.geq, H.gen⟩
  · show (d.out ++ [x]).Nodup
    rw [List.nodup_append]
    exact ⟨H.nd, by simp, fun a ha b hb e => by rw [List.mem_singleton] at hb; subst hb; subst e; exact hn ha⟩
  · have hy : y ∈ d.out ++ [x] := hy
    rcases List.mem_append.1 hy with h | h
    · exact H.lt y h
    · rw [List.mem_singleton] at h; subst h; exact hx
set_option maxRecDepth 100000 in
set_option maxHeartbeats 1000000 in
theorem docEnded_c {w0 w : World} {q gm : Nat} {vN vA vO : Value} {n : Nat} {d : Ds} (H : DMem w0 w q gm vN vA vO n d) (c : Nat) (hn : n ≤ 5864062014634) :
    Calls Try.prog 34 #[Pt q, .int .i64 c] w fun e w' => e = .returned (.bool (d.out.contains c)) ∧ Fr w w' := by
  have hl := H.outLe
  have c3 := H.c3.1
  have lq := H.c3.lt
  obtain ⟨oa, oc, rfl, hoc, hox⟩ := ints_form H.out
  have HX := Lib.hid hox
  clear hox H
  generalize d.out = l at *
  go_enter Try.func34, Try.ntmps34
  go_wp2_with fail
  go_loopw [5] (fun vi wr => ∃ i : Nat, i ≤ l.length ∧ vi = .int .i64 i ∧ Hid (wr = w ∧ (l.take i).contains c = false)) (fun vi _ => l.length - (intOf vi).toNat)
  case atStart => exact ⟨0, Nat.zero_le _, rfl, rfl, by simp⟩
  case round =>
    obtain ⟨i, hi, rfl, HI⟩ := hrel
    obtain ⟨rfl, hti⟩ := HI.out
    have HTI := Lib.hid hti
    clear HI hti
    by_cases hit : i < l.length
    · obtain ⟨g, rfl, hz⟩ := HX.out i hit
      have lz := lt_of_cell hz
      simp only at lz
      have HT : Hid ((l.take (i + 1)).contains c = ((l.take i).contains c || (l[i] == c))) := Lib.hid (by
        rw [List.take_succ_eq_append_getElem hit, Bool.eq_iff_iff, Bool.or_eq_true, List.contains_iff_mem, List.contains_iff_mem, List.mem_append, List.mem_singleton, beq_iff_eq]
        exact or_congr Iff.rfl eq_comm)
      have HA : Hid (l[i] = c → l.contains c = true) := Lib.hid (fun e => List.contains_iff_mem.2 (by rw [← e]; exact List.getElem_mem hit))
      unfold intV at hz
      generalize l[i] = x at hz HT HA
      by_cases e : x = c
      · have HY := Lib.hid (HA.out e)
        subst e
        clear HT HA HTI
        go_wp2_with fail
        go_ret
        exact ⟨by rw [HY.out] <;> rfl, Fr.refl _⟩
      · have e1 : ¬ (x : Int) = (c : Int) := by omega
        have e2 : ((x : Int) == (c : Int)) = false := by simpa using e1
        have e3 : (x == c) = false := by simpa using e
        have HN := Lib.hid (HT.out.trans (by rw [HTI.out, e3] <;> rfl))
        clear HT HA HTI e
        go_wp2_with fail
        go_roundw
        case rel => exact ⟨i + 1, by omega, by go_num, by first | exact ⟨rfl, HN.out⟩ | exact ⟨trivial, HN.out⟩⟩
        case measure => first | (simp [intOf]; done) | (simp [intOf]; omega)
    · obtain rfl : i = l.length := by omega
      have HY : Hid (l.contains c = false) := Lib.hid (by have := HTI.out; rwa [List.take_length] at this)
      clear HTI
      go_wp2_with fail
      go_ret
      exact ⟨by rw [HY.out] <;> rfl, Fr.refl _⟩
end Go.Proofs.Ytadognaafgndnaa

/- Layer 28: the document's search from a node: its walk. No condition but that it lies in memory, and bounds. -/
namespace Go.Proofs.Ytadognaafgndnaa
open Go.RowKit
attribute [local go_sem] Oper.semAt_some

def firstTo (C : Nat → Nat) (d : Ds) (i k : Nat) : Bool := (List.range k).all fun j => decide (C j ≠ C i) || !d.met j
theorem firstTo_succ (C : Nat → Nat) (d : Ds) (i k : Nat) : firstTo C d i (k + 1) = (firstTo C d i k && (decide (C k ≠ C i) || !d.met k)) := by
  unfold firstTo
  rw [List.range_succ, List.all_append]
  simp
def DFromOk (N : List (List Nat)) (C : Nat → Nat) (q gm : Nat) (vN vA : Value) (w0 : World) (m : Nat) : Prop := ∀ (w : World) (vO : Value) (d : Ds) (i : Nat), DMem w0 w q gm vN vA vO N.length d → i < N.length → d.met i = false → unM N.length d ≤ m →
  Calls Try.prog 25 #[Pt q, .int .i64 i] w fun e w' => e = .returned (.tuple #[]) ∧ ∃ vO', DMem w0 w' q gm vN vA vO' N.length (dfrom N C m d i)
set_option maxRecDepth 100000 in
set_option maxHeartbeats 8000000 in
theorem docFrom_step {N : List (List Nat)} {CL : List Nat} {q gm : Nat} {vN vA : Value} {w0 : World} (hG : MayG N) (hN : RdGr w0 vN N) (hA : RdI w0 vA CL) (hcl : CL.length = N.length) (hn : N.length ≤ 5864062014634) (hcb : ∀ x ∈ CL, x < N.length) {m : Nat}
    (ih : DFromOk N (fun v => CL.getD v 0) q gm vN vA w0 m) : DFromOk N (fun v => CL.getD v 0) q gm vN vA w0 (m + 1) := by
  intro w vO d i H hi hd hu
  have HIH := Lib.hid ih
  have hMK := unM_mark hi hd
  have HMK : Hid (unM N.length (d.mark i) ≤ m) := Lib.hid (by omega)
  obtain ⟨na, nc, rfl, hnc, hnx⟩ := hN
  obtain ⟨aa, ac, rfl, hac, hax⟩ := hA
  rw [hcl] at hac H HIH ⊢
  have HNX := Lib.hid hnx
  have HAX : Hid (∀ k, k < N.length → ∃ g o, aa = some ⟨g, o, none⟩ ∧ w0.cell? ⟨g, o + k, none⟩ = some (.int .i64 (CL.getD k 0 : Nat))) := Lib.hid (fun k hk => by
    obtain ⟨g, o, h1, h2⟩ := hax k (by omega)
    refine ⟨g, o, h1, ?_⟩
    rw [h2, getD_at (by omega)]; rfl)
  have HCB : Hid (∀ k, k < N.length → CL.getD k 0 < N.length) := Lib.hid (fun k hk => by
    rw [getD_at (by omega)]
    exact hcb _ (List.getElem_mem (by omega)))
  have HGG := Lib.hid (fun k (hk : k < N.length) x (hx : x ∈ N[k]) => hG _ (List.getElem_mem hk) x hx)
  have HDF : Hid (dfrom N (fun v => CL.getD v 0) (m + 1) d i = dEnd (fun v => CL.getD v 0) (dFold N (fun v => CL.getD v 0) m (outs N i) (d.mark i)) i (firstTo (fun v => CL.getD v 0) d i N.length)) := Lib.hid rfl
  clear hnx hax hu hMK ih hcb hcl hG
  generalize hC : (fun v => CL.getD v 0) = C at HIH HDF ⊢
  have HCE : Hid (∀ v, C v = CL.getD v 0) := Lib.hid (fun v => by rw [← hC])
  have HAX : Hid (∀ k, k < N.length → ∃ g o, aa = some ⟨g, o, none⟩ ∧ w0.cell? ⟨g, o + k, none⟩ = some (.int .i64 (C k : Nat))) := Lib.hid (fun k hk => by rw [HCE.out k]; exact HAX.out k hk)
  have HCB : Hid (∀ k, k < N.length → C k < N.length) := Lib.hid (fun k hk => by rw [HCE.out k]; exact HCB.out k hk)
  clear hC HCE
  have HH := Lib.hid H
  have c1 := H.c1.1
  have c2 := H.c2.1
  have lq := H.c1.lt
  obtain ⟨ag, ao, rfl, hci⟩ := HAX.out i hi
  have hci0 := Lib.hid hci
  have hci := H.frm.keep hci
  have lag := lt_of_cell hci
  simp only at lag
  clear H
  go_enter Try.func25, Try.ntmps25
  go_wp2_with fail
  go_loopw [4, 5] (fun vf vk wr => ∃ k : Nat, k ≤ N.length ∧ vk = .int .i64 k ∧ vf = .bool (firstTo C d i k) ∧ Hid (Fr w wr)) (fun _ vk _ => N.length - (intOf vk).toNat)
  case atStart => exact ⟨0, Nat.zero_le _, rfl, rfl, Fr.refl w⟩
  case round =>
    obtain ⟨k, hk, rfl, rfl, HR⟩ := hrel
    have HM := Lib.hid (HH.out.fr HR.out)
    have c1 := HM.out.c1.1
    have c2 := HM.out.c2.1
    have lq := HM.out.c1.lt
    have hci := HR.out.keep hci
    have lag := lt_of_cell hci
    simp only at lag
    by_cases hkt : k < N.length
    · have HT := Lib.hid (firstTo_succ C d i k)
      obtain ⟨ag2, ao2, e2, hck⟩ := HAX.out k hkt
      cases e2
      have hck := HM.out.frm.keep hck
      have hmk := (HM.out.met k hkt).1
      have lgm := (HM.out.met k hkt).lt
      unfold zV bitV at hmk
      obtain ⟨ft, hft⟩ : ∃ ft, ft = firstTo C d i (k + 1) := ⟨_, rfl⟩
      rw [← hft] at HT
      have HFT := Lib.hid hft
      clear hft
      generalize firstTo C d i k = f0 at HT
      generalize d.met k = mk at HT hmk
      generalize C k = x at HT hck
      generalize hCi : C i = y at HT hci
      have HCi := Lib.hid hCi
      clear hCi
      cases f0
      · have HN : Hid (false = firstTo C d i (k + 1)) := Lib.hid (by rw [← HFT.out, HT.out]; rfl)
        clear HT HFT hmk
        go_wp2_with fail
        go_quiet (fail)
        have HFR : Hid (∀ W, Fr wr W → Fr w W) := Lib.hid (fun W f => HR.out.trans f)
        clear HR HM
        go_wp2_with fail
        go_roundw
        case rel => exact ⟨k + 1, by omega, by go_num, by rw [← HN.out], HFR.out _ (by first | exact Fr.refl _ | exact (Fr.refl _).drew | exact (Fr.refl _).drewN _)⟩
        case measure => first | (simp [intOf]; done) | (simp [intOf]; omega)
      · by_cases hxy : x = y
        · subst hxy
          cases mk
          · have HN : Hid (true = firstTo C d i (k + 1)) := Lib.hid (by rw [← HFT.out, HT.out]; simp)
            have hmk : wr.cell? ⟨gm, k, none⟩ = some (.int .i64 0) := by simpa using hmk
            clear HT HFT
            go_wp2_with fail
            go_quiet (fail)
            have HFR : Hid (∀ W, Fr wr W → Fr w W) := Lib.hid (fun W f => HR.out.trans f)
            clear HR HM
            go_wp2_with fail
            go_roundw
            case rel => exact ⟨k + 1, by omega, by go_num, by rw [← HN.out], HFR.out _ (by first | exact Fr.refl _ | exact (Fr.refl _).drew | exact (Fr.refl _).drewN _)⟩
            case measure => first | (simp [intOf]; done) | (simp [intOf]; omega)
          · have HN : Hid (false = firstTo C d i (k + 1)) := Lib.hid (by rw [← HFT.out, HT.out]; simp)
            have hmk : wr.cell? ⟨gm, k, none⟩ = some (.int .i64 1) := by simpa using hmk
            clear HT HFT
            go_wp2_with fail
            go_quiet (fail)
            have HFR : Hid (∀ W, Fr wr W → Fr w W) := Lib.hid (fun W f => HR.out.trans f)
            clear HR HM
            go_wp2_with fail
            go_roundw
            case rel => exact ⟨k + 1, by omega, by go_num, by rw [← HN.out], HFR.out _ (by first | exact Fr.refl _ | exact (Fr.refl _).drew | exact (Fr.refl _).drewN _)⟩
            case measure => first | (simp [intOf]; done) | (simp [intOf]; omega)
        · have HN : Hid (true = firstTo C d i (k + 1)) := Lib.hid (by rw [← HFT.out, HT.out]; simp [hxy])
          have e1 : ((x : Int) != (y : Int)) = true := by simp; omega
          have e2 : (x != y) = true := by simpa using hxy
          have e3 : (x == y) = false := by simpa using hxy
          clear HT HFT hmk
          go_wp2_with fail
          go_quiet (fail)
          have HFR : Hid (∀ W, Fr wr W → Fr w W) := Lib.hid (fun W f => HR.out.trans f)
          clear HR HM
          go_wp2_with fail
          go_roundw
          case rel => exact ⟨k + 1, by omega, by go_num, by rw [← HN.out], HFR.out _ (by first | exact Fr.refl _ | exact (Fr.refl _).drew | exact (Fr.refl _).drewN _)⟩
          case measure => first | (simp [intOf]; done) | (simp [intOf]; omega)
    · obtain rfl : k = N.length := by omega
      generalize firstTo C d i N.length = fst at HDF
      have hm := HM.out.met i hi
      have cm := hm.1
      have fm := hm.2
      have lgm := hm.lt
      have HM2 := Lib.hid (HM.out.mark i)
      generalize zV (bitV d.met i) = z at cm
      clear hm HM HR
      obtain ⟨nb, no, u, rfl, hrw, ⟨ua, uc, rfl, huc, hux⟩, hul⟩ := HNX.out i hi
      have HUX := Lib.hid hux
      have HRW := Lib.hid hrw
      have HLL := Lib.hid (HGG.out i hi)
      have hout : outs N i = N[i] := by unfold outs; rw [List.getD_eq_getElem?_getD, List.getElem?_eq_getElem hi]; rfl
      rw [hout] at HDF
      clear hux hrw hout HGG HNX
      generalize N[i] = l at HUX HRW HLL HDF huc hul
      have HM3 : Hid (∃ vO', DMem w0 (wr.setCell ⟨gm, i, none⟩ (.int .i64 1)) q gm (.slice (some ⟨nb, no, none⟩) N.length nc) (.slice (some ⟨ag, ao, none⟩) N.length ac) vO' N.length (dFold N C m (l.take 0) (d.mark i))) := Lib.hid ⟨vO, by rw [List.take_zero]; exact HM2.out⟩
      go_wp2_with fail
      clear cm fm lgm c1 c2 lq hci lag
      go_loopw [6] (fun vk wr => ∃ k : Nat, k ≤ l.length ∧ vk = .int .i64 k ∧ Hid (∃ vO', DMem w0 wr q gm (.slice (some ⟨nb, no, none⟩) N.length nc) (.slice (some ⟨ag, ao, none⟩) N.length ac) vO' N.length (dFold N C m (l.take k) (d.mark i)))) (fun vk _ => l.length - (intOf vk).toNat)
      case atStart => exact ⟨0, Nat.zero_le _, rfl, HM3⟩
      case round =>
        obtain ⟨k, hk, rfl, HR⟩ := hrel
        clear HM3 HM2
        obtain ⟨vO', hM⟩ := HR.out
        have HM := Lib.hid hM
        clear hM HR
        have c0 := HM.out.c0.1
        have c2 := HM.out.c2.1
        have lq := HM.out.c0.lt
        have hrw := HM.out.frm.keep HRW.out
        have lrw := lt_of_cell hrw
        simp only at lrw
        by_cases hkt : k < l.length
        · obtain ⟨xg, xo, rfl, hx⟩ := HUX.out k hkt
          have hx := HM.out.frm.keep hx
          have lx := lt_of_cell hx
          simp only at lx
          have hxn := HLL.out l[k] (List.getElem_mem hkt)
          have hmx := (HM.out.met _ hxn).1
          have lgm := (HM.out.met _ hxn).lt
          have HDS : Hid (dFold N C m (l.take (k + 1)) (d.mark i) = if (dFold N C m (l.take k) (d.mark i)).met l[k] then dFold N C m (l.take k) (d.mark i) else dfrom N C m (dFold N C m (l.take k) (d.mark i)) l[k]) := Lib.hid (by rw [List.take_succ_eq_append_getElem hkt, dFold_snoc])
          have HUM : Hid (unM N.length (dFold N C m (l.take k) (d.mark i)) ≤ m) := Lib.hid (Nat.le_trans (unM_le fun v hv => dFold_mono m _ _ v hv) HMK.out)
          unfold intV at hx
          unfold zV bitV at hmx
          obtain ⟨D1, hD1⟩ : ∃ D1, D1 = dFold N C m (l.take (k + 1)) (d.mark i) := ⟨_, rfl⟩
          rw [← hD1] at HDS
          have HD1 := Lib.hid hD1
          clear hD1
          generalize dFold N C m (l.take k) (d.mark i) = D at HM HDS HUM hmx
          generalize l[k] = x at hx hxn hmx HDS lgm
          cases hmet : D.met x
          · rw [hmet] at HDS hmx
            have hmx : wr.cell? ⟨gm, x, none⟩ = some (.int .i64 0) := by simpa using hmx
            have HC := Lib.hid (fun W (f : Fr wr W) => HIH.out W vO' D x (HM.out.fr f) hxn hmet HUM.out)
            clear hmet
            go_wp2_with fail
            go_quiet (fail)
            go_wp2_with fail
            refine (HC.out _ (by first | exact Fr.refl _ | exact (Fr.refl _).drew | exact (Fr.refl _).drewN _)).mono ?_
            rintro e w2 ⟨rfl, vO2, hM2⟩
            have HN : Hid (∃ vO', DMem w0 w2 q gm (.slice (some ⟨nb, no, none⟩) N.length nc) (.slice (some ⟨ag, ao, none⟩) N.length ac) vO' N.length (dFold N C m (l.take (k + 1)) (d.mark i))) := Lib.hid ⟨vO2, by rw [← HD1.out, HDS.out]; exact hM2⟩
            clear hM2 HC HM HDS HD1 HUM
            go_wp2_with fail
            go_roundw
            case rel => exact ⟨k + 1, by omega, by go_num, HN⟩
            case measure => first | (simp [intOf]; done) | (simp [intOf]; omega)
          · rw [hmet] at HDS hmx
            have hmx : wr.cell? ⟨gm, x, none⟩ = some (.int .i64 1) := by simpa using hmx
            clear hmet
            have HN : Hid (∀ W, Fr wr W → ∃ vO', DMem w0 W q gm (.slice (some ⟨nb, no, none⟩) N.length nc) (.slice (some ⟨ag, ao, none⟩) N.length ac) vO' N.length (dFold N C m (l.take (k + 1)) (d.mark i))) := Lib.hid (fun W f => ⟨vO', by rw [← HD1.out, HDS.out]; exact HM.out.fr f⟩)
            clear HM HDS HD1 HUM
            go_wp2_with fail
            go_quiet (fail)
            go_wp2_with fail
            go_roundw
            case rel => exact ⟨k + 1, by omega, by go_num, HN.out _ (by first | exact Fr.refl _ | exact (Fr.refl _).drew | exact (Fr.refl _).drewN _)⟩
            case measure => first | (simp [intOf]; done) | (simp [intOf]; omega)
        · obtain rfl : k = l.length := by omega
          rw [List.take_length] at HM
          generalize dFold N C m l (d.mark i) = D at HM HDF
          clear c2
          have c1 := HM.out.c1.1
          have hci := HM.out.frm.keep hci0.out
          have lag := lt_of_cell hci
          simp only at lag
          cases fst
          · have HE : Hid (dfrom N C (m + 1) d i = D) := Lib.hid (by rw [HDF.out]; rfl)
            clear HDF
            go_wp2_with fail
            refine bodyPost_end (results_none rfl _ _ _) rfl ?_
            exact ⟨rfl, vO', by rw [HE.out]; exact HM.out⟩
          · have HEN := Lib.hid (docEnded_c HM.out (C i) hn)
            have hciN := HCB.out i hi
            go_wp2_with fail
            refine HEN.out.mono ?_
            rintro e w4 ⟨rfl, hf4⟩
            have HM4 := Lib.hid (HM.out.fr hf4)
            clear HM HEN
            cases hct : D.out.contains (C i)
            · have HE : Hid (dfrom N C (m + 1) d i = { D with out := D.out ++ [C i] }) := Lib.hid (by rw [HDF.out]; unfold dEnd; rw [hct]; rfl)
              have HNM : Hid (C i ∉ D.out) := Lib.hid (fun h => by rw [List.contains_iff_mem.2 h] at hct; cases hct)
              clear HDF hct
              have hob := HM4.out.outLe
              obtain ⟨oa, oc, hvo, hoc, _⟩ := ints_form HM4.out.out
              subst hvo
              have hown := HM4.out.out
              have hvq := HM4.out.oq
              have k3 : w4.cell? ⟨q, 3, none⟩ = some (.slice oa D.out.length oc) := HM4.out.c3.1
              have kf3 : w4.frozen? ⟨q, 3, none⟩ = false := HM4.out.c3.2
              have c1 := HM4.out.c1.1
              have lq := HM4.out.c1.lt
              have hci := HM4.out.frm.keep hci0.out
              have lag := lt_of_cell hci
              simp only at lag
              have hle := HM4.out.frm.size
              have HGL := HM4.out.c2.1
              have hlgm : gm < w4.heap.size := (HM4.out.met i hi).lt
              obtain ⟨i0, hi0, hz0, hz1, hz2⟩ := info_parts Try.infoIntB
              clear c0 hrw lrw HGL
              generalize hcv : C i = cv at hci hciN HE HNM
              clear hcv
              go_wp2_with fail
              go_region_law
                ((refine step_append_lies _ (by rfl) _ _ _ (by rfl) w0.heap.size 3 i0 _ 1 8 Try.underlying25 hi0 hz0 hz1 hz2 rfl (by omega) (.slice oa D.out.length oc) D.out.length (D.out.map intV) (by rfl) (by first | exact (hown.alloc _).drew | exact hown.alloc _)
                    ⟨w4.heap.size, 0, none⟩ 1 1 [.int .i64 (cv : Nat)] (by rfl) (by rfl) (World.news_of_block (cs := #[.int .i64 (cv : Nat)]) (t := 3) (fr := (0, 0)) (heap_alloc_new w4 _)) (by simp [Value.oneCell'])
                    (by omega) (by unfold maxLen; omega) (by omega) (by simp; omega) (w4.heap.size + 1) (by simp) ?_; intro gg cap w3 hown3 hgrow hat hlt3; have kg3 : w3.frozen? ⟨q, 3, none⟩ = false := (hgrow.frozen_far ⟨q, 3, none⟩ (by simp; omega) (Ne.symm hvq)).trans ((World.frozen?_alloc_past _ _ _ lq).trans kf3); have kc3 : w3.cell? ⟨q, 3, none⟩ = some (.slice oa D.out.length oc) := (hgrow.cell_far ⟨q, 3, none⟩ (by simp; omega) (Ne.symm hvq)).trans ((World.cell?_alloc_past _ _ _ lq).trans k3)))
              all_goals
                have HEND : Hid (DMem w0 (w3.setCell ⟨q, 3, none⟩ (.slice (some ⟨gg, 0, none⟩) (D.out.length + 1) cap)) q gm (.slice (some ⟨nb, no, none⟩) N.length nc) (.slice (some ⟨ag, ao, none⟩) N.length ac) (.slice (some ⟨gg, 0, none⟩) (D.out.length + 1) cap) N.length (dfrom N C (m + 1) d i)) := Lib.hid (by
                  rw [HE.out]
                  refine (HM4.out.fr (((Fr.refl w4).alloc (.cells #[.int .i64 (cv : Nat)] 3)).drew)).endTo hciN HNM.out ⟨hgrow.os, hgrow.tape, hgrow.output, hgrow.size, fun k hk hne => hgrow.block k hk fun e => hne e.symm⟩ (by simpa [intV] using hown3) (fun b hb => ?_) (by simp; omega)
                  simp [Value.ownBlock] at hb
                  subst hb
                  rcases hat with h | h
                  · exact .inl h
                  · exact .inr (by simp; omega))
                clear hown hgrow hown3 hat hlt3 kg3 kc3 k3 kf3 HM4
                go_wp2_with fail
                refine bodyPost_end (results_none rfl _ _ _) rfl ?_
                exact ⟨rfl, _, HEND.out⟩
            · have HE : Hid (dfrom N C (m + 1) d i = D) := Lib.hid (by rw [HDF.out]; unfold dEnd; rw [hct]; rfl)
              clear HDF hct
              go_wp2_with fail
              refine bodyPost_end (results_none rfl _ _ _) rfl ?_
              exact ⟨rfl, vO', by rw [HE.out]; exact HM4.out⟩
theorem docFrom_c {N : List (List Nat)} {CL : List Nat} {q gm : Nat} {vN vA : Value} {w0 : World} (hG : MayG N) (hN : RdGr w0 vN N) (hA : RdI w0 vA CL) (hcl : CL.length = N.length) (hn : N.length ≤ 5864062014634) (hcb : ∀ x ∈ CL, x < N.length) : ∀ m : Nat, DFromOk N (fun v => CL.getD v 0) q gm vN vA w0 m
  | 0 => fun w vO d i H hi hd hu => by have := unM_mark hi hd; omega
  | m + 1 => docFrom_step hG hN hA hcl hn hcb (docFrom_c hG hN hA hcl hn hcb m)
end Go.Proofs.Ytadognaafgndnaa

/- Layer 28: the document's Components: its walk. No condition but the graph's bound. -/
namespace Go.Proofs.Ytadognaafgndnaa
open Go.RowKit
attribute [local go_sem] Oper.semAt_some

def optZ : Option Nat → Int
  | none => -1
  | some c => c
theorem docC_len (r : Nat → Nat → Bool) : ∀ i, (docC r i).1.length = i
  | 0 => rfl
  | i + 1 => by
    have ih := docC_len r i
    show (match lastR (r i) (docC r i).1 i with | some c => ((docC r i).1 ++ [c], (docC r i).2) | none => ((docC r i).1 ++ [(docC r i).2], (docC r i).2 + 1)).1.length = _
    cases lastR (r i) (docC r i).1 i <;> simp [ih]
theorem docC_many (r : Nat → Nat → Bool) : ∀ i, (docC r i).2 ≤ i
  | 0 => Nat.le_refl _
  | i + 1 => by
    have ih := docC_many r i
    show (match lastR (r i) (docC r i).1 i with | some c => ((docC r i).1 ++ [c], (docC r i).2) | none => ((docC r i).1 ++ [(docC r i).2], (docC r i).2 + 1)).2 ≤ _
    cases lastR (r i) (docC r i).1 i
    · show (docC r i).2 + 1 ≤ i + 1; omega
    · show (docC r i).2 ≤ i + 1; omega
set_option maxRecDepth 100000 in
set_option maxHeartbeats 8000000 in
theorem docComponents_c {w : World} {v : Value} {G : List (List Int)} (hv : RdGZ w v G) (hb : G.length ≤ 5864062014634) (hm : mayZ G = true) :
    Calls Try.prog 15 #[v] w fun e w' => ∃ vo, e = .returned (.tuple #[vo, .int .i64 0]) ∧ RdI w' vo (docComps (natG G)) ∧ Fr w w' := by
  have HMY := Lib.hid (docMay_c hv)
  have hG := natG_may hm
  have hnl := natG_length G
  have HRC : Hid (∀ w1, Fr w w1 → Calls Try.prog 28 #[v] w1 fun e w' => ∃ vo, e = .returned vo ∧ RdGZ w' vo (reachRows (natG G)) ∧ Fr w1 w') := Lib.hid (fun w1 f => docReach_c ((hv.fr f).nat hm) (by rw [hnl]; exact hb) hG)
  rw [hm] at HMY
  obtain ⟨va, vc, rfl⟩ := hv.form
  rw [← hnl] at hb HMY HRC ⊢
  clear hv hm hG hnl
  generalize natG G = N at hb HMY HRC ⊢
  go_enter Try.func15, Try.ntmps15
  go_wp2_with fail
  refine HMY.out.mono ?_
  rintro e w1 ⟨rfl, hf1⟩
  have HRC1 := Lib.hid (HRC.out w1 hf1)
  have HF1 := Lib.hid hf1
  clear HMY HRC hf1
  go_wp2_with fail
  refine HRC1.out.mono ?_
  rintro e w2 ⟨vr, rfl, hr, hf2⟩
  have HF2 := Lib.hid (HF1.out.trans hf2)
  obtain ⟨ra, rc, rfl, hrc, hrm, hrx⟩ := hr
  have hrl : (reachRows N).length = N.length := by simp [reachRows]
  have HRX : Hid (∀ i, i < N.length → ∃ b o ua uc, ra = some ⟨b, o, none⟩ ∧ w2.cell? ⟨b, o + i, none⟩ = some (.slice ua N.length uc) ∧ N.length ≤ uc ∧ ∀ k, k < N.length → ∃ g p, ua = some ⟨g, p, none⟩ ∧ w2.cell? ⟨g, p + k, none⟩ = some (.int .i64 (bitV (reachB N i) k))) := Lib.hid (fun i hi => by
    obtain ⟨b, o, u, h1, h2, ua, uc, rfl, h3, h4, h5⟩ := hrx i (by rw [hrl]; exact hi)
    have e : (reachRows N)[i]'(by rw [hrl]; exact hi) = reachRow N i := by simp [reachRows]
    have el : (reachRow N i).length = N.length := by simp [reachRow]
    rw [e, el] at h2 h3
    refine ⟨b, o, ua, uc, h1, h2, h3, fun k hk => ?_⟩
    obtain ⟨g, p, h6, h7⟩ := h5 k (by rw [e, el]; exact hk)
    refine ⟨g, p, h6, ?_⟩
    rw [h7]
    congr 2
    simp [e, reachRow])
  rw [hrl] at hrc ⊢
  clear hf2 HRC1 HF1 hrx hrl
  have HS : Hid (Fr w2 w2 ∧ w2.ownsRow w2.heap.size 3 1 (.slice none 0 0) (docC (bothB N) 0).1.length ((docC (bothB N) 0).1.map intV)) := Lib.hid ⟨Fr.refl _, World.ownsRow_nil _ _ _ _⟩
  go_wp2_with fail
  go_loopw [5, 6, 7] (fun vo vm vi wr => ∃ i : Nat, i ≤ N.length ∧ vi = .int .i64 i ∧ vm = .int .i64 ((docC (bothB N) i).2 : Nat) ∧ Hid (Fr w2 wr ∧ wr.ownsRow w2.heap.size 3 1 vo (docC (bothB N) i).1.length ((docC (bothB N) i).1.map intV))) (fun _ _ vi _ => N.length - (intOf vi).toNat)
  case atStart => exact ⟨0, Nat.zero_le _, rfl, rfl, HS⟩
  case round =>
    obtain ⟨i, hi, rfl, rfl, HR⟩ := hrel
    clear HS
    by_cases hit : i < N.length
    · have HD : Hid (docC (bothB N) (i + 1) = match lastR (bothB N i) (docC (bothB N) i).1 i with | some c => ((docC (bothB N) i).1 ++ [c], (docC (bothB N) i).2) | none => ((docC (bothB N) i).1 ++ [(docC (bothB N) i).2], (docC (bothB N) i).2 + 1)) := Lib.hid rfl
      have hlen := docC_len (bothB N) i
      have hmany := docC_many (bothB N) i
      obtain ⟨D, hD⟩ : ∃ D, D = docC (bothB N) (i + 1) := ⟨_, rfl⟩
      rw [← hD] at HD
      have HDE := Lib.hid hD
      clear hD
      generalize (docC (bothB N) i).1 = O at HD HR hlen
      generalize (docC (bothB N) i).2 = mn at HD hmany
      obtain ⟨oa, oc, rfl, hoc, hox⟩ := ints_form HR.out.2
      have HOX := Lib.hid hox
      have HRR := Lib.hid (fun k (h : k < i) => HRX.out k (by omega))
      obtain ⟨rb, ro, ua, uc, rfl, hrc1, huc, hrow⟩ := HRX.out i hit
      have HROW := Lib.hid hrow
      have hc1 := HR.out.1.keep hrc1
      have lc1 := lt_of_cell hc1
      simp only at lc1
      clear hox hrow hrc1
      have HLEN := Lib.hid hlen
      clear hlen
      obtain ⟨wo, rfl⟩ : ∃ wo, wo = wr := ⟨_, rfl⟩
      go_wp2_with fail
      go_loopw [8, 9] (fun vcc vk wr => ∃ k : Nat, k ≤ i ∧ vk = .int .i64 k ∧ vcc = .int .i64 (optZ (lastR (bothB N i) O k)) ∧ Hid (wr = wo)) (fun _ vk _ => i - (intOf vk).toNat)
      case atStart => exact ⟨0, Nat.zero_le _, rfl, rfl, rfl⟩
      case round =>
        obtain ⟨k, hk, rfl, rfl, HW⟩ := hrel
        obtain rfl : wr = wo := HW.out
        by_cases hkt : k < i
        · have HLR : Hid (lastR (bothB N i) O (k + 1) = if bothB N i k then some (O.getD k 0) else lastR (bothB N i) O k) := Lib.hid rfl
          have hko : k < O.length := by have := HLEN.out; omega
          rw [getD_at hko] at HLR
          have hbb : bothB N i k = (reachB N i k && reachB N k i) := rfl
          obtain ⟨g1, p1, rfl, hz1⟩ := HROW.out k (by omega)
          have hz1 := HR.out.1.keep hz1
          have lz1 := lt_of_cell hz1
          obtain ⟨rb2, ro2, ua2, uc2, e2, hrc2, huc2, hrow2⟩ := HRR.out k hkt
          cases e2
          obtain ⟨g2, p2, rfl, hz2⟩ := hrow2 i hit
          have hz2 := HR.out.1.keep hz2
          have hrc2 := HR.out.1.keep hrc2
          have lz2 := lt_of_cell hz2
          obtain ⟨g3, rfl, hz3⟩ := HOX.out k hko
          have lz3 := lt_of_cell hz3
          simp only at lz1 lz2 lz3
          obtain ⟨L1, hL1⟩ : ∃ L1, L1 = lastR (bothB N i) O (k + 1) := ⟨_, rfl⟩
          rw [← hL1] at HLR
          have HLE := Lib.hid hL1
          clear hL1 hrow2
          generalize lastR (bothB N i) O k = L0 at HLR
          generalize O[k] = x at HLR hz3
          unfold intV at hz3
          unfold bitV at hz1 hz2
          generalize bothB N i k = bb at hbb HLR
          generalize reachB N i k = b1 at hbb hz1
          generalize reachB N k i = b2 at hbb hz2
          cases b1
          · have hz1 : wr.cell? ⟨g1, p1 + k, none⟩ = some (.int .i64 0) := by simpa using hz1
            have HN : Hid (lastR (bothB N i) O (k + 1) = L0) := Lib.hid (by rw [← HLE.out, HLR.out, hbb]; rfl)
            clear HLR HLE hbb hz2 lz2 hz3 lz3
            go_wp2_with fail
            go_roundw
            case rel => exact ⟨k + 1, by omega, by go_num, by rw [HN.out], by first | exact rfl | exact trivial⟩
            case measure => first | (simp [intOf]; done) | (simp [intOf]; omega)
          · have hz1 : wr.cell? ⟨g1, p1 + k, none⟩ = some (.int .i64 1) := by simpa using hz1
            cases b2
            · have hz2 : wr.cell? ⟨g2, p2 + i, none⟩ = some (.int .i64 0) := by simpa using hz2
              have HN : Hid (lastR (bothB N i) O (k + 1) = L0) := Lib.hid (by rw [← HLE.out, HLR.out, hbb]; rfl)
              clear HLR HLE hbb hz3 lz3
              go_wp2_with fail
              go_roundw
              case rel => exact ⟨k + 1, by omega, by go_num, by rw [HN.out], by first | exact rfl | exact trivial⟩
              case measure => first | (simp [intOf]; done) | (simp [intOf]; omega)
            · have hz2 : wr.cell? ⟨g2, p2 + i, none⟩ = some (.int .i64 1) := by simpa using hz2
              have HN : Hid (lastR (bothB N i) O (k + 1) = some x) := Lib.hid (by rw [← HLE.out, HLR.out, hbb]; rfl)
              clear HLR HLE hbb
              go_wp2_with fail
              go_roundw
              case rel => exact ⟨k + 1, by omega, by go_num, by rw [HN.out]; rfl, by first | exact rfl | exact trivial⟩
              case measure => first | (simp [intOf]; done) | (simp [intOf]; omega)
        · obtain rfl : k = i := by omega
          obtain ⟨L0, hL0⟩ : ∃ L0, L0 = lastR (bothB N k) O k := ⟨_, rfl⟩
          rw [← hL0] at HD ⊢
          clear hL0
          cases L0 with
          | some c =>
            have HDS : Hid (D.1 = O ++ [c] ∧ D.2 = mn) := Lib.hid (by rw [HD.out]; exact ⟨rfl, rfl⟩)
            have hneg : ¬ ((c : Nat) : Int) < 0 := by omega
            unfold optZ
            have hown := HR.out.2.alloc (.cells #[.int .i64 (c : Nat)] 3)
            have hy : (wr.alloc (.cells #[.int .i64 (c : Nat)] 3)).cell? ⟨wr.heap.size, 0, none⟩ = some (intV c) := (BoxAt.new' wr #[.int .i64 (c : Nat)] 3 _ (by simp)).at 0 rfl
            have hsz := (HR.out.1.alloc (.cells #[.int .i64 (c : Nat)] 3)).size
            have HF := Lib.hid (HR.out.1.alloc (.cells #[.int .i64 (c : Nat)] 3))
            have hlen4 : O.length ≤ 5864062014640 := by have := HLEN.out; omega
            clear HD HR HOX HRX HROW HRR hc1
            go_wp2_with (at_builtin; refine wpList_appendInt (base := w2.heap.size) rfl (.tmp 53) (.tmp 55) rfl _ O rfl hown hsz wr.heap.size 1 c rfl hy hlen4 ?_)
            intro va vn vc w6 hO6 hch6 hat6
            have HN : Hid (Fr w2 w6 ∧ w6.ownsRow w2.heap.size 3 1 (.slice va vn vc) (docC (bothB N) (k + 1)).1.length ((docC (bothB N) (k + 1)).1.map intV)) := Lib.hid ⟨hch6.fr HF.out fun b hb => (World.ownsRow.lt hown b hb).1, by rw [← HDE.out, HDS.out.1]; simpa using hO6⟩
            have HMN : Hid (mn = (docC (bothB N) (k + 1)).2) := Lib.hid (by rw [← HDE.out, HDS.out.2])
            clear hO6 hch6 hat6 hown hy hsz HF HDE HDS
            go_wp2_with fail
            go_roundw
            case rel => exact ⟨k + 1, by omega, by go_num, by first | (rw [← HMN.out]; done) | (rw [← HMN.out]; go_num), HN⟩
            case measure => first | (simp [intOf]; done) | (simp [intOf]; omega)
          | none =>
            have HDS : Hid (D.1 = O ++ [mn] ∧ D.2 = mn + 1) := Lib.hid (by rw [HD.out]; exact ⟨rfl, rfl⟩)
            unfold optZ
            have hown := HR.out.2.alloc (.cells #[.int .i64 (mn : Nat)] 3)
            have hy : (wr.alloc (.cells #[.int .i64 (mn : Nat)] 3)).cell? ⟨wr.heap.size, 0, none⟩ = some (intV mn) := (BoxAt.new' wr #[.int .i64 (mn : Nat)] 3 _ (by simp)).at 0 rfl
            have hsz := (HR.out.1.alloc (.cells #[.int .i64 (mn : Nat)] 3)).size
            have HF := Lib.hid (HR.out.1.alloc (.cells #[.int .i64 (mn : Nat)] 3))
            have hlen4 : O.length ≤ 5864062014640 := by have := HLEN.out; omega
            clear HD HR HOX HRX HROW HRR hc1
            go_wp2_with (at_builtin; refine wpList_appendInt (base := w2.heap.size) rfl (.tmp 53) (.tmp 55) rfl _ O rfl hown hsz wr.heap.size 1 mn rfl hy hlen4 ?_)
            intro va vn vc w6 hO6 hch6 hat6
            have HN : Hid (Fr w2 w6 ∧ w6.ownsRow w2.heap.size 3 1 (.slice va vn vc) (docC (bothB N) (k + 1)).1.length ((docC (bothB N) (k + 1)).1.map intV)) := Lib.hid ⟨hch6.fr HF.out fun b hb => (World.ownsRow.lt hown b hb).1, by rw [← HDE.out, HDS.out.1]; simpa using hO6⟩
            have HMN : Hid (mn + 1 = (docC (bothB N) (k + 1)).2) := Lib.hid (by rw [← HDE.out, HDS.out.2])
            clear hO6 hch6 hat6 hown hy hsz HF HDE HDS
            go_wp2_with fail
            go_roundw
            case rel => exact ⟨k + 1, by omega, by go_num, by first | (rw [← HMN.out]; done) | (rw [← HMN.out]; go_num), HN⟩
            case measure => first | (simp [intOf]; done) | (simp [intOf]; omega)
    · obtain rfl : i = N.length := by omega
      have HR2 := Lib.hid (And.intro (RdI.own HR.out.2) (HF2.out.trans HR.out.1))
      clear HR
      go_wp2_with fail
      go_ret2
      exact ⟨_, rfl, HR2.out⟩
end Go.Proofs.Ytadognaafgndnaa
