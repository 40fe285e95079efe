/- umpireref04.Parse: the walk. No condition but that the list is not endless. -/
import Derived.Test.YtfklgaeejmeipaaGreatDoorPParseP
import Derived.Test.YtfklgaeejmeipaaGreatDoorPWordsP
import Derived.Test.YtfklgaeejmeipaaGreatDoorPOp
import Derived.Test.YtfklgaeejmeipaaGreatDoorPOpWords
set_option linter.all false
set_option linter.unusedVariables false
set_option linter.unusedSimpArgs false
set_option linter.unnecessarySimpa false
/- umpireref04.Parse: the walk. No condition but that the list is not endless. -/
namespace Go.Proofs.YtfklgaeejmeipaaGreatDoor
open Go.RowKit

theorem parse_no_name (o n : List UInt8) (r : List (List UInt8)) (h : ∀ f : Nat, 1 ≤ f → f ≤ 11 → n ≠ kName f) : parseOp (o :: n :: r) = (.zero, 4) := by
  have hn : parseOp (o :: n :: r) = ((parseOp (o :: n :: r)).1, (parseOp (o :: n :: r)).2) := rfl
  by_cases he : (parseOp (o :: n :: r)).2 = 0
  · exfalso
    have h3 : parseOp (o :: n :: r) = ((parseOp (o :: n :: r)).1, 0) := by rw [← he]
    generalize (parseOp (o :: n :: r)).1 = x at h3
    obtain ⟨ok, hm, hw⟩ := (parseOp_iff _ _).1 h3
    obtain ⟨f1, f2, f3, f4, f5, f6, f7⟩ := may_facts hm
    unfold wordsOf at hw
    simp only [List.cons.injEq] at hw
    exact h x.F f1 f2 hw.2.1.symm
  · have := parseOp_none hn he
    rw [hn, this.1, this.2]
/-- The numbers behind these first words. -/
def nsAt (l : List (List UInt8)) (j : Nat) : List Int := ((List.range j).filter (· ≠ 1)).map fun i => numI (l.getD i [])
theorem nsAt_skip (l : List (List UInt8)) : nsAt l 2 = nsAt l 1 := rfl
theorem nsAt_next {l : List (List UInt8)} {j : Nat} (h : j ≠ 1) : nsAt l (j + 1) = nsAt l j ++ [numI (l.getD j [])] := by
  unfold nsAt
  rw [List.range_succ, List.filter_append, List.map_append]
  simp [h]
theorem nsAt_all (o n : List UInt8) (r : List (List UInt8)) : nsAt (o :: n :: r) (r.length + 2) = (o :: r).map numI := by
  unfold nsAt
  have e : ∀ m, (List.range (m + 2)).filter (· ≠ 1) = 0 :: (List.range m).map (· + 2) := by
    intro m
    induction m with
    | zero => rfl
    | succ m ih => rw [List.range_succ, List.filter_append, ih, List.range_succ, List.map_append]; simp
  rw [e]
  simp only [List.map_cons, List.map_map, List.cons.injEq]
  refine ⟨rfl, List.ext_getElem (by simp) fun i h1 h2 => ?_⟩
  simp at h1
  simp [List.getD_eq_getElem?_getD, h1]
def intCells (l : List Int) : List Value := l.map fun n => Value.int .i64 n
theorem ownsRow_int1 {w : World} {base : Nat} {l : List Int} {n : Int} {v : Value} (h : w.ownsRow base 3 1 v (l.length + 1) (intCells l ++ [.int .i64 n])) : w.ownsRow base 3 1 v (l ++ [n]).length (intCells (l ++ [n])) := by
  rw [show intCells (l ++ [n]) = intCells l ++ [.int .i64 n] by simp [intCells], List.length_append]; exact h
theorem nsAt_len (l : List (List UInt8)) (j : Nat) : (nsAt l j).length ≤ j := by
  unfold nsAt
  rw [List.length_map]
  exact Nat.le_trans (List.length_filter_le _ _) (by simp)
/-- How many numbers are needed, by these many questions. -/
def needJ (bk ba bb : Bool) (j : Nat) : Nat := 1 + (if 0 < j then b2i bk else 0) + (if 1 < j then b2i ba else 0) + (if 2 < j then b2i bb else 0)
theorem needJ_all (bk ba bb : Bool) : needJ bk ba bb 3 = 1 + b2i bk + b2i ba + b2i bb := rfl
theorem own_get {w : World} {base : Nat} {e : TypeId} {b off n cap : Nat} {xs : List Value} (h : w.ownsRow base e 1 (.slice (some ⟨b, off, none⟩) n cap) n xs) {j : Nat} {u : Value} (hu : xs[j]? = some u) : w.cell? ⟨b, off + j, none⟩ = some u := by
  obtain ⟨a, c, h1, _, _, h4⟩ := SlAt.own h
  simp only [Value.slice.injEq] at h1
  obtain ⟨rfl, _, rfl⟩ := h1
  rcases h4 with rfl | ⟨b', o', hx, _, _, hc⟩
  · simp at hu
  · simp only [Option.some.injEq, Addr.mk.injEq, and_true] at hx
    obtain ⟨rfl, rfl⟩ := hx
    exact hc j u hu
theorem anyBad_at {k : Bool} {ns : List Int} {j : Nat} (hj : j < ns.length) (h : badN k j (ns.getD j 0) = true) : ¬ anyBad k ns = false := by
  unfold anyBad
  rw [Bool.not_eq_false, List.any_eq_true]
  exact ⟨j, List.mem_range.2 hj, h⟩
theorem anyBad_no {k : Bool} {ns : List Int} (h : ∀ i, i < ns.length → badN k i (ns.getD i 0) = false) : anyBad k ns = false := by
  unfold anyBad
  rw [List.any_eq_false]
  intro i hi
  rw [h i (List.mem_range.1 hi)]
  simp
theorem Tryz.infoI64 : (Tryz.prog.info? 3).map (fun i => (i.zero, i.size, i.bytes)) = some (some (.int .i64 0), 1, 8) := by kernel_rfl

set_option maxRecDepth 100000 in
theorem rparse_short (v : Value) (l : List (List UInt8)) (w : World) (hv : RdS w v l) (hl : l.length < 2) :
    Calls Tryz.prog 49 #[v] w (OpRet w (.zero, 4)) := by
  obtain ⟨a, c, rfl, _, _⟩ := hv.form
  have hi : (l.length : Int) < 2 := by omega
  go_enter Tryz.func49, Tryz.ntmps49
  go_wp2
  go_loopw [4] (fun i wr => ∃ k : Nat, 1 ≤ k ∧ k ≤ 12 ∧ i = .int .u8 k ∧ Fr w wr ∧ BoxAt wr w.heap.size #[.int .u8 0, .int .u8 0, .int .u8 0, .int .u16 0, .int .u16 0] 24) (fun i _ => 12 - (intOf i).toNat)
  case atStart => exact ⟨1, by omega, by omega, rfl, (Fr.refl w).alloc _, BoxAt.new w _ _⟩
  case round =>
    obtain ⟨k, hk1, hk, rfl, hfr, hB⟩ := hrel
    have hz := hB.lt
    by_cases hlt : k ≤ 11
    · have hlti : (k : Int) ≤ 11 := by omega
      have HO := Lib.hid (rOf_yes k wr (by omega) (by omega))
      go_wp2_with fail
      refine HO.out.mono ?_
      rintro e w1 ⟨rfl, hb1⟩
      generalize kModel (k : Int) = md
      generalize kName (k : Int) = nm
      generalize hasK (k : Int) = bk
      generalize hasA (k : Int) = ba
      generalize hasB (k : Int) = bb
      have hf1 := (hfr.trans hb1).alloc (.cells #[.int .i64 md, .string ⟨nm.toArray⟩, .bool bk, .bool ba, .bool bb] 125)
      have hB1 := (hB.fr hb1).alloc (.cells #[.int .i64 md, .string ⟨nm.toArray⟩, .bool bk, .bool ba, .bool bb] 125)
      have hz1 := hB1.lt
      clear HO
      go_wp2
      go_quiet (fail)
      go_wp2
      go_roundw
      case rel => exact ⟨k + 1, by omega, by omega, by go_num, hf1.drewN _, hB1.drewN _⟩
      case measure => simp [intOf]; omega
    · obtain rfl : k = 12 := by omega
      go_wp2_with ((with_reducible refine wpList_here (.store 24 (.tmp 2) (.tmp 156)) rfl ?_); refine wpList_store_old 24 (.tmp 2) (.tmp 156) rfl w.heap.size _ _ rfl rfl hB Tryz.infoOp rfl (by simp [Value.oneCell']) rfl rfl ?_; intro w3 hR)
      exact bodyPost_ret (v := .tuple #[zeroOp, .int .i64 4]) (results_op_err rfl _ _ _ rfl rfl hR.box rfl) rfl ⟨rfl, hR.fr hfr (Nat.le_refl _)⟩
set_option maxRecDepth 100000 in
set_option maxHeartbeats 1000000 in
theorem rparse_long (v : Value) (o n : List UInt8) (r : List (List UInt8)) (w : World) (hv : RdS w v (o :: n :: r)) (hlen : r.length < 1000000) :
    Calls Tryz.prog 49 #[v] w (OpRet w (parseOp (o :: n :: r))) := by
  have HNO := Lib.hid (parse_no_name o n r)
  have HREF := Lib.hid (fun (f : Nat) (h1 : 1 ≤ f) (h2 : f ≤ 11) (hn : n = kName f) => show parseOp (o :: n :: r) = if ((o :: r).map numI).length = 1 + b2i (hasK f) + b2i (hasA f) + b2i (hasB f) ∧ anyBad (hasK f) ((o :: r).map numI) = false then (refOp f (hasK f) (hasA f) (hasB f) ((o :: r).map numI), 0) else (.zero, 4) by rw [hn]; exact parse_ref f h1 h2 o r)
  have hP : ∃ R, parseOp (o :: n :: r) = R := ⟨_, rfl⟩
  obtain ⟨R, hP⟩ := hP
  rw [hP] at HNO HREF ⊢
  clear hP
  have HNS := Lib.hid (nsAt_all o n r)
  obtain ⟨b, off, cap, rfl, hl, hm, hb, hcell⟩ := hv.at (k := 0) (by simp)
  have hc1 := hcell 1 n rfl
  have HC := Lib.hid hcell
  obtain ⟨i0, hi0, hz0, hz1, hz2⟩ := info_parts Tryz.infoI64
  have HI := Lib.hid hi0
  have HZ0 := Lib.hid hz0
  have HZ1 := Lib.hid hz1
  have HZ2 := Lib.hid hz2
  simp only [List.length_cons] at hl ⊢
  have hi : ¬ ((r.length : Int) + 1 + 1 < 2) := by omega
  have hi2 : (1 : Int) < (r.length : Int) + 1 + 1 := by omega
  unfold maxLen at hm
  clear hcell hv hi0 hz0 hz1 hz2
  go_enter Tryz.func49, Tryz.ntmps49
  go_wp2
  go_loopw [4] (fun i wr => ∃ k : Nat, 1 ≤ k ∧ k ≤ 12 ∧ i = .int .u8 k ∧ Fr w wr ∧ BoxAt wr w.heap.size #[.int .u8 0, .int .u8 0, .int .u8 0, .int .u16 0, .int .u16 0] 24 ∧ Hid (∀ f : Nat, 1 ≤ f → f < k → n ≠ kName f)) (fun i _ => 12 - (intOf i).toNat)
  case atStart => exact ⟨1, by omega, by omega, rfl, (Fr.refl w).alloc _, BoxAt.new w _ _, Lib.hid (by omega)⟩
  case round =>
    obtain ⟨k, hk1, hk, rfl, hfr, hB, hno⟩ := hrel
    have hz := hB.lt
    by_cases hlt : k ≤ 11
    · have hlti : (k : Int) ≤ 11 := by omega
      have HO := Lib.hid (rOf_yes k wr (by omega) (by omega))
      go_wp2_with fail
      refine HO.out.mono ?_
      rintro e w1 ⟨rfl, hb1⟩
      clear HO
      by_cases hnm : n = kName (k : Int)
      · have hno2 := Lib.hid (HREF.out k hk1 hlt hnm)
        rw [← hnm]
        clear hnm hno HNO HREF
        generalize kModel (k : Int) = md
        generalize hasK (k : Int) = bk at hno2 ⊢
        generalize hasA (k : Int) = ba at hno2 ⊢
        generalize hasB (k : Int) = bb at hno2 ⊢
        have hf1 := hfr.trans hb1
        have hcc1 := ((hf1.alloc (.cells #[.int .i64 md, .string ⟨n.toArray⟩, .bool bk, .bool ba, .bool bb] 125))).keep hc1
        have k1 : (w1.alloc (.cells #[.int .i64 md, .string ⟨n.toArray⟩, .bool bk, .bool ba, .bool bb] 125)).cell? ⟨w1.heap.size, 1, none⟩ = some (.string ⟨n.toArray⟩) := by simp
        have hq : (n == n) = true := by simp
        go_wp2
        go_quiet (fail)
        go_wp2
        have HBW : Below (w1.heap.size + 1) (w1.alloc (.cells #[.int .i64 md, .string ⟨n.toArray⟩, .bool bk, .bool ba, .bool bb] 125)) ((w1.alloc (.cells #[.int .i64 md, .string ⟨n.toArray⟩, .bool bk, .bool ba, .bool bb] 125)).drewN nq) := by
          have := (Fr.refl (w1.alloc (.cells #[.int .i64 md, .string ⟨n.toArray⟩, .bool bk, .bool ba, .bool bb] 125))).drewN nq
          unfold Fr at this
          simpa using this
        have hBr := hB.fr hb1
        have hBz := hBr.lt
        clear hcc1 hc1 hB
        go_loopw [7, 8] (fun u i wt => ∃ j : Nat, j ≤ r.length + 2 ∧ i = .int .i64 j ∧ Below (w1.heap.size + 1) (w1.alloc (.cells #[.int .i64 md, .string ⟨n.toArray⟩, .bool bk, .bool ba, .bool bb] 125)) wt ∧ wt.ownsRow (w1.heap.size + 1) 3 1 u (nsAt (o :: n :: r) j).length (intCells (nsAt (o :: n :: r) j))) (fun _ i _ => r.length + 2 - (intOf i).toNat)
        case atStart => exact ⟨0, by omega, rfl, HBW, rfl, .inl ⟨rfl, rfl⟩⟩
        case round =>
          obtain ⟨j, hj, rfl, hBt, hown⟩ := hrel
          have hs := hBt.size
          simp at hs
          by_cases hjl : j < r.length + 2
          · have hji : (j : Int) < (r.length : Int) + 1 + 1 := by omega
            by_cases hj1 : j = 1
            · subst hj1
              go_wp2
              go_roundw
              case rel => exact ⟨2, by omega, rfl, hBt, hown⟩
              case measure => simp [intOf]
            · have hj1i : ((j : Int) != 1) = true := by simp; omega
              have hln := nsAt_len (o :: n :: r) j
              have hget : (o :: n :: r)[j]? = some ((o :: n :: r).getD j []) := by rw [List.getD_eq_getElem?_getD, List.getElem?_eq_getElem (by simp; omega)]; rfl
              have hcj := (frB hf1 hBt).keep (HC.out j _ hget)
              have HNX := Lib.hid (nsAt_next (l := o :: n :: r) hj1)
              generalize (o :: n :: r).getD j [] = s at hcj HNX
              clear hget hj1
              have HNM := Lib.hid (Number4_c s wr)
              go_wp2_with fail
              refine HNM.out.mono ?_
              rintro e w2 ⟨rfl, hb2⟩
              have hB2 := Below.frTo hBt (by omega) hb2
              have hown2 := ownsRow_fr hown hb2
              have hs2 := hB2.size
              simp at hs2
              generalize numI s = z at HNX
              clear hcj HNM hown
              go_wp2_with (at_builtin; refine wpList_append_own _ rfl (.tmp 47) (.tmp 49) 133 rfl (w1.heap.size + 1) 3 i0 (.int .i64 0) 1 8 Tryz.underlying133 HI.out HZ0.out HZ1.out HZ2.out rfl (by decide) _ _ _ rfl (hown2.alloc _) ⟨w2.heap.size, 0, none⟩ 1 1 [.int .i64 z] rfl rfl ?c1 ?c2 ?c3 ?c4 ?c5 ?_)
              case c1 => intro j u hj; match j, hj with | 0, hj => simp at hj; subst hj; simp [Addr.add]
              case c2 => intro u hu; simp at hu; subst hu; rfl
              case c3 => simp only [maxLen]; omega
              case c4 => omega
              case c5 => simp; omega
              intro v4 w4 hn hgrow _
              have HB4 := (hB2.alloc (by omega) (.cells #[.int .i64 z] 3)).grown hgrow (by simp; omega) (fun k hk => (hown2.lt k hk).1)
              have hown4 := ownsRow_int1 hn
              rw [← HNX.out] at hown4
              clear hgrow hn hown2
              go_wp2_with fail
              go_roundw
              case rel => exact ⟨j + 1, by omega, by go_num, HB4, hown4⟩
              case measure => simp [intOf]; omega
          · obtain rfl : j = r.length + 2 := by omega
            have hji : ¬ (((r.length + 2 : Nat) : Int) < (r.length : Int) + 1 + 1) := by omega
            rw [HNS.out] at hown
            have hnx : ∃ ns, ns = (o :: r).map numI := ⟨_, rfl⟩
            obtain ⟨ns, hnx⟩ := hnx
            rw [← hnx] at hown hno2
            have hns1 : 1 ≤ ns.length := by rw [hnx]; simp
            have hnsl : ns.length ≤ 1000001 := by rw [hnx]; simp; omega
            have HZN := Lib.hid (show ∀ z ∈ ns, -1 ≤ z ∧ z < 65536 by rw [hnx]; intro z hz; obtain ⟨s, _, rfl⟩ := List.mem_map.1 hz; exact numI_lt s)
            clear hnx HNS HC HI HZ0 HZ1 HZ2 hjl
            obtain ⟨sa, cap2, rfl, hcp1, hcp2, hsa⟩ := SlAt.own hown
            obtain ⟨sb, so, rfl, hsb, _, _⟩ := hsa.resolve_left (fun e => by have := congrArg List.length e; simp [intCells] at this; rw [this] at hns1; simp at hns1)
            clear hsa
            unfold maxLen at hcp2
            have k2 : (w1.alloc (.cells #[.int .i64 md, .string ⟨n.toArray⟩, .bool bk, .bool ba, .bool bb] 125)).cell? ⟨w1.heap.size, 2, none⟩ = some (.bool bk) := by simp
            have k3 : (w1.alloc (.cells #[.int .i64 md, .string ⟨n.toArray⟩, .bool bk, .bool ba, .bool bb] 125)).cell? ⟨w1.heap.size, 3, none⟩ = some (.bool ba) := by simp
            have k4 : (w1.alloc (.cells #[.int .i64 md, .string ⟨n.toArray⟩, .bool bk, .bool ba, .bool bb] 125)).cell? ⟨w1.heap.size, 4, none⟩ = some (.bool bb) := by simp
            go_wp2
            go_loopw [10, 11] (fun m i wt => ∃ j : Nat, j ≤ 3 ∧ i = .int .i64 j ∧ m = .int .i64 (needJ bk ba bb j : Nat) ∧ Below (w1.heap.size + 1) (w1.alloc (.cells #[.int .i64 md, .string ⟨n.toArray⟩, .bool bk, .bool ba, .bool bb] 125)) wt ∧ wt.ownsRow (w1.heap.size + 1) 3 1 (.slice (some ⟨sb, so, none⟩) ns.length cap2) ns.length (intCells ns)) (fun _ i _ => 3 - (intOf i).toNat)
            case atStart => exact ⟨0, by omega, rfl, rfl, hBt, hown⟩
            case round =>
              clear hBt hown hs
              obtain ⟨j, hj, rfl, rfl, hBt, hown⟩ := hrel
              have hs := hBt.size
              simp at hs
              by_cases hjl : j < 3
              · have c2 := keepB hBt k2
                have c3 := keepB hBt k3
                have c4 := keepB hBt k4
                have hk2 := lt_of_cell c2
                simp only at hk2
                clear k2 k3 k4
                rcases (show j = 0 ∨ j = 1 ∨ j = 2 by omega) with rfl | rfl | rfl
                · cases bk
                  all_goals
                    go_wp2
                    go_roundw
                    case rel => exact ⟨1, by omega, rfl, by ((try cases bk) <;> (try cases ba) <;> (try cases bb) <;> first | rfl | (simp [needJ, b2i]; done) | (simp [needJ, b2i]; simp [wrap64]; done) | (simp [needJ, b2i]; go_num)), hBt, hown⟩
                    case measure => simp [intOf]
                · cases ba
                  all_goals
                    go_wp2
                    go_roundw
                    case rel => exact ⟨2, by omega, rfl, by ((try cases bk) <;> (try cases ba) <;> (try cases bb) <;> first | rfl | (simp [needJ, b2i]; done) | (simp [needJ, b2i]; simp [wrap64]; done) | (simp [needJ, b2i]; go_num)), hBt, hown⟩
                    case measure => simp [intOf]
                · cases bb
                  all_goals
                    go_wp2
                    go_roundw
                    case rel => exact ⟨3, by omega, rfl, by ((try cases bk) <;> (try cases ba) <;> (try cases bb) <;> first | rfl | (simp [needJ, b2i]; done) | (simp [needJ, b2i]; simp [wrap64]; done) | (simp [needJ, b2i]; go_num)), hBt, hown⟩
                    case measure => simp [intOf]
              · obtain rfl : j = 3 := by omega
                have hN : ∃ N, N = needJ bk ba bb 3 := ⟨_, rfl⟩
                obtain ⟨N, hN⟩ := hN
                rw [← hN]
                rw [needJ_all] at hN
                rw [← hN] at hno2
                by_cases hq2 : ns.length = N
                · have HR := Lib.hid (show R = if anyBad bk ns = false then (refOp k bk ba bb ns, 0) else (.zero, 4) by
                    have := hno2.out
                    by_cases h : anyBad bk ns = false
                    · rw [if_pos h]; rwa [if_pos ⟨hq2, h⟩] at this
                    · rw [if_neg h]; rwa [if_neg (fun e => h e.2)] at this)
                  have HNL := Lib.hid (show ns.length = 1 + b2i bk + b2i ba + b2i bb by omega)
                  clear hno2
                  subst hq2
                  clear hN
                  go_wp2
                  go_loopw [12] (fun i wt => ∃ j : Nat, j ≤ ns.length ∧ i = .int .i64 j ∧ Below (w1.heap.size + 1) (w1.alloc (.cells #[.int .i64 md, .string ⟨n.toArray⟩, .bool bk, .bool ba, .bool bb] 125)) wt ∧ wt.ownsRow (w1.heap.size + 1) 3 1 (.slice (some ⟨sb, so, none⟩) ns.length cap2) ns.length (intCells ns) ∧ Hid (∀ i, i < j → badN bk i (ns.getD i 0) = false)) (fun i _ => ns.length - (intOf i).toNat)
                  case atStart => exact ⟨0, by omega, rfl, hBt, hown, Lib.hid (by omega)⟩
                  case round =>
                    clear hBt hown hs
                    obtain ⟨j, hj, rfl, hBt, hown, hgood⟩ := hrel
                    have hs := hBt.size
                    simp at hs
                    by_cases hjl : j < ns.length
                    · have c2 := keepB hBt k2
                      have hk2 := lt_of_cell c2
                      simp only at hk2
                      have hzx : ∃ z, z = ns.getD j 0 := ⟨_, rfl⟩
                      obtain ⟨z, hzx⟩ := hzx
                      have hcz : wr.cell? ⟨sb, so + j, none⟩ = some (.int .i64 z) := own_get hown (by rw [hzx]; simp [intCells, List.getD_eq_getElem?_getD, List.getElem?_eq_getElem hjl])
                      have hsz := lt_of_cell hcz
                      simp only at hsz
                      have hji : (j : Int) < ns.length := by omega
                      clear k2 k3 k4
                      cases hbd : badN bk j z
                      · have HG := Lib.hid (show ∀ i, i < j + 1 → badN bk i (ns.getD i 0) = false by
                          intro i hi
                          by_cases e : i = j
                          · subst e; rw [← hzx]; exact hbd
                          · exact hgood.out i (by omega))
                        unfold badN at hbd
                        simp only [Bool.or_eq_false_iff, Bool.and_eq_false_iff, decide_eq_false_iff_not] at hbd
                        obtain ⟨⟨hb1, hb2⟩, hb3⟩ := hbd
                        clear hgood hzx
                        by_cases hj0 : j = 0
                        · subst hj0
                          simp only [Nat.add_zero] at hcz
                          have hz7 : ¬ 7 < z := by rcases hb2 with h | h; exact absurd rfl h; exact h
                          clear hb2 hb3
                          go_wp2
                          go_roundw
                          case rel => exact ⟨1, by omega, rfl, hBt, hown, HG⟩
                          case measure => simp [intOf]; omega
                        · by_cases hj1 : j = 1
                          · subst hj1
                            clear hb2 hj0
                            cases bk
                            · clear hb3
                              go_wp2
                              go_roundw
                              case rel => exact ⟨2, by omega, rfl, hBt, hown, HG⟩
                              case measure => simp [intOf]; omega
                            · have hz7 : ¬ 7 < z := by rcases hb3 with h | h | h; exact absurd rfl h; cases h; exact h
                              clear hb3
                              go_wp2
                              go_roundw
                              case rel => exact ⟨2, by omega, rfl, hBt, hown, HG⟩
                              case measure => simp [intOf]; omega
                          · have e0 : ((j : Int) == 0) = false := by simp; omega
                            have e1 : ((j : Int) == 1) = false := by simp; omega
                            clear hb2 hb3 hj0 hj1
                            go_wp2
                            exact ⟨⟨j + 1, by omega, by go_num, hBt, hown, HG⟩, by simp [intOf]; omega⟩
                      · have hRR : R = (.zero, 4) := by have := HR.out; rwa [if_neg (anyBad_at hjl (by rw [← hzx]; exact hbd))] at this
                        have hBo : BoxAt wr w.heap.size #[.int .u8 0, .int .u8 0, .int .u8 0, .int .u16 0, .int .u16 0] 24 := (Below.block hBt _ (by omega)).trans (hBr.alloc _)
                        have hfr3 := frB hf1 hBt
                        unfold badN at hbd
                        simp only [Bool.or_eq_true, Bool.and_eq_true, decide_eq_true_eq] at hbd
                        clear HR HNL hgood hzx
                        subst hRR
                        rcases hbd with (h | ⟨rfl, h⟩) | ⟨rfl, rfl, h⟩
                        · go_wp2_with ((with_reducible refine wpList_here (.store 24 (.tmp 2) (.tmp 121)) rfl ?_); refine wpList_store_old 24 (.tmp 2) (.tmp 121) rfl w.heap.size _ _ rfl rfl hBo Tryz.infoOp rfl (by simp [Value.oneCell']) rfl rfl ?_; intro w3 hR)
                          exact bodyPost_ret (v := .tuple #[zeroOp, .int .i64 4]) (results_op_err rfl _ _ _ rfl rfl hR.box rfl) rfl ⟨rfl, hR.fr hfr3 (Nat.le_refl _)⟩
                        · simp only [Nat.add_zero] at hcz
                          have hz0 : ¬ z < 0 := by omega
                          go_wp2_with ((with_reducible refine wpList_here (.store 24 (.tmp 2) (.tmp 121)) rfl ?_); refine wpList_store_old 24 (.tmp 2) (.tmp 121) rfl w.heap.size _ _ rfl rfl hBo Tryz.infoOp rfl (by simp [Value.oneCell']) rfl rfl ?_; intro w3 hR)
                          exact bodyPost_ret (v := .tuple #[zeroOp, .int .i64 4]) (results_op_err rfl _ _ _ rfl rfl hR.box rfl) rfl ⟨rfl, hR.fr hfr3 (Nat.le_refl _)⟩
                        · have hz0 : ¬ z < 0 := by omega
                          go_wp2_with ((with_reducible refine wpList_here (.store 24 (.tmp 2) (.tmp 121)) rfl ?_); refine wpList_store_old 24 (.tmp 2) (.tmp 121) rfl w.heap.size _ _ rfl rfl hBo Tryz.infoOp rfl (by simp [Value.oneCell']) rfl rfl ?_; intro w3 hR)
                          exact bodyPost_ret (v := .tuple #[zeroOp, .int .i64 4]) (results_op_err rfl _ _ _ rfl rfl hR.box rfl) rfl ⟨rfl, hR.fr hfr3 (Nat.le_refl _)⟩
                    · obtain rfl : j = ns.length := by omega
                      have hRR : R = (refOp k bk ba bb ns, 0) := by have := HR.out; rwa [if_pos (anyBad_no hgood.out)] at this
                      have hBo : BoxAt wr w.heap.size #[.int .u8 0, .int .u8 0, .int .u8 0, .int .u16 0, .int .u16 0] 24 := (Below.block hBt _ (by omega)).trans (hBr.alloc _)
                      have hfr3 := frB hf1 hBt
                      have c2 := keepB hBt k2
                      have c3 := keepB hBt k3
                      have c4 := keepB hBt k4
                      have hrz := lt_of_cell c2
                      simp only at hrz
                      have hgd := fun i (hi : i < ns.length) => anyBad_false (anyBad_no hgood.out) i hi
                      have hNR := HNL.out
                      have HZn := HZN.out
                      have hcell := fun (i : Nat) (z : Int) (h : ns[i]? = some z) => own_get (j := i) hown (show (intCells ns)[i]? = some (.int .i64 z) by simp [intCells, h])
                      subst hRR
                      clear HR HNL hgood HZN k2 k3 k4 hown hBt hBr hji hjl hns1 hnsl hj
                      rcases Bool.eq_false_or_eq_true bk with rfl | rfl <;> rcases Bool.eq_false_or_eq_true ba with rfl | rfl <;> rcases Bool.eq_false_or_eq_true bb with rfl | rfl
                      · obtain ⟨z0, z1, z2, z3, rfl⟩ : ∃ z0 z1 z2 z3, ns = [z0, z1, z2, z3] := by
                          match ns, hNR with
                          | [z0, z1, z2, z3], _ => exact ⟨z0, z1, z2, z3, rfl⟩
                        have g0 := hgd 0 (by simp)
                        have u0 := HZn z0 (by simp)
                        have e0 := hcell 0 z0 rfl
                        have g1 := hgd 1 (by simp)
                        have u1 := HZn z1 (by simp)
                        have e1 := hcell 1 z1 rfl
                        have g2 := hgd 2 (by simp)
                        have u2 := HZn z2 (by simp)
                        have e2 := hcell 2 z2 rfl
                        have g3 := hgd 3 (by simp)
                        have u3 := HZn z3 (by simp)
                        have e3 := hcell 3 z3 rfl
                        simp only [List.getD_eq_getElem?_getD, List.getElem?_cons_zero, List.getElem?_cons_succ, Option.getD_some, Nat.add_zero] at g0 g1 g2 g3 e0
                        have p0 : 0 ≤ z0 ∧ z0 ≤ 7 := ⟨g0.1, g0.2.1 (by simp)⟩
                        have p1 : 0 ≤ z1 ∧ z1 ≤ 7 := ⟨g1.1, g1.2.2 (by simp) (by simp)⟩
                        have p2 : 0 ≤ z2 ∧ z2 < 65536 := ⟨g2.1, u2.2⟩
                        have p3 : 0 ≤ z3 ∧ z3 < 65536 := ⟨g3.1, u3.2⟩
                        obtain ⟨p0a, p0b⟩ := p0
                        obtain ⟨p1a, p1b⟩ := p1
                        obtain ⟨p2a, p2b⟩ := p2
                        obtain ⟨p3a, p3b⟩ := p3
                        have w0 : IntKind.u8.wrap z0 = z0 := by simp [IntKind.wrap, IntKind.bits, IntKind.signed]; omega
                        have w1' : IntKind.u8.wrap z1 = z1 := by simp [IntKind.wrap, IntKind.bits, IntKind.signed]; omega
                        have w2' : IntKind.u16.wrap z2 = z2 := by simp [IntKind.wrap, IntKind.bits, IntKind.signed]; omega
                        have w3' : IntKind.u16.wrap z3 = z3 := by simp [IntKind.wrap, IntKind.bits, IntKind.signed]; omega
                        have hsz := lt_of_cell e0
                        simp only at hsz
                        simp only [List.length_cons, List.length_nil] at hcp1
                        have q1 : ¬ (cap2 : Int) = 1 := by omega
                        have q2 : ¬ (cap2 : Int) = 2 := by omega
                        have q3 : ¬ (cap2 : Int) = 3 := by omega
                        clear hgd HZn hcell hNR g0 u0 g1 u1 g2 u2 g3 u3
                        simp only [List.length_cons, List.length_nil]
                        have t0 : ((z0.toNat : Nat) : Int) = z0 := Int.toNat_of_nonneg p0a
                        have t1 : ((z1.toNat : Nat) : Int) = z1 := Int.toNat_of_nonneg p1a
                        have t2 : ((z2.toNat : Nat) : Int) = z2 := Int.toNat_of_nonneg p2a
                        have t3 : ((z3.toNat : Nat) : Int) = z3 := Int.toNat_of_nonneg p3a
                        have HT := Lib.hid (show OpD.val (refOp k true true true [z0, z1, z2, z3]) = .agg #[.int .u8 k, .int .u8 z0, .int .u8 z1, .int .u16 z2, .int .u16 z3] by simp [refOp, OpD.val, b2i, t0, t1, t2, t3])
                        clear t0 t1 t2 t3
                        go_wp2_with ((with_reducible refine wpList_here (.store 24 (.tmp 2) (.tmp 155)) rfl ?_); refine wpList_store_old 24 (.tmp 2) (.tmp 155) rfl w.heap.size _ _ rfl rfl (hBo.alloc _) Tryz.infoOp rfl (by simp [Value.oneCell']) rfl rfl ?_; intro w5 hR)
                        all_goals exact bodyPost_ret (v := .tuple #[.agg #[.int .u8 k, .int .u8 z0, .int .u8 z1, .int .u16 z2, .int .u16 z3], .int .i64 0]) (results_op_err rfl _ _ _ rfl rfl hR.box rfl) rfl ⟨by rw [HT.out]; rfl, hR.fr (hfr3.alloc _) (Nat.le_refl _)⟩
                      · obtain ⟨z0, z1, z2, rfl⟩ : ∃ z0 z1 z2, ns = [z0, z1, z2] := by
                          match ns, hNR with
                          | [z0, z1, z2], _ => exact ⟨z0, z1, z2, rfl⟩
                        have g0 := hgd 0 (by simp)
                        have u0 := HZn z0 (by simp)
                        have e0 := hcell 0 z0 rfl
                        have g1 := hgd 1 (by simp)
                        have u1 := HZn z1 (by simp)
                        have e1 := hcell 1 z1 rfl
                        have g2 := hgd 2 (by simp)
                        have u2 := HZn z2 (by simp)
                        have e2 := hcell 2 z2 rfl
                        simp only [List.getD_eq_getElem?_getD, List.getElem?_cons_zero, List.getElem?_cons_succ, Option.getD_some, Nat.add_zero] at g0 g1 g2 e0
                        have p0 : 0 ≤ z0 ∧ z0 ≤ 7 := ⟨g0.1, g0.2.1 (by simp)⟩
                        have p1 : 0 ≤ z1 ∧ z1 ≤ 7 := ⟨g1.1, g1.2.2 (by simp) (by simp)⟩
                        have p2 : 0 ≤ z2 ∧ z2 < 65536 := ⟨g2.1, u2.2⟩
                        obtain ⟨p0a, p0b⟩ := p0
                        obtain ⟨p1a, p1b⟩ := p1
                        obtain ⟨p2a, p2b⟩ := p2
                        have w0 : IntKind.u8.wrap z0 = z0 := by simp [IntKind.wrap, IntKind.bits, IntKind.signed]; omega
                        have w1' : IntKind.u8.wrap z1 = z1 := by simp [IntKind.wrap, IntKind.bits, IntKind.signed]; omega
                        have w2' : IntKind.u16.wrap z2 = z2 := by simp [IntKind.wrap, IntKind.bits, IntKind.signed]; omega
                        have hsz := lt_of_cell e0
                        simp only at hsz
                        simp only [List.length_cons, List.length_nil] at hcp1
                        have q1 : ¬ (cap2 : Int) = 1 := by omega
                        have q2 : ¬ (cap2 : Int) = 2 := by omega
                        clear hgd HZn hcell hNR g0 u0 g1 u1 g2 u2
                        simp only [List.length_cons, List.length_nil]
                        have t0 : ((z0.toNat : Nat) : Int) = z0 := Int.toNat_of_nonneg p0a
                        have t1 : ((z1.toNat : Nat) : Int) = z1 := Int.toNat_of_nonneg p1a
                        have t2 : ((z2.toNat : Nat) : Int) = z2 := Int.toNat_of_nonneg p2a
                        have HT := Lib.hid (show OpD.val (refOp k true true false [z0, z1, z2]) = .agg #[.int .u8 k, .int .u8 z0, .int .u8 z1, .int .u16 z2, .int .u16 0] by simp [refOp, OpD.val, b2i, t0, t1, t2])
                        clear t0 t1 t2
                        go_wp2_with ((with_reducible refine wpList_here (.store 24 (.tmp 2) (.tmp 155)) rfl ?_); refine wpList_store_old 24 (.tmp 2) (.tmp 155) rfl w.heap.size _ _ rfl rfl (hBo.alloc _) Tryz.infoOp rfl (by simp [Value.oneCell']) rfl rfl ?_; intro w5 hR)
                        all_goals exact bodyPost_ret (v := .tuple #[.agg #[.int .u8 k, .int .u8 z0, .int .u8 z1, .int .u16 z2, .int .u16 0], .int .i64 0]) (results_op_err rfl _ _ _ rfl rfl hR.box rfl) rfl ⟨by rw [HT.out]; rfl, hR.fr (hfr3.alloc _) (Nat.le_refl _)⟩
                      · obtain ⟨z0, z1, z2, rfl⟩ : ∃ z0 z1 z2, ns = [z0, z1, z2] := by
                          match ns, hNR with
                          | [z0, z1, z2], _ => exact ⟨z0, z1, z2, rfl⟩
                        have g0 := hgd 0 (by simp)
                        have u0 := HZn z0 (by simp)
                        have e0 := hcell 0 z0 rfl
                        have g1 := hgd 1 (by simp)
                        have u1 := HZn z1 (by simp)
                        have e1 := hcell 1 z1 rfl
                        have g2 := hgd 2 (by simp)
                        have u2 := HZn z2 (by simp)
                        have e2 := hcell 2 z2 rfl
                        simp only [List.getD_eq_getElem?_getD, List.getElem?_cons_zero, List.getElem?_cons_succ, Option.getD_some, Nat.add_zero] at g0 g1 g2 e0
                        have p0 : 0 ≤ z0 ∧ z0 ≤ 7 := ⟨g0.1, g0.2.1 (by simp)⟩
                        have p1 : 0 ≤ z1 ∧ z1 ≤ 7 := ⟨g1.1, g1.2.2 (by simp) (by simp)⟩
                        have p2 : 0 ≤ z2 ∧ z2 < 65536 := ⟨g2.1, u2.2⟩
                        obtain ⟨p0a, p0b⟩ := p0
                        obtain ⟨p1a, p1b⟩ := p1
                        obtain ⟨p2a, p2b⟩ := p2
                        have w0 : IntKind.u8.wrap z0 = z0 := by simp [IntKind.wrap, IntKind.bits, IntKind.signed]; omega
                        have w1' : IntKind.u8.wrap z1 = z1 := by simp [IntKind.wrap, IntKind.bits, IntKind.signed]; omega
                        have w2' : IntKind.u16.wrap z2 = z2 := by simp [IntKind.wrap, IntKind.bits, IntKind.signed]; omega
                        have hsz := lt_of_cell e0
                        simp only at hsz
                        simp only [List.length_cons, List.length_nil] at hcp1
                        have q1 : ¬ (cap2 : Int) = 1 := by omega
                        have q2 : ¬ (cap2 : Int) = 2 := by omega
                        clear hgd HZn hcell hNR g0 u0 g1 u1 g2 u2
                        simp only [List.length_cons, List.length_nil]
                        have t0 : ((z0.toNat : Nat) : Int) = z0 := Int.toNat_of_nonneg p0a
                        have t1 : ((z1.toNat : Nat) : Int) = z1 := Int.toNat_of_nonneg p1a
                        have t2 : ((z2.toNat : Nat) : Int) = z2 := Int.toNat_of_nonneg p2a
                        have HT := Lib.hid (show OpD.val (refOp k true false true [z0, z1, z2]) = .agg #[.int .u8 k, .int .u8 z0, .int .u8 z1, .int .u16 0, .int .u16 z2] by simp [refOp, OpD.val, b2i, t0, t1, t2])
                        clear t0 t1 t2
                        go_wp2_with ((with_reducible refine wpList_here (.store 24 (.tmp 2) (.tmp 155)) rfl ?_); refine wpList_store_old 24 (.tmp 2) (.tmp 155) rfl w.heap.size _ _ rfl rfl (hBo.alloc _) Tryz.infoOp rfl (by simp [Value.oneCell']) rfl rfl ?_; intro w5 hR)
                        all_goals exact bodyPost_ret (v := .tuple #[.agg #[.int .u8 k, .int .u8 z0, .int .u8 z1, .int .u16 0, .int .u16 z2], .int .i64 0]) (results_op_err rfl _ _ _ rfl rfl hR.box rfl) rfl ⟨by rw [HT.out]; rfl, hR.fr (hfr3.alloc _) (Nat.le_refl _)⟩
                      · obtain ⟨z0, z1, rfl⟩ : ∃ z0 z1, ns = [z0, z1] := by
                          match ns, hNR with
                          | [z0, z1], _ => exact ⟨z0, z1, rfl⟩
                        have g0 := hgd 0 (by simp)
                        have u0 := HZn z0 (by simp)
                        have e0 := hcell 0 z0 rfl
                        have g1 := hgd 1 (by simp)
                        have u1 := HZn z1 (by simp)
                        have e1 := hcell 1 z1 rfl
                        simp only [List.getD_eq_getElem?_getD, List.getElem?_cons_zero, List.getElem?_cons_succ, Option.getD_some, Nat.add_zero] at g0 g1 e0
                        have p0 : 0 ≤ z0 ∧ z0 ≤ 7 := ⟨g0.1, g0.2.1 (by simp)⟩
                        have p1 : 0 ≤ z1 ∧ z1 ≤ 7 := ⟨g1.1, g1.2.2 (by simp) (by simp)⟩
                        obtain ⟨p0a, p0b⟩ := p0
                        obtain ⟨p1a, p1b⟩ := p1
                        have w0 : IntKind.u8.wrap z0 = z0 := by simp [IntKind.wrap, IntKind.bits, IntKind.signed]; omega
                        have w1' : IntKind.u8.wrap z1 = z1 := by simp [IntKind.wrap, IntKind.bits, IntKind.signed]; omega
                        have hsz := lt_of_cell e0
                        simp only at hsz
                        simp only [List.length_cons, List.length_nil] at hcp1
                        have q1 : ¬ (cap2 : Int) = 1 := by omega
                        clear hgd HZn hcell hNR g0 u0 g1 u1
                        simp only [List.length_cons, List.length_nil]
                        have t0 : ((z0.toNat : Nat) : Int) = z0 := Int.toNat_of_nonneg p0a
                        have t1 : ((z1.toNat : Nat) : Int) = z1 := Int.toNat_of_nonneg p1a
                        have HT := Lib.hid (show OpD.val (refOp k true false false [z0, z1]) = .agg #[.int .u8 k, .int .u8 z0, .int .u8 z1, .int .u16 0, .int .u16 0] by simp [refOp, OpD.val, b2i, t0, t1])
                        clear t0 t1
                        go_wp2_with ((with_reducible refine wpList_here (.store 24 (.tmp 2) (.tmp 155)) rfl ?_); refine wpList_store_old 24 (.tmp 2) (.tmp 155) rfl w.heap.size _ _ rfl rfl (hBo.alloc _) Tryz.infoOp rfl (by simp [Value.oneCell']) rfl rfl ?_; intro w5 hR)
                        all_goals exact bodyPost_ret (v := .tuple #[.agg #[.int .u8 k, .int .u8 z0, .int .u8 z1, .int .u16 0, .int .u16 0], .int .i64 0]) (results_op_err rfl _ _ _ rfl rfl hR.box rfl) rfl ⟨by rw [HT.out]; rfl, hR.fr (hfr3.alloc _) (Nat.le_refl _)⟩
                      · obtain ⟨z0, z1, z2, rfl⟩ : ∃ z0 z1 z2, ns = [z0, z1, z2] := by
                          match ns, hNR with
                          | [z0, z1, z2], _ => exact ⟨z0, z1, z2, rfl⟩
                        have g0 := hgd 0 (by simp)
                        have u0 := HZn z0 (by simp)
                        have e0 := hcell 0 z0 rfl
                        have g1 := hgd 1 (by simp)
                        have u1 := HZn z1 (by simp)
                        have e1 := hcell 1 z1 rfl
                        have g2 := hgd 2 (by simp)
                        have u2 := HZn z2 (by simp)
                        have e2 := hcell 2 z2 rfl
                        simp only [List.getD_eq_getElem?_getD, List.getElem?_cons_zero, List.getElem?_cons_succ, Option.getD_some, Nat.add_zero] at g0 g1 g2 e0
                        have p0 : 0 ≤ z0 ∧ z0 ≤ 7 := ⟨g0.1, g0.2.1 (by simp)⟩
                        have p1 : 0 ≤ z1 ∧ z1 < 65536 := ⟨g1.1, u1.2⟩
                        have p2 : 0 ≤ z2 ∧ z2 < 65536 := ⟨g2.1, u2.2⟩
                        obtain ⟨p0a, p0b⟩ := p0
                        obtain ⟨p1a, p1b⟩ := p1
                        obtain ⟨p2a, p2b⟩ := p2
                        have w0 : IntKind.u8.wrap z0 = z0 := by simp [IntKind.wrap, IntKind.bits, IntKind.signed]; omega
                        have w1' : IntKind.u16.wrap z1 = z1 := by simp [IntKind.wrap, IntKind.bits, IntKind.signed]; omega
                        have w2' : IntKind.u16.wrap z2 = z2 := by simp [IntKind.wrap, IntKind.bits, IntKind.signed]; omega
                        have hsz := lt_of_cell e0
                        simp only at hsz
                        simp only [List.length_cons, List.length_nil] at hcp1
                        have q1 : ¬ (cap2 : Int) = 1 := by omega
                        have q2 : ¬ (cap2 : Int) = 2 := by omega
                        clear hgd HZn hcell hNR g0 u0 g1 u1 g2 u2
                        simp only [List.length_cons, List.length_nil]
                        have t0 : ((z0.toNat : Nat) : Int) = z0 := Int.toNat_of_nonneg p0a
                        have t1 : ((z1.toNat : Nat) : Int) = z1 := Int.toNat_of_nonneg p1a
                        have t2 : ((z2.toNat : Nat) : Int) = z2 := Int.toNat_of_nonneg p2a
                        have HT := Lib.hid (show OpD.val (refOp k false true true [z0, z1, z2]) = .agg #[.int .u8 k, .int .u8 z0, .int .u8 0, .int .u16 z1, .int .u16 z2] by simp [refOp, OpD.val, b2i, t0, t1, t2])
                        clear t0 t1 t2
                        go_wp2_with ((with_reducible refine wpList_here (.store 24 (.tmp 2) (.tmp 155)) rfl ?_); refine wpList_store_old 24 (.tmp 2) (.tmp 155) rfl w.heap.size _ _ rfl rfl (hBo.alloc _) Tryz.infoOp rfl (by simp [Value.oneCell']) rfl rfl ?_; intro w5 hR)
                        all_goals exact bodyPost_ret (v := .tuple #[.agg #[.int .u8 k, .int .u8 z0, .int .u8 0, .int .u16 z1, .int .u16 z2], .int .i64 0]) (results_op_err rfl _ _ _ rfl rfl hR.box rfl) rfl ⟨by rw [HT.out]; rfl, hR.fr (hfr3.alloc _) (Nat.le_refl _)⟩
                      · obtain ⟨z0, z1, rfl⟩ : ∃ z0 z1, ns = [z0, z1] := by
                          match ns, hNR with
                          | [z0, z1], _ => exact ⟨z0, z1, rfl⟩
                        have g0 := hgd 0 (by simp)
                        have u0 := HZn z0 (by simp)
                        have e0 := hcell 0 z0 rfl
                        have g1 := hgd 1 (by simp)
                        have u1 := HZn z1 (by simp)
                        have e1 := hcell 1 z1 rfl
                        simp only [List.getD_eq_getElem?_getD, List.getElem?_cons_zero, List.getElem?_cons_succ, Option.getD_some, Nat.add_zero] at g0 g1 e0
                        have p0 : 0 ≤ z0 ∧ z0 ≤ 7 := ⟨g0.1, g0.2.1 (by simp)⟩
                        have p1 : 0 ≤ z1 ∧ z1 < 65536 := ⟨g1.1, u1.2⟩
                        obtain ⟨p0a, p0b⟩ := p0
                        obtain ⟨p1a, p1b⟩ := p1
                        have w0 : IntKind.u8.wrap z0 = z0 := by simp [IntKind.wrap, IntKind.bits, IntKind.signed]; omega
                        have w1' : IntKind.u16.wrap z1 = z1 := by simp [IntKind.wrap, IntKind.bits, IntKind.signed]; omega
                        have hsz := lt_of_cell e0
                        simp only at hsz
                        simp only [List.length_cons, List.length_nil] at hcp1
                        have q1 : ¬ (cap2 : Int) = 1 := by omega
                        clear hgd HZn hcell hNR g0 u0 g1 u1
                        simp only [List.length_cons, List.length_nil]
                        have t0 : ((z0.toNat : Nat) : Int) = z0 := Int.toNat_of_nonneg p0a
                        have t1 : ((z1.toNat : Nat) : Int) = z1 := Int.toNat_of_nonneg p1a
                        have HT := Lib.hid (show OpD.val (refOp k false true false [z0, z1]) = .agg #[.int .u8 k, .int .u8 z0, .int .u8 0, .int .u16 z1, .int .u16 0] by simp [refOp, OpD.val, b2i, t0, t1])
                        clear t0 t1
                        go_wp2_with ((with_reducible refine wpList_here (.store 24 (.tmp 2) (.tmp 155)) rfl ?_); refine wpList_store_old 24 (.tmp 2) (.tmp 155) rfl w.heap.size _ _ rfl rfl (hBo.alloc _) Tryz.infoOp rfl (by simp [Value.oneCell']) rfl rfl ?_; intro w5 hR)
                        all_goals exact bodyPost_ret (v := .tuple #[.agg #[.int .u8 k, .int .u8 z0, .int .u8 0, .int .u16 z1, .int .u16 0], .int .i64 0]) (results_op_err rfl _ _ _ rfl rfl hR.box rfl) rfl ⟨by rw [HT.out]; rfl, hR.fr (hfr3.alloc _) (Nat.le_refl _)⟩
                      · obtain ⟨z0, z1, rfl⟩ : ∃ z0 z1, ns = [z0, z1] := by
                          match ns, hNR with
                          | [z0, z1], _ => exact ⟨z0, z1, rfl⟩
                        have g0 := hgd 0 (by simp)
                        have u0 := HZn z0 (by simp)
                        have e0 := hcell 0 z0 rfl
                        have g1 := hgd 1 (by simp)
                        have u1 := HZn z1 (by simp)
                        have e1 := hcell 1 z1 rfl
                        simp only [List.getD_eq_getElem?_getD, List.getElem?_cons_zero, List.getElem?_cons_succ, Option.getD_some, Nat.add_zero] at g0 g1 e0
                        have p0 : 0 ≤ z0 ∧ z0 ≤ 7 := ⟨g0.1, g0.2.1 (by simp)⟩
                        have p1 : 0 ≤ z1 ∧ z1 < 65536 := ⟨g1.1, u1.2⟩
                        obtain ⟨p0a, p0b⟩ := p0
                        obtain ⟨p1a, p1b⟩ := p1
                        have w0 : IntKind.u8.wrap z0 = z0 := by simp [IntKind.wrap, IntKind.bits, IntKind.signed]; omega
                        have w1' : IntKind.u16.wrap z1 = z1 := by simp [IntKind.wrap, IntKind.bits, IntKind.signed]; omega
                        have hsz := lt_of_cell e0
                        simp only at hsz
                        simp only [List.length_cons, List.length_nil] at hcp1
                        have q1 : ¬ (cap2 : Int) = 1 := by omega
                        clear hgd HZn hcell hNR g0 u0 g1 u1
                        simp only [List.length_cons, List.length_nil]
                        have t0 : ((z0.toNat : Nat) : Int) = z0 := Int.toNat_of_nonneg p0a
                        have t1 : ((z1.toNat : Nat) : Int) = z1 := Int.toNat_of_nonneg p1a
                        have HT := Lib.hid (show OpD.val (refOp k false false true [z0, z1]) = .agg #[.int .u8 k, .int .u8 z0, .int .u8 0, .int .u16 0, .int .u16 z1] by simp [refOp, OpD.val, b2i, t0, t1])
                        clear t0 t1
                        go_wp2_with ((with_reducible refine wpList_here (.store 24 (.tmp 2) (.tmp 155)) rfl ?_); refine wpList_store_old 24 (.tmp 2) (.tmp 155) rfl w.heap.size _ _ rfl rfl (hBo.alloc _) Tryz.infoOp rfl (by simp [Value.oneCell']) rfl rfl ?_; intro w5 hR)
                        all_goals exact bodyPost_ret (v := .tuple #[.agg #[.int .u8 k, .int .u8 z0, .int .u8 0, .int .u16 0, .int .u16 z1], .int .i64 0]) (results_op_err rfl _ _ _ rfl rfl hR.box rfl) rfl ⟨by rw [HT.out]; rfl, hR.fr (hfr3.alloc _) (Nat.le_refl _)⟩
                      · obtain ⟨z0, rfl⟩ : ∃ z0, ns = [z0] := by
                          match ns, hNR with
                          | [z0], _ => exact ⟨z0, rfl⟩
                        have g0 := hgd 0 (by simp)
                        have u0 := HZn z0 (by simp)
                        have e0 := hcell 0 z0 rfl
                        simp only [List.getD_eq_getElem?_getD, List.getElem?_cons_zero, List.getElem?_cons_succ, Option.getD_some, Nat.add_zero] at g0 e0
                        have p0 : 0 ≤ z0 ∧ z0 ≤ 7 := ⟨g0.1, g0.2.1 (by simp)⟩
                        obtain ⟨p0a, p0b⟩ := p0
                        have w0 : IntKind.u8.wrap z0 = z0 := by simp [IntKind.wrap, IntKind.bits, IntKind.signed]; omega
                        have hsz := lt_of_cell e0
                        simp only at hsz
                        simp only [List.length_cons, List.length_nil] at hcp1
                        clear hgd HZn hcell hNR g0 u0
                        simp only [List.length_cons, List.length_nil]
                        have t0 : ((z0.toNat : Nat) : Int) = z0 := Int.toNat_of_nonneg p0a
                        have HT := Lib.hid (show OpD.val (refOp k false false false [z0]) = .agg #[.int .u8 k, .int .u8 z0, .int .u8 0, .int .u16 0, .int .u16 0] by simp [refOp, OpD.val, b2i, t0])
                        clear t0
                        go_wp2_with ((with_reducible refine wpList_here (.store 24 (.tmp 2) (.tmp 155)) rfl ?_); refine wpList_store_old 24 (.tmp 2) (.tmp 155) rfl w.heap.size _ _ rfl rfl (hBo.alloc _) Tryz.infoOp rfl (by simp [Value.oneCell']) rfl rfl ?_; intro w5 hR)
                        all_goals exact bodyPost_ret (v := .tuple #[.agg #[.int .u8 k, .int .u8 z0, .int .u8 0, .int .u16 0, .int .u16 0], .int .i64 0]) (results_op_err rfl _ _ _ rfl rfl hR.box rfl) rfl ⟨by rw [HT.out]; rfl, hR.fr (hfr3.alloc _) (Nat.le_refl _)⟩
                · have hRR : R = (.zero, 4) := by have := hno2.out; rwa [if_neg (fun h => hq2 h.1)] at this
                  have hBo : BoxAt wr w.heap.size #[.int .u8 0, .int .u8 0, .int .u8 0, .int .u16 0, .int .u16 0] 24 := (Below.block hBt _ (by omega)).trans (hBr.alloc _)
                  have hne : (((ns.length : Nat) : Int) != (N : Int)) = true := by simp; omega
                  clear hno2 hq2 hN k2 k3 k4
                  subst hRR
                  have hfr3 := frB hf1 hBt
                  go_wp2_with ((with_reducible refine wpList_here (.store 24 (.tmp 2) (.tmp 83)) rfl ?_); refine wpList_store_old 24 (.tmp 2) (.tmp 83) rfl w.heap.size _ _ rfl rfl hBo Tryz.infoOp rfl (by simp [Value.oneCell']) rfl rfl ?_; intro w3 hR)
                  exact bodyPost_ret (v := .tuple #[zeroOp, .int .i64 4]) (results_op_err rfl _ _ _ rfl rfl hR.box rfl) rfl ⟨rfl, hR.fr hfr3 (Nat.le_refl _)⟩
      · have HNN := Lib.hid (show ∀ f : Nat, 1 ≤ f → f < k + 1 → n ≠ kName f by
          intro f h1 h2
          by_cases e : f = k
          · subst e; exact hnm
          · exact hno.out f h1 (by omega))
        have hnm2 : ∃ nm, nm = kName (k : Int) := ⟨_, rfl⟩
        obtain ⟨nm, hnm2⟩ := hnm2
        rw [← hnm2] at hnm ⊢
        have hq : (n == nm) = false := by simpa using hnm
        clear hnm hnm2 hno
        generalize kModel (k : Int) = md
        generalize hasK (k : Int) = bk
        generalize hasA (k : Int) = ba
        generalize hasB (k : Int) = bb
        have hf1 := (hfr.trans hb1).alloc (.cells #[.int .i64 md, .string ⟨nm.toArray⟩, .bool bk, .bool ba, .bool bb] 125)
        have hB1 := (hB.fr hb1).alloc (.cells #[.int .i64 md, .string ⟨nm.toArray⟩, .bool bk, .bool ba, .bool bb] 125)
        have hz1 := hB1.lt
        have hcc1 := hf1.keep hc1
        have k1 : (w1.alloc (.cells #[.int .i64 md, .string ⟨nm.toArray⟩, .bool bk, .bool ba, .bool bb] 125)).cell? ⟨w1.heap.size, 1, none⟩ = some (.string ⟨nm.toArray⟩) := by simp
        go_wp2
        go_quiet (fail)
        go_wp2
        go_roundw
        case rel => exact ⟨k + 1, by omega, by omega, by go_num, hf1.drewN _, hB1.drewN _, HNN⟩
        case measure => simp [intOf]; omega
    · obtain rfl : k = 12 := by omega
      have hRR : R = (.zero, 4) := HNO.out fun f h1 h2 => hno.out f h1 (by omega)
      clear HNO HREF hno
      subst hRR
      go_wp2_with ((with_reducible refine wpList_here (.store 24 (.tmp 2) (.tmp 156)) rfl ?_); refine wpList_store_old 24 (.tmp 2) (.tmp 156) rfl w.heap.size _ _ rfl rfl hB Tryz.infoOp rfl (by simp [Value.oneCell']) rfl rfl ?_; intro w3 hR)
      exact bodyPost_ret (v := .tuple #[zeroOp, .int .i64 4]) (results_op_err rfl _ _ _ rfl rfl hR.box rfl) rfl ⟨rfl, hR.fr hfr (Nat.le_refl _)⟩
end Go.Proofs.YtfklgaeejmeipaaGreatDoor
