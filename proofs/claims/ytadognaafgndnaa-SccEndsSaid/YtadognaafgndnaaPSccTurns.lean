/- Layer 28: scc.Turns: its walk. No condition but the graph's bound. -/
import Derived.Test.YtadognaafgndnaaPSccTop
import Derived.Test.YtadognaafgndnaaPRegP
set_option linter.all false
set_option linter.unusedVariables false
set_option linter.unusedSimpArgs false
set_option linter.unnecessarySimpa false
/- Layer 28: scc.Turns: its walk. No condition but the graph's bound. -/
namespace Go.Proofs.Ytadognaafgndnaa
open Go.RowKit Go.Shelf
attribute [local go_sem] Oper.semAt_some

/-- Bools in memory. -/
def RdB (w : World) (v : Value) (l : List Bool) : Prop := ∃ a cap, v = .slice a l.length cap ∧ l.length ≤ cap ∧ ∀ i (hi : i < l.length), ∃ g o, a = some ⟨g, o, none⟩ ∧ w.cell? ⟨g, o + i, none⟩ = some (.bool l[i])
theorem RdB.own {w : World} {base : Nat} {v : Value} {l : List Bool} (h : w.ownsRow base 4 1 v l.length (l.map Value.bool)) : RdB w v l := by
  obtain ⟨a, c, h1, h2, h3, h4⟩ := row_form h
  refine ⟨a, c, h1, h2, fun i hi => ?_⟩
  obtain ⟨g, u, h5, h6, h7⟩ := h4 i hi
  refine ⟨g, 0, h5, ?_⟩
  rw [List.getElem?_map, List.getElem?_eq_getElem hi] at h6
  rw [Nat.zero_add, h7, ← h6]; rfl
theorem RdB.fr {w w' : World} {v : Value} {l : List Bool} (h : RdB w v l) (f : Fr w w') : RdB w' v l := by
  obtain ⟨a, c, h1, h2, h3⟩ := h
  exact ⟨a, c, h1, h2, fun i hi => by
    obtain ⟨g, o, h5, h6⟩ := h3 i hi
    exact ⟨g, o, h5, f.keep h6⟩⟩
theorem Try.infoBo : (Try.prog.info? 4).map (fun i => (i.zero, i.size, i.bytes)) = some (some (.bool false), 1, 1) := by kernel_rfl
set_option maxHeartbeats 1000000 in
/-- One bool more. -/
theorem wpList_appendB {base : Nat} {w : World} {ops : Array Oper} {rest : List Oper} {o : Oper} {a : Act} {Q : Exit → Act → World → Prop} (hgd : o.guard = none) (s x : Operand)
    (ho : o.op = .call { callee := .builtin .append, args := #[s, x], argTypes := #[34, 34] }) (v : Value) (L : List Bool) (hs : a.eval s = v) (hown : w.ownsRow base 4 1 v L.length (L.map Value.bool)) (f : base ≤ w.heap.size)
    (b c : Nat) (p : Bool) (hx : a.eval x = .slice (some ⟨b, 0, none⟩) 1 c) (hy : w.cell? ⟨b, 0, none⟩ = some (.bool p)) (hn : L.length ≤ 5864062014640)
    (h : ∀ va vn vc w', w'.ownsRow base 4 1 (.slice va vn vc) (L ++ [p]).length ((L ++ [p]).map Value.bool) → Chg (fun b => v.ownBlock = some b) w w' → (∀ g, (Value.slice va vn vc).ownBlock = some g → v.ownBlock = some g ∨ g = w.heap.size) → wpList Try.prog ops Q rest (a.put o.dst (.slice va vn vc)) w') : wpList Try.prog ops Q (o :: rest) a w := by
  obtain ⟨i0, hi0, hz0, hz1, hz2⟩ := info_parts Try.infoBo
  refine wpList_append_lies _ hgd s x 34 ho base 4 i0 _ 1 1 Try.underlying34 hi0 hz0 hz1 hz2 rfl (by omega) v L.length (L.map Value.bool) hs hown ⟨b, 0, none⟩ 1 c [.bool p] hx rfl (fun j u hj => ?_) (fun u hu => by rw [List.mem_singleton] at hu; subst hu; rfl) (by omega) (by unfold maxLen; omega) (by omega) f w.heap.size rfl ?_
  · rw [WideShapes.add_plain, Nat.zero_add]
    cases j with
    | zero => simp at hj; subst hj; exact hy
    | succ j => simp at hj
  · intro g cap w' hown' hgrow hat hlt
    refine h _ _ _ w' ?_ ?_ (fun g' he => by simp [Value.ownBlock] at he; subst he; exact hat)
    · rw [List.map_append]
      simpa using hown'
    · exact ⟨hgrow.os, hgrow.tape, hgrow.output, hgrow.size, fun k hk hne => hgrow.block k hk (fun e => hne e.symm)⟩
theorem contains_c {w : World} {v : Value} {l : List Nat} (x : Nat) (h : RdI w v l) (hb : l.length ≤ 9223372036854775807) :
    Calls Try.prog 31 #[v, .int .i64 (x : Nat)] w fun e w' => e = .returned (.bool (l.contains x)) ∧ w' = w := by
  obtain ⟨a, c, rfl, hlc, hx⟩ := h
  by_cases h0 : l.length = 0
  · obtain rfl : l = [] := List.eq_nil_of_length_eq_zero h0
    refine (Try.slices_Contains_int_empty a c (x : Int) w).mono ?_
    rintro e w' ⟨rfl, rfl⟩
    exact ⟨rfl, rfl⟩
  · obtain ⟨g, o, rfl, _⟩ := hx 0 (by omega)
    have h4 := Try.slices_Contains_int g o l.length c (intZ l) (x : Int) w (by simp [intZ]) (by omega) (fun j hj => by
      have hj' : j < l.length := by simpa [intZ] using hj
      obtain ⟨g', o', e, h5⟩ := hx j hj'
      cases e
      rw [h5]; simp [intZ, intV, hj'])
    refine h4.mono ?_
    rintro e w' ⟨rfl, rfl⟩
    refine ⟨?_, rfl⟩
    rw [List.take_of_length_le (by simp [intZ])]
    congr 2
    rw [Bool.eq_iff_iff, List.contains_iff_mem, List.contains_iff_mem]
    unfold intZ
    rw [List.mem_map]
    constructor
    · rintro ⟨n, h1, h2⟩
      have : n = x := by omega
      subst this; exact h1
    · exact fun h => ⟨x, h, rfl⟩
def turnPrA (wr : World) (VO VG VN nu : Value) (q p nq np gl nh : Nat) (bo : Bool) (j : Nat) (w : World) (v : Value) : Prop := match j with
  | 0 => v = VO
  | 1 => v = VG
  | 2 => v = (.int .i64 (gl : Nat))
  | 3 => v = (.bool true)
  | 4 => v = (.bool true)
  | 5 => v = undef
  | 6 => v = undef
  | 7 => v = undef
  | 8 => v = undef
  | 9 => v = undef
  | 10 => v = undef
  | 11 => v = undef
  | 12 => v = undef
  | 13 => v = undef
  | 14 => v = undef
  | 15 => v = (.bool true)
  | 16 => ∃ b, v = .slice (some ⟨b, 0, none⟩) 1 1 ∧ w.cell? ⟨b, 0, none⟩ = some (.bool true) ∧ wr.heap.size ≤ b
  | _ => True
theorem turnPrA_fr (wr : World) (VO VG VN nu : Value) (q p nq np gl nh : Nat) (bo : Bool) (j : Nat) (w w' : World) (v : Value) (f : Fr w w') (h : turnPrA wr VO VG VN nu q p nq np gl nh bo j w v) : turnPrA wr VO VG VN nu q p nq np gl nh bo j w' v := by
  exact match j, h with
  | 0, h => h
  | 1, h => h
  | 2, h => h
  | 3, h => h
  | 4, h => h
  | 5, h => h
  | 6, h => h
  | 7, h => h
  | 8, h => h
  | 9, h => h
  | 10, h => h
  | 11, h => h
  | 12, h => h
  | 13, h => h
  | 14, h => h
  | 15, h => h
  | 16, h => h.imp fun b h => ⟨h.1, f.keep h.2.1, h.2.2⟩
  | _ + 17, _ => trivial
def turnPrB (wr : World) (VO VG VN nu : Value) (q p nq np gl nh : Nat) (bo : Bool) (j : Nat) (w : World) (v : Value) : Prop := match j with
  | 0 => v = VO
  | 1 => v = VG
  | 2 => v = (.int .i64 (gl : Nat))
  | 3 => v = (.bool false)
  | 4 => v = (.bool false)
  | 5 => v = VN
  | 6 => v = VG
  | 7 => v = (.pointer (some ⟨q, p, none⟩))
  | 8 => v = (.int .i64 (nh : Nat))
  | 9 => v = (.pointer (some ⟨nq, np + nh, none⟩))
  | 10 => v = nu
  | 11 => v = VG
  | 12 => v = (.pointer (some ⟨q, p, none⟩))
  | 13 => v = (.int .i64 (nh : Nat))
  | 14 => v = (.bool bo)
  | 15 => v = (.bool bo)
  | 16 => ∃ b, v = .slice (some ⟨b, 0, none⟩) 1 1 ∧ w.cell? ⟨b, 0, none⟩ = some (.bool bo) ∧ wr.heap.size ≤ b
  | _ => True
theorem turnPrB_fr (wr : World) (VO VG VN nu : Value) (q p nq np gl nh : Nat) (bo : Bool) (j : Nat) (w w' : World) (v : Value) (f : Fr w w') (h : turnPrB wr VO VG VN nu q p nq np gl nh bo j w v) : turnPrB wr VO VG VN nu q p nq np gl nh bo j w' v := by
  exact match j, h with
  | 0, h => h
  | 1, h => h
  | 2, h => h
  | 3, h => h
  | 4, h => h
  | 5, h => h
  | 6, h => h
  | 7, h => h
  | 8, h => h
  | 9, h => h
  | 10, h => h
  | 11, h => h
  | 12, h => h
  | 13, h => h
  | 14, h => h
  | 15, h => h
  | 16, h => h.imp fun b h => ⟨h.1, f.keep h.2.1, h.2.2⟩
  | _ + 17, _ => trivial
set_option maxRecDepth 100000 in
set_option maxHeartbeats 4000000 in
theorem Turns_c {w : World} {v : Value} {G : List (List Int)} (hv : RdGZ w v G) (hb : G.length ≤ 5864062014634) (hm : mayZ G = true) :
    Calls Try.prog 17 #[v] w fun e w' => ∃ vo, e = .returned (.tuple #[vo, .int .i64 0]) ∧ RdB w' vo (turnsOf (natG G)) ∧ Fr w w' := by
  have HG := Lib.hid (Groups_c hv hb hm)
  have hG := natG_may hm
  have hnl := natG_length G
  have HP := parts_of (groupsOf_is hG)
  have HL := groups_len hG
  rw [hnl] at HL
  have HO : Hid (∀ i (hi : i < (sortG (groupsOf (natG G))).length), 0 < ((sortG (groupsOf (natG G)))[i]).length ∧ ((sortG (groupsOf (natG G)))[i]).length ≤ 5864062014634 ∧ headN (sortG (groupsOf (natG G)))[i] < (natG G).length ∧ (turnsOf (natG G)).take (i + 1) = (turnsOf (natG G)).take i ++ [turnsG (natG G) (sortG (groupsOf (natG G)))[i]]) := Lib.hid (fun i hi => by
    have hm := List.getElem_mem hi
    have hne := HP.some_ _ hm
    refine ⟨List.length_pos_iff.2 hne, by have := (HL.2 _ (sortG_mem.1 hm)).1; omega, HP.lt _ hm _ (headN_mem hne), ?_⟩
    have hl : i < (turnsOf (natG G)).length := by rw [turnsOf_length]; exact hi
    rw [List.take_succ_eq_append_getElem hl]
    rw [turnsOf_get hl hi])
  have HOL := Lib.hid (turnsOf_length (natG G))
  have hlb : (sortG (groupsOf (natG G))).length ≤ 5864062014634 := by rw [sortG_length]; omega
  have HN := Lib.hid (hv.nat hm)
  obtain ⟨va, vc, rfl⟩ := hv.form
  clear hm HL HP hG hv
  rw [← hnl] at hb HG HN ⊢
  clear hnl
  generalize turnsOf (natG G) = O at HO HOL ⊢
  generalize sortG (groupsOf (natG G)) = S at HG HO hlb HOL
  generalize natG G = N at hb HG HN HO ⊢
  go_enter Try.func17, Try.ntmps17
  go_wp2_with fail
  refine HG.out.mono ?_
  rintro e w1 ⟨ve, rfl, hrd, hf⟩
  have HF1 := Lib.hid hf
  have hN1 := HN.out.fr hf
  obtain ⟨la, lc, rfl, hlc, hlx⟩ := hrd
  obtain ⟨na, nc, hne, hnc, hnx⟩ := hN1
  cases hne
  have HLX := Lib.hid hlx
  have HNX := Lib.hid hnx
  clear hf HG HN hlx hnx
  have HS : Hid (Fr w1 w1 ∧ w1.ownsRow w1.heap.size 4 1 (.slice none 0 0) (O.take 0).length ((O.take 0).map Value.bool)) := Lib.hid ⟨Fr.refl _, by rw [List.take_zero]; exact World.ownsRow_nil _ _ _ _⟩
  go_wp2_with fail
  go_loopw [6, 16] (fun vo vi wr => ∃ i : Nat, i ≤ S.length ∧ vi = .int .i64 i ∧ Hid (Fr w1 wr ∧ wr.ownsRow w1.heap.size 4 1 vo (O.take i).length ((O.take i).map Value.bool))) (fun _ vi _ => S.length - (intOf vi).toNat)
  case atStart => exact ⟨0, Nat.zero_le _, rfl, HS⟩
  case round =>
    obtain ⟨i, hi, rfl, HR⟩ := hrel
    clear HS
    by_cases hit : i < S.length
    · obtain ⟨b, o, u, rfl, hc, ⟨ua, uc, rfl, huc, hu⟩, hul⟩ := HLX.out i hit
      obtain ⟨h0, hg1, hh, ht⟩ := HO.out i hit
      have hc := HR.out.1.keep hc
      have lb := lt_of_cell hc
      simp only at lb
      obtain ⟨q, p, rfl, hz⟩ := hu 0 h0
      have hhead : (S[i])[0] = headN S[i] := head_at h0
      rw [hhead, Nat.add_zero] at hz
      have hz := HR.out.1.keep hz
      have lq := lt_of_cell hz
      simp only at lq
      obtain ⟨nq, np, nu, rfl, hn2, hnr, hnl⟩ := HNX.out _ hh
      have hn2 := HR.out.1.keep hn2
      have ln := lt_of_cell hn2
      simp only at ln
      have hout : N[headN S[i]] = outs N (headN S[i]) := by unfold outs; rw [List.getD_eq_getElem?_getD, List.getElem?_eq_getElem hh]; rfl
      rw [hout] at hnr hnl
      have HCN := Lib.hid (fun W (f : Fr wr W) => contains_c (headN S[i]) ((hnr.fr HR.out.1).fr f) hnl)
      have HT := Lib.hid ht
      unfold turnsG at HT
      have hgl : ((S[i]).length : Int) = ((S[i]).length : Nat) := rfl
      clear hu ht hhead hout hnr hnl hgl
      generalize S[i] = g at hc hz hh h0 hg1 HT hul huc hn2 HCN
      generalize (outs N (headN g)).contains (headN g) = bo at HT HCN
      generalize headN g = nh at hz hh HT hn2 HCN
      generalize g.length = gl at hc h0 hg1 HT hul huc
      unfold intV at hz
      have HR2 := HR
      go_wp2_with fail
      have e1 := FrW.cell hz
      have e2 := FrW.cell hn2
      have lz1 : ∀ z : FrW wr, q < z.val.heap.size := fun z => Nat.lt_of_lt_of_le lq z.fr.size
      have lz2 : ∀ z : FrW wr, nq < z.val.heap.size := fun z => Nat.lt_of_lt_of_le ln z.fr.size
      have hlen : (O.take i).length ≤ 5864062014640 := by rw [List.length_take]; omega
      have hti : (O.take i).length = i := by rw [List.length_take, HOL.out]; omega
      clear HR2
      obtain ⟨oa, oc, hoe⟩ := vals_form HR.out.2
      rw [hti] at hoe
      subst hoe
      clear e1 e2 lz1 lz2
      by_cases h1 : 1 < gl
      · have HT : Hid (O.take (i + 1) = O.take i ++ [true]) := Lib.hid (by rw [HT.out]; simp [h1])
        have g1 : (1 : Int) < (gl : Int) := by omega
        have g2 : decide ((1 : Int) < (gl : Int)) = true := by simp; omega
        refine wp_region_preds_tail (m := 17) (g := 2) (d := fun j => 20 + j) (Pr := turnPrA wr (.slice oa i oc) (.slice (some ⟨q, p, none⟩) gl uc) (.slice (some ⟨nq, np, none⟩) N.length vc) nu q p nq np gl nh bo) (by kernel_rfl) rfl (by omega) (by kernel_rfl) (by kernel_rfl) (by kernel_rfl) (by kernel_rfl) (fun i j hi hj hne h => by have h : 20 + i = 20 + j := h; omega) (fun j hj => by show 20 + j < _; simp; omega) (fun j hj w w' v f h => turnPrA_fr _ _ _ _ _ _ _ _ _ _ _ _ j w w' v f h) ?hop ?hend
        case hop =>
          intro j hj K a w' hf hw ho hK
          rcases (show j = 0 ∨ j = 1 ∨ j = 2 ∨ j = 3 ∨ j = 4 ∨ j = 5 ∨ j = 6 ∨ j = 7 ∨ j = 8 ∨ j = 9 ∨ j = 10 ∨ j = 11 ∨ j = 12 ∨ j = 13 ∨ j = 14 ∨ j = 15 ∨ j = 16 by omega) with rfl | rfl | rfl | rfl | rfl | rfl | rfl | rfl | rfl | rfl | rfl | rfl | rfl | rfl | rfl | rfl | rfl
          · -- 0
            have e6 : a.tmps[6]? = some (.slice oa i oc) := (ho 6 (fun j hj => by show 6 ≠ 20 + j; omega)).trans rfl
            exact wpOp_runT rfl (wanted_plain rfl _) (.slice oa i oc) w' (by unfold execOp; simp [go_sem, e6]) (hK _ w' (Fr.refl _) rfl)
          · -- 1
            have e8 : a.tmps[8]? = some (.slice (some ⟨q, p, none⟩) gl uc) := (ho 8 (fun j hj => by show 8 ≠ 20 + j; omega)).trans rfl
            exact wpOp_runT rfl (wanted_plain rfl _) (.slice (some ⟨q, p, none⟩) gl uc) w' (by unfold execOp; simp [go_sem, e8]) (hK _ w' (Fr.refl _) rfl)
          · -- 2
            obtain ⟨v21, (e21 : a.tmps[21]? = _), (q21 : v21 = (.slice (some ⟨q, p, none⟩) gl uc))⟩ := hw 1 (by omega) (by kernel_rfl); rw [q21] at e21; clear q21
            exact wpOp_runT rfl (wanted_plain rfl _) (.int .i64 (gl : Nat)) w' (by unfold execOp; simp [go_sem, e21]) (hK _ w' (Fr.refl _) rfl)
          · -- 3
            obtain ⟨v22, (e22 : a.tmps[22]? = _), (q22 : v22 = (.int .i64 (gl : Nat)))⟩ := hw 2 (by omega) (by kernel_rfl); rw [q22] at e22; clear q22
            have c0 := g1
            exact wpOp_runT rfl (wanted_plain rfl _) (.bool true) w' (by unfold execOp; simp [go_sem, e22, c0]) (hK _ w' (Fr.refl _) rfl)
          · -- 4
            obtain ⟨v23, (e23 : a.tmps[23]? = _), (q23 : v23 = (.bool true))⟩ := hw 3 (by omega) (by kernel_rfl); rw [q23] at e23; clear q23
            exact wpOp_runT rfl (wanted_plain rfl _) (.bool true) w' (by unfold execOp; simp [go_sem, e23]) (hK _ w' (Fr.refl _) rfl)
          · -- 5
            obtain ⟨v24, (e24 : a.tmps[24]? = _), (q24 : v24 = (.bool true))⟩ := hw 4 (by omega) (by kernel_rfl); rw [q24] at e24; clear q24
            exact wpOp_skipT rfl (by simp [Region.wanted, yielded, e24]) (hK _ w' (Fr.refl _) rfl)
          · -- 6
            obtain ⟨v24, (e24 : a.tmps[24]? = _), (q24 : v24 = (.bool true))⟩ := hw 4 (by omega) (by kernel_rfl); rw [q24] at e24; clear q24
            exact wpOp_skipT rfl (by simp [Region.wanted, yielded, e24]) (hK _ w' (Fr.refl _) rfl)
          · -- 7
            obtain ⟨v24, (e24 : a.tmps[24]? = _), (q24 : v24 = (.bool true))⟩ := hw 4 (by omega) (by kernel_rfl); rw [q24] at e24; clear q24
            exact wpOp_skipT rfl (by simp [Region.wanted, yielded, e24]) (hK _ w' (Fr.refl _) rfl)
          · -- 8
            obtain ⟨v24, (e24 : a.tmps[24]? = _), (q24 : v24 = (.bool true))⟩ := hw 4 (by omega) (by kernel_rfl); rw [q24] at e24; clear q24
            exact wpOp_skipT rfl (by simp [Region.wanted, yielded, e24]) (hK _ w' (Fr.refl _) rfl)
          · -- 9
            obtain ⟨v24, (e24 : a.tmps[24]? = _), (q24 : v24 = (.bool true))⟩ := hw 4 (by omega) (by kernel_rfl); rw [q24] at e24; clear q24
            exact wpOp_skipT rfl (by simp [Region.wanted, yielded, e24]) (hK _ w' (Fr.refl _) rfl)
          · -- 10
            obtain ⟨v24, (e24 : a.tmps[24]? = _), (q24 : v24 = (.bool true))⟩ := hw 4 (by omega) (by kernel_rfl); rw [q24] at e24; clear q24
            exact wpOp_skipT rfl (by simp [Region.wanted, yielded, e24]) (hK _ w' (Fr.refl _) rfl)
          · -- 11
            obtain ⟨v24, (e24 : a.tmps[24]? = _), (q24 : v24 = (.bool true))⟩ := hw 4 (by omega) (by kernel_rfl); rw [q24] at e24; clear q24
            exact wpOp_skipT rfl (by simp [Region.wanted, yielded, e24]) (hK _ w' (Fr.refl _) rfl)
          · -- 12
            obtain ⟨v24, (e24 : a.tmps[24]? = _), (q24 : v24 = (.bool true))⟩ := hw 4 (by omega) (by kernel_rfl); rw [q24] at e24; clear q24
            exact wpOp_skipT rfl (by simp [Region.wanted, yielded, e24]) (hK _ w' (Fr.refl _) rfl)
          · -- 13
            obtain ⟨v24, (e24 : a.tmps[24]? = _), (q24 : v24 = (.bool true))⟩ := hw 4 (by omega) (by kernel_rfl); rw [q24] at e24; clear q24
            exact wpOp_skipT rfl (by simp [Region.wanted, yielded, e24]) (hK _ w' (Fr.refl _) rfl)
          · -- 14
            obtain ⟨v24, (e24 : a.tmps[24]? = _), (q24 : v24 = (.bool true))⟩ := hw 4 (by omega) (by kernel_rfl); rw [q24] at e24; clear q24
            exact wpOp_skipT rfl (by simp [Region.wanted, yielded, e24]) (hK _ w' (Fr.refl _) rfl)
          · -- 15
            obtain ⟨v24, (e24 : a.tmps[24]? = _), (q24 : v24 = (.bool true))⟩ := hw 4 (by omega) (by kernel_rfl); rw [q24] at e24; clear q24
            obtain ⟨v34, (e34 : a.tmps[34]? = _), (q34 : v34 = undef)⟩ := hw 14 (by omega) (by kernel_rfl); rw [q34] at e34; clear q34
            exact wpOp_runT rfl (wanted_plain rfl _) (.bool true) w' (by unfold execOp; simp [go_sem, e24, e34]) (hK _ w' (Fr.refl _) rfl)
          · -- 16
            obtain ⟨v35, (e35 : a.tmps[35]? = _), (q35 : v35 = (.bool true))⟩ := hw 15 (by omega) (by kernel_rfl); rw [q35] at e35; clear q35
            exact wpOp_runT rfl (wanted_plain rfl _) (.slice (some ⟨w'.heap.size, 0, none⟩) 1 1) (w'.alloc (.cells #[.bool true] 4)) (run_bs 34 4 1 _ rfl [.bool true] (by simp [evalOf e35]) 1 (by omega) (fun v hv => by rw [List.mem_singleton] at hv; subst hv; rfl) Try.underlying34 (by kernel_rfl) rfl (by omega) (by omega)) (hK _ _ ((Fr.refl _).alloc _) ⟨_, rfl, (BoxAt.new' w' #[.bool true] 4 _ rfl).at 0 rfl, hf.size⟩)
        case hend =>
          intro f w5 hf5 hP
          have p20 : f 0 = .slice oa i oc := hP 0 (by omega)
          obtain ⟨b9, p36, hy, hb9⟩ := hP 16 (by omega)
          have HR5 := Lib.hid (HR.out.1.trans hf5)
          have hown := ownsRow_kept2 HR.out.2 fun g hg => hf5.block (World.ownsRow.lt HR.out.2 g hg).2
          have hsz := HR5.out.size
          clear hP HR hf5 hc hz hn2 lb lq ln hti hb9
          simp only [laidS, List.setIfInBounds_toArray, List.set_cons_succ, List.set_cons_zero, p20, p36]
          clear p20 p36
          refine wpList_appendB (base := w1.heap.size) rfl (.tmp 20) (.tmp 36) rfl _ (O.take i) rfl hown hsz b9 1 _ rfl hy hlen ?_
          intro va vn vc6 w6 hO6 hch6 hat6
          have HN : Hid (Fr w1 w6 ∧ w6.ownsRow w1.heap.size 4 1 (.slice va vn vc6) (O.take (i + 1)).length ((O.take (i + 1)).map Value.bool)) := Lib.hid ⟨hch6.fr HR5.out fun b hb => (World.ownsRow.lt hown b hb).1, by rw [HT.out]; simpa using hO6⟩
          clear hO6 hch6 hat6 hown hy hsz HR5 HT
          go_wp2_with fail
          go_roundw
          case rel => exact ⟨i + 1, by omega, by go_num, HN⟩
          case measure => first | (simp [intOf]; done) | (simp [intOf]; omega)
      · have HT : Hid (O.take (i + 1) = O.take i ++ [bo]) := Lib.hid (by rw [HT.out]; simp [h1])
        have g1 : ¬ (1 : Int) < (gl : Int) := by omega
        have g2 : decide ((1 : Int) < (gl : Int)) = false := by simp; omega
        refine wp_region_preds_tail (m := 17) (g := 2) (d := fun j => 20 + j) (Pr := turnPrB wr (.slice oa i oc) (.slice (some ⟨q, p, none⟩) gl uc) (.slice (some ⟨nq, np, none⟩) N.length vc) nu q p nq np gl nh bo) (by kernel_rfl) rfl (by omega) (by kernel_rfl) (by kernel_rfl) (by kernel_rfl) (by kernel_rfl) (fun i j hi hj hne h => by have h : 20 + i = 20 + j := h; omega) (fun j hj => by show 20 + j < _; simp; omega) (fun j hj w w' v f h => turnPrB_fr _ _ _ _ _ _ _ _ _ _ _ _ j w w' v f h) ?hop ?hend
        case hop =>
          intro j hj K a w' hf hw ho hK
          rcases (show j = 0 ∨ j = 1 ∨ j = 2 ∨ j = 3 ∨ j = 4 ∨ j = 5 ∨ j = 6 ∨ j = 7 ∨ j = 8 ∨ j = 9 ∨ j = 10 ∨ j = 11 ∨ j = 12 ∨ j = 13 ∨ j = 14 ∨ j = 15 ∨ j = 16 by omega) with rfl | rfl | rfl | rfl | rfl | rfl | rfl | rfl | rfl | rfl | rfl | rfl | rfl | rfl | rfl | rfl | rfl
          · -- 0
            have e6 : a.tmps[6]? = some (.slice oa i oc) := (ho 6 (fun j hj => by show 6 ≠ 20 + j; omega)).trans rfl
            exact wpOp_runT rfl (wanted_plain rfl _) (.slice oa i oc) w' (by unfold execOp; simp [go_sem, e6]) (hK _ w' (Fr.refl _) rfl)
          · -- 1
            have e8 : a.tmps[8]? = some (.slice (some ⟨q, p, none⟩) gl uc) := (ho 8 (fun j hj => by show 8 ≠ 20 + j; omega)).trans rfl
            exact wpOp_runT rfl (wanted_plain rfl _) (.slice (some ⟨q, p, none⟩) gl uc) w' (by unfold execOp; simp [go_sem, e8]) (hK _ w' (Fr.refl _) rfl)
          · -- 2
            obtain ⟨v21, (e21 : a.tmps[21]? = _), (q21 : v21 = (.slice (some ⟨q, p, none⟩) gl uc))⟩ := hw 1 (by omega) (by kernel_rfl); rw [q21] at e21; clear q21
            exact wpOp_runT rfl (wanted_plain rfl _) (.int .i64 (gl : Nat)) w' (by unfold execOp; simp [go_sem, e21]) (hK _ w' (Fr.refl _) rfl)
          · -- 3
            obtain ⟨v22, (e22 : a.tmps[22]? = _), (q22 : v22 = (.int .i64 (gl : Nat)))⟩ := hw 2 (by omega) (by kernel_rfl); rw [q22] at e22; clear q22
            have c0 := g1
            exact wpOp_runT rfl (wanted_plain rfl _) (.bool false) w' (by unfold execOp; simp [go_sem, e22, c0]) (hK _ w' (Fr.refl _) rfl)
          · -- 4
            obtain ⟨v23, (e23 : a.tmps[23]? = _), (q23 : v23 = (.bool false))⟩ := hw 3 (by omega) (by kernel_rfl); rw [q23] at e23; clear q23
            exact wpOp_runT rfl (wanted_plain rfl _) (.bool false) w' (by unfold execOp; simp [go_sem, e23]) (hK _ w' (Fr.refl _) rfl)
          · -- 5
            obtain ⟨v24, (e24 : a.tmps[24]? = _), (q24 : v24 = (.bool false))⟩ := hw 4 (by omega) (by kernel_rfl); rw [q24] at e24; clear q24
            have e0 : a.tmps[0]? = some (.slice (some ⟨nq, np, none⟩) N.length vc) := (ho 0 (fun j hj => by show 0 ≠ 20 + j; omega)).trans rfl
            exact wpOp_runT rfl (wanted_someT rfl rfl rfl e24) (.slice (some ⟨nq, np, none⟩) N.length vc) w' (by unfold execOp; simp [go_sem, e0]) (hK _ w' (Fr.refl _) rfl)
          · -- 6
            obtain ⟨v24, (e24 : a.tmps[24]? = _), (q24 : v24 = (.bool false))⟩ := hw 4 (by omega) (by kernel_rfl); rw [q24] at e24; clear q24
            have e8 : a.tmps[8]? = some (.slice (some ⟨q, p, none⟩) gl uc) := (ho 8 (fun j hj => by show 8 ≠ 20 + j; omega)).trans rfl
            exact wpOp_runT rfl (wanted_someT rfl rfl rfl e24) (.slice (some ⟨q, p, none⟩) gl uc) w' (by unfold execOp; simp [go_sem, e8]) (hK _ w' (Fr.refl _) rfl)
          · -- 7
            obtain ⟨v24, (e24 : a.tmps[24]? = _), (q24 : v24 = (.bool false))⟩ := hw 4 (by omega) (by kernel_rfl); rw [q24] at e24; clear q24
            obtain ⟨v26, (e26 : a.tmps[26]? = _), (q26 : v26 = (.slice (some ⟨q, p, none⟩) gl uc))⟩ := hw 6 (by omega) (by kernel_rfl); rw [q26] at e26; clear q26
            have c0 := (show ¬ gl = 0 by omega)
            exact wpOp_runT rfl (wanted_someT rfl rfl rfl e24) (.pointer (some ⟨q, p, none⟩)) w' (by unfold execOp; simp [go_sem, e26, c0]) (hK _ w' (Fr.refl _) rfl)
          · -- 8
            obtain ⟨v24, (e24 : a.tmps[24]? = _), (q24 : v24 = (.bool false))⟩ := hw 4 (by omega) (by kernel_rfl); rw [q24] at e24; clear q24
            obtain ⟨v27, (e27 : a.tmps[27]? = _), (q27 : v27 = (.pointer (some ⟨q, p, none⟩)))⟩ := hw 7 (by omega) (by kernel_rfl); rw [q27] at e27; clear q27
            have c0 := hf.keep hz
            exact wpOp_runT rfl (wanted_someT rfl rfl rfl e24) (.int .i64 (nh : Nat)) w' (by unfold execOp; simp [go_sem, e27, c0]) (hK _ w' (Fr.refl _) rfl)
          · -- 9
            obtain ⟨v24, (e24 : a.tmps[24]? = _), (q24 : v24 = (.bool false))⟩ := hw 4 (by omega) (by kernel_rfl); rw [q24] at e24; clear q24
            obtain ⟨v25, (e25 : a.tmps[25]? = _), (q25 : v25 = (.slice (some ⟨nq, np, none⟩) N.length vc))⟩ := hw 5 (by omega) (by kernel_rfl); rw [q25] at e25; clear q25
            obtain ⟨v28, (e28 : a.tmps[28]? = _), (q28 : v28 = (.int .i64 (nh : Nat)))⟩ := hw 8 (by omega) (by kernel_rfl); rw [q28] at e28; clear q28
            have c0 := (show ¬ N.length ≤ nh by omega)
            exact wpOp_runT rfl (wanted_someT rfl rfl rfl e24) (.pointer (some ⟨nq, np + nh, none⟩)) w' (by unfold execOp; simp [go_sem, e25, e28, c0]) (hK _ w' (Fr.refl _) rfl)
          · -- 10
            obtain ⟨v24, (e24 : a.tmps[24]? = _), (q24 : v24 = (.bool false))⟩ := hw 4 (by omega) (by kernel_rfl); rw [q24] at e24; clear q24
            obtain ⟨v29, (e29 : a.tmps[29]? = _), (q29 : v29 = (.pointer (some ⟨nq, np + nh, none⟩)))⟩ := hw 9 (by omega) (by kernel_rfl); rw [q29] at e29; clear q29
            have c0 := hf.keep hn2
            exact wpOp_runT rfl (wanted_someT rfl rfl rfl e24) nu w' (by unfold execOp; simp [go_sem, e29, c0]) (hK _ w' (Fr.refl _) rfl)
          · -- 11
            obtain ⟨v24, (e24 : a.tmps[24]? = _), (q24 : v24 = (.bool false))⟩ := hw 4 (by omega) (by kernel_rfl); rw [q24] at e24; clear q24
            have e8 : a.tmps[8]? = some (.slice (some ⟨q, p, none⟩) gl uc) := (ho 8 (fun j hj => by show 8 ≠ 20 + j; omega)).trans rfl
            exact wpOp_runT rfl (wanted_someT rfl rfl rfl e24) (.slice (some ⟨q, p, none⟩) gl uc) w' (by unfold execOp; simp [go_sem, e8]) (hK _ w' (Fr.refl _) rfl)
          · -- 12
            obtain ⟨v24, (e24 : a.tmps[24]? = _), (q24 : v24 = (.bool false))⟩ := hw 4 (by omega) (by kernel_rfl); rw [q24] at e24; clear q24
            obtain ⟨v31, (e31 : a.tmps[31]? = _), (q31 : v31 = (.slice (some ⟨q, p, none⟩) gl uc))⟩ := hw 11 (by omega) (by kernel_rfl); rw [q31] at e31; clear q31
            have c0 := (show ¬ gl = 0 by omega)
            exact wpOp_runT rfl (wanted_someT rfl rfl rfl e24) (.pointer (some ⟨q, p, none⟩)) w' (by unfold execOp; simp [go_sem, e31, c0]) (hK _ w' (Fr.refl _) rfl)
          · -- 13
            obtain ⟨v24, (e24 : a.tmps[24]? = _), (q24 : v24 = (.bool false))⟩ := hw 4 (by omega) (by kernel_rfl); rw [q24] at e24; clear q24
            obtain ⟨v32, (e32 : a.tmps[32]? = _), (q32 : v32 = (.pointer (some ⟨q, p, none⟩)))⟩ := hw 12 (by omega) (by kernel_rfl); rw [q32] at e32; clear q32
            have c0 := hf.keep hz
            exact wpOp_runT rfl (wanted_someT rfl rfl rfl e24) (.int .i64 (nh : Nat)) w' (by unfold execOp; simp [go_sem, e32, c0]) (hK _ w' (Fr.refl _) rfl)
          · -- 14
            obtain ⟨v24, (e24 : a.tmps[24]? = _), (q24 : v24 = (.bool false))⟩ := hw 4 (by omega) (by kernel_rfl); rw [q24] at e24; clear q24
            obtain ⟨v30, (e30 : a.tmps[30]? = _), (q30 : v30 = nu)⟩ := hw 10 (by omega) (by kernel_rfl); rw [q30] at e30; clear q30
            obtain ⟨v33, (e33 : a.tmps[33]? = _), (q33 : v33 = (.int .i64 (nh : Nat)))⟩ := hw 13 (by omega) (by kernel_rfl); rw [q33] at e33; clear q33
            exact wpOp_enterT rfl (wanted_someT rfl rfl rfl e24) 31 #[nu, .int .i64 (nh : Nat)] (run_call Try.func31 (by kernel_rfl) rfl _ _ rfl _ (by simp [Act.eval, e30, e33])) ((HCN.out w' hf).mono fun e w2 ⟨he, hw2⟩ => ⟨_, he, hK _ w2 (by rw [hw2]; exact Fr.refl _) rfl⟩)
          · -- 15
            obtain ⟨v24, (e24 : a.tmps[24]? = _), (q24 : v24 = (.bool false))⟩ := hw 4 (by omega) (by kernel_rfl); rw [q24] at e24; clear q24
            obtain ⟨v34, (e34 : a.tmps[34]? = _), (q34 : v34 = (.bool bo))⟩ := hw 14 (by omega) (by kernel_rfl); rw [q34] at e34; clear q34
            exact wpOp_runT rfl (wanted_plain rfl _) (.bool bo) w' (by unfold execOp; simp [go_sem, e24, e34]) (hK _ w' (Fr.refl _) rfl)
          · -- 16
            obtain ⟨v35, (e35 : a.tmps[35]? = _), (q35 : v35 = (.bool bo))⟩ := hw 15 (by omega) (by kernel_rfl); rw [q35] at e35; clear q35
            exact wpOp_runT rfl (wanted_plain rfl _) (.slice (some ⟨w'.heap.size, 0, none⟩) 1 1) (w'.alloc (.cells #[.bool bo] 4)) (run_bs 34 4 1 _ rfl [.bool bo] (by simp [evalOf e35]) 1 (by omega) (fun v hv => by rw [List.mem_singleton] at hv; subst hv; rfl) Try.underlying34 (by kernel_rfl) rfl (by omega) (by omega)) (hK _ _ ((Fr.refl _).alloc _) ⟨_, rfl, (BoxAt.new' w' #[.bool bo] 4 _ rfl).at 0 rfl, hf.size⟩)
        case hend =>
          intro f w5 hf5 hP
          have p20 : f 0 = .slice oa i oc := hP 0 (by omega)
          obtain ⟨b9, p36, hy, hb9⟩ := hP 16 (by omega)
          have HR5 := Lib.hid (HR.out.1.trans hf5)
          have hown := ownsRow_kept2 HR.out.2 fun g hg => hf5.block (World.ownsRow.lt HR.out.2 g hg).2
          have hsz := HR5.out.size
          clear hP HR hf5 hc hz hn2 lb lq ln hti hb9
          simp only [laidS, List.setIfInBounds_toArray, List.set_cons_succ, List.set_cons_zero, p20, p36]
          clear p20 p36
          refine wpList_appendB (base := w1.heap.size) rfl (.tmp 20) (.tmp 36) rfl _ (O.take i) rfl hown hsz b9 1 _ rfl hy hlen ?_
          intro va vn vc6 w6 hO6 hch6 hat6
          have HN : Hid (Fr w1 w6 ∧ w6.ownsRow w1.heap.size 4 1 (.slice va vn vc6) (O.take (i + 1)).length ((O.take (i + 1)).map Value.bool)) := Lib.hid ⟨hch6.fr HR5.out fun b hb => (World.ownsRow.lt hown b hb).1, by rw [HT.out]; simpa using hO6⟩
          clear hO6 hch6 hat6 hown hy hsz HR5 HT
          go_wp2_with fail
          go_roundw
          case rel => exact ⟨i + 1, by omega, by go_num, HN⟩
          case measure => first | (simp [intOf]; done) | (simp [intOf]; omega)
    · obtain rfl : i = S.length := by omega
      have hO := HR.out.2
      rw [← HOL.out, List.take_length] at hO
      have HR2 := Lib.hid (And.intro (RdB.own hO) (HF1.out.trans HR.out.1))
      clear hO HR
      go_wp2_with fail
      go_ret2
      exact ⟨_, rfl, HR2.out⟩
set_option maxRecDepth 100000 in
theorem TurnsNo_c {w : World} {v : Value} {G : List (List Int)} (hv : RdGZ w v G) (hm : mayZ G = false) :
    Calls Try.prog 17 #[v] w fun e w' => e = .returned (.tuple #[.slice none 0 0, .int .i64 2]) ∧ Fr w w' := by
  have HG := Lib.hid (GroupsNo_c hv hm)
  obtain ⟨va, vc, rfl⟩ := hv.form
  clear hv hm
  go_enter Try.func17, Try.ntmps17
  go_wp2_with fail
  refine HG.out.mono ?_
  rintro e w1 ⟨rfl, hf⟩
  have HF := Lib.hid hf
  clear hf HG
  go_wp2_with fail
  go_loopw [6, 16] (fun vo vi wr => vo = .slice none 0 0 ∧ vi = .int .i64 0 ∧ Hid (wr = w1)) (fun _ vi _ => 0)
  case atStart => exact ⟨rfl, rfl, rfl⟩
  case round =>
    obtain ⟨rfl, rfl, HE⟩ := hrel
    obtain rfl := HE.out
    go_wp2_with fail
    go_ret2
    exact ⟨rfl, HF.out⟩
end Go.Proofs.Ytadognaafgndnaa
