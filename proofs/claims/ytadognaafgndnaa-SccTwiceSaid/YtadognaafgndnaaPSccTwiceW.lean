/- umpirelaw28.SccTwice: the law's walk. No condition but that the graph can be read. -/
import Derived.Test.YtadognaafgndnaaPSccLawH
set_option linter.all false
set_option linter.unusedVariables false
set_option linter.unusedSimpArgs false
set_option linter.unnecessarySimpa false
/- umpirelaw28.SccTwice: the law's walk. No condition but that the graph can be read. -/
namespace Go.Proofs.Ytadognaafgndnaa
open Go.RowKit
attribute [local go_sem] Oper.semAt_some

def twiceG (G : List (List Int)) : List (List Int) := G.map twiceL
theorem twice_may (G : List (List Int)) : mayZ (twiceG G) = mayZ G := by
  have h : ∀ l : List Int, (twiceL l).any (badZ G.length) = l.any (badZ G.length) := fun l => by
    rw [Bool.eq_iff_iff, List.any_eq_true, List.any_eq_true]
    constructor
    · rintro ⟨x, hx, h⟩; exact ⟨x, twiceL_mem.1 hx, h⟩
    · rintro ⟨x, hx, h⟩; exact ⟨x, twiceL_mem.2 hx, h⟩
  unfold mayZ twiceG
  rw [List.all_map, List.length_map]
  congr 1
  funext l
  exact congrArg not (h l)
theorem twice_nat (G : List (List Int)) : natG (twiceG G) = (natG G).map twiceL := by
  unfold natG twiceG twiceL
  simp only [List.map_map]
  refine List.map_congr_left fun a _ => ?_
  simp only [Function.comp_def, List.map_flatMap, List.map_cons, List.map_nil]
  rw [← List.map_reverse, List.flatMap_map]
theorem twice_comps (G : List (List Int)) : compsZ (twiceG G) = compsZ G := by
  unfold compsZ
  rw [twice_may]
  cases h : mayZ G
  · rfl
  · rw [if_pos rfl, if_pos rfl, twice_nat, comps_twice (natG_may h)]
theorem twice_err (G : List (List Int)) : errZ (twiceG G) = errZ G := by unfold errZ; rw [twice_may]
/-- What was laid, m edges still ahead. -/
def laidZ (l : List Int) (m : Nat) : List Int := ((l.drop m).reverse).flatMap fun x => [x, x]
theorem laidZ_zero (l : List Int) : laidZ l 0 = twiceL l := rfl
theorem laidZ_all (l : List Int) : laidZ l l.length = [] := by unfold laidZ; simp
theorem laidZ_step (l : List Int) {p : Nat} (h : p < l.length) : laidZ l p = laidZ l (p + 1) ++ [l[p], l[p]] := by
  unfold laidZ
  conv => lhs; rw [List.drop_eq_getElem_cons h]
  rw [List.reverse_cons, List.flatMap_append]
  rfl
theorem laidZ_len (l : List Int) (m : Nat) : (laidZ l m).length = 2 * (l.length - m) := by
  unfold laidZ
  rw [flat2_length, List.length_reverse, List.length_drop]
def twPr (wr : World) (VL VG VU : Value) (gb go xb xo i p : Nat) (z : Int) (j : Nat) (w : World) (v : Value) : Prop := match j with
  | 0 => v = VL
  | 1 => v = VG
  | 2 => v = (.int .i64 (i : Nat))
  | 3 => v = (.pointer (some ⟨gb, go + i, none⟩))
  | 4 => v = VU
  | 5 => v = (.int .i64 (p : Nat))
  | 6 => v = (.pointer (some ⟨xb, xo + p, none⟩))
  | 7 => v = (.int .i64 z)
  | 8 => v = VG
  | 9 => v = (.int .i64 (i : Nat))
  | 10 => v = (.pointer (some ⟨gb, go + i, none⟩))
  | 11 => v = VU
  | 12 => v = (.int .i64 (p : Nat))
  | 13 => v = (.pointer (some ⟨xb, xo + p, none⟩))
  | 14 => v = (.int .i64 z)
  | 15 => ∃ b, v = .slice (some ⟨b, 0, none⟩) 2 2 ∧ w.cell? ⟨b, 0, none⟩ = some (.int .i64 z) ∧ w.cell? ⟨b, 0 + 1, none⟩ = some (.int .i64 z) ∧ wr.heap.size ≤ b
  | _ => True
theorem twPr_fr (wr : World) (VL VG VU : Value) (gb go xb xo i p : Nat) (z : Int) (j : Nat) (w w' : World) (v : Value) (f : Fr w w') (h : twPr wr VL VG VU gb go xb xo i p z j w v) : twPr wr VL VG VU gb go xb xo i p z j w' v := by
  exact match j, h with
  | 0, h => h
  | 1, h => h
  | 2, h => h
  | 3, h => h
  | 4, h => h
  | 5, h => h
  | 6, h => h
  | 7, h => h
  | 8, h => h
  | 9, h => h
  | 10, h => h
  | 11, h => h
  | 12, h => h
  | 13, h => h
  | 14, h => h
  | 15, h => h.imp fun b h => ⟨h.1, f.keep h.2.1, f.keep h.2.2.1, h.2.2.2⟩
  | _ + 16, _ => trivial
set_option maxRecDepth 100000 in
set_option maxHeartbeats 4000000 in
theorem sccTwice_c {w : World} {v : Value} {G : List (List Int)} (hv : RdGZ w v G) :
    Calls Try.prog 5 #[v] w fun e w' => e = .returned (.bool true) ∧ Fr w w' := by
  have HF := Lib.hid (few28_c hv)
  have HV := Lib.hid hv
  cases hfew : fewB G
  · rw [hfew] at HF
    clear hv
    go_enter Try.func5, Try.ntmps5
    go_wp2_with fail
    refine HF.out.mono ?_
    rintro e w1 ⟨rfl, hf1⟩
    have HF1 := Lib.hid hf1
    clear hf1 HF
    go_wp2_with fail
    refine (works28_c w1).mono ?_
    rintro e w2 ⟨rfl, hf2⟩
    have HF2 := Lib.hid (HF1.out.trans hf2)
    clear hf2
    go_wp2_with fail
    go_ret
    exact ⟨rfl, HF2.out⟩
  · rw [hfew] at HF
    obtain ⟨hb, hb30⟩ := fewB_spec hfew
    have HB30 : Hid (∀ i (h : i < G.length), (G[i]).length ≤ 30) := Lib.hid (fun i h => hb30 _ (List.getElem_mem h))
    have HC := Lib.hid (fun W (f : Fr w W) => CompsZ_c (HV.out.fr f) (by omega))
    have HC2 : Hid (∀ W vo, RdGZ W vo (twiceG G) → Calls Try.prog 14 #[vo] W fun e w' => ∃ va, e = .returned (.tuple #[va, .int .i64 (errZ G)]) ∧ RdI w' va (compsZ G) ∧ Fr W w') := Lib.hid (fun W vo h => by
      have := CompsZ_c h (by simp [twiceG]; omega)
      rw [twice_err, twice_comps] at this
      exact this)
    have HO2 : Hid (∀ W vo, RdGZ W vo (twiceG G) → Calls Try.prog 11 #[vo] W fun e w' => ∃ va, e = .returned (.tuple #[va, .int .i64 (errZ G)]) ∧ RdI w' va (orderZ (twiceG G)) ∧ Fr W w') := Lib.hid (fun W vo h => by
      have := OrderZ_c h (by simp [twiceG]; omega)
      rw [twice_err] at this
      exact this)
    have hl : (compsZ G).length ≤ 4000000 := by have := compsZ_len G; omega
    obtain ⟨va, vc, rfl, hvc, _, hx⟩ := hv
    have HX := Lib.hid hx
    clear hx hfew hb30
    generalize compsZ G = C at HC HC2 hl
    generalize errZ G = er at HC HC2 HO2
    generalize orderZ (twiceG G) = OT at HO2
    go_enter Try.func5, Try.ntmps5
    go_wp2_with fail
    refine HF.out.mono ?_
    rintro e w1 ⟨rfl, hf1⟩
    have HF1 := Lib.hid hf1
    clear hf1 HF
    have HS : Hid (∃ gs, RowsAt w1 w1 (.slice none 0 0) gs ((twiceG G).take 0)) := Lib.hid ⟨[], by rw [List.take_zero]; exact RowsAt.nil w1⟩
    go_wp2_with fail
    go_loopw [3, 4] (fun vo vi wr => ∃ i : Nat, i ≤ G.length ∧ vi = .int .i64 i ∧ Hid (∃ gs, RowsAt w1 wr vo gs ((twiceG G).take i))) (fun _ vi _ => G.length - (intOf vi).toNat)
    case atStart => exact ⟨0, Nat.zero_le _, rfl, HS⟩
    case round =>
      obtain ⟨i, hi, rfl, HR⟩ := hrel
      clear HS
      obtain ⟨gs, hR⟩ := HR.out
      have HRA := Lib.hid hR
      clear hR HR
      by_cases hit : i < G.length
      · obtain ⟨gb, go, u, rfl, hc, ⟨ua, uc, rfl, huc, hum, hux⟩⟩ := HX.out i hit
        have HGC := Lib.hid (HF1.out.keep hc)
        have HUX : Hid (∀ k (hk : k < (G[i]).length), ∃ g o, ua = some ⟨g, o, none⟩ ∧ w1.cell? ⟨g, o + k, none⟩ = some (.int .i64 (G[i])[k])) := Lib.hid (fun k hk => by
          obtain ⟨g, o, h1, h2⟩ := hux k hk
          exact ⟨g, o, h1, HF1.out.keep h2⟩)
        have hl30 := HB30.out i hit
        have HTK : Hid ((twiceG G).take (i + 1) = (twiceG G).take i ++ [twiceL G[i]]) := Lib.hid (by
          rw [List.take_succ_eq_append_getElem (by simpa [twiceG] using hit)]
          simp [twiceG])
        clear hc hux
        obtain ⟨wo, rfl⟩ : ∃ wo, wo = wr := ⟨_, rfl⟩
        obtain ⟨vo, rfl⟩ : ∃ vo, vo = u3 := ⟨_, rfl⟩
        generalize G[i] = l at HGC HUX HTK huc hl30
        have hgc := HRA.out.frm.keep HGC.out
        have lgc := lt_of_cell hgc
        simp only at lgc
        have HL0 : Hid (RowsAt w1 wo vo gs ((twiceG G).take i) ∧ wo.ownsRow w1.heap.size 3 1 (.slice none 0 0) (laidZ l l.length).length ((laidZ l l.length).map zV) ∧ ∀ b, (Value.slice none 0 0).ownBlock = some b → ∀ j, rowOb vo gs j ≠ some b) := Lib.hid ⟨HRA.out, by rw [laidZ_all]; exact World.ownsRow_nil _ _ _ _, fun b h => by cases h⟩
        clear HRA
        go_wp2_with fail
        clear hgc lgc
        go_loopw [5, 6] (fun vl vk wr => ∃ m : Nat, m ≤ l.length ∧ vk = .int .i64 ((m : Int) - 1) ∧ Hid (RowsAt w1 wr vo gs ((twiceG G).take i) ∧ wr.ownsRow w1.heap.size 3 1 vl (laidZ l m).length ((laidZ l m).map zV) ∧ ∀ b, vl.ownBlock = some b → ∀ j, rowOb vo gs j ≠ some b)) (fun _ vk _ => ((intOf vk) + 1).toNat)
        case atStart => exact ⟨l.length, Nat.le_refl _, rfl, HL0⟩
        case round =>
          obtain ⟨m, hm, rfl, HI⟩ := hrel
          clear HL0
          have hgc := HI.out.1.frm.keep HGC.out
          have lgc := lt_of_cell hgc
          simp only at lgc
          cases m with
          | succ p =>
            have hp : p < l.length := by omega
            have ep : (((p + 1 : Nat) : Int) - 1) = (p : Int) := by omega
            rw [ep]
            clear ep
            obtain ⟨xb, xo, rfl, hz⟩ := HUX.out p hp
            have hz := HI.out.1.frm.keep hz
            have lz := lt_of_cell hz
            simp only at lz
            have HST := Lib.hid (laidZ_step l hp)
            have hlen : (laidZ l (p + 1)).length + [l[p], l[p]].length ≤ 4000000 := by rw [laidZ_len]; simp; omega
            have hlen2 := laidZ_len l (p + 1)
            obtain ⟨la, lc, hle⟩ := vals_form HI.out.2.1
            subst hle
            obtain ⟨ln, hln⟩ : ∃ ln, ln = (laidZ l (p + 1)).length := ⟨_, rfl⟩
            rw [← hln] at HI ⊢
            have HLN := Lib.hid hln
            clear hln hlen2
            generalize l[p] = z at hz HST hlen
            go_wp2_with fail
            refine wp_region_preds_tail (m := 16) (g := 2) (d := fun j => 33 + j) (Pr := twPr wr (.slice la ln lc) (.slice (some ⟨gb, go, none⟩) G.length vc) (.slice (some ⟨xb, xo, none⟩) l.length uc) gb go xb xo i p z) (by kernel_rfl) rfl (by omega) (by kernel_rfl) (by kernel_rfl) (by kernel_rfl) (by kernel_rfl) (fun i j hi hj hne h => by have h : 33 + i = 33 + j := h; omega) (fun j hj => by show 33 + j < _; simp; omega) (fun j hj w w' v f h => twPr_fr _ _ _ _ _ _ _ _ _ _ _ j w w' v f h) ?hop ?hend
            case hop =>
              intro j hj K a w' hf hw ho hK
              rcases (show j = 0 ∨ j = 1 ∨ j = 2 ∨ j = 3 ∨ j = 4 ∨ j = 5 ∨ j = 6 ∨ j = 7 ∨ j = 8 ∨ j = 9 ∨ j = 10 ∨ j = 11 ∨ j = 12 ∨ j = 13 ∨ j = 14 ∨ j = 15 by omega) with rfl | rfl | rfl | rfl | rfl | rfl | rfl | rfl | rfl | rfl | rfl | rfl | rfl | rfl | rfl | rfl
              · -- 0
                have e5 : a.tmps[5]? = some (.slice la ln lc) := (ho 5 (fun j hj => by show 5 ≠ 33 + j; omega)).trans rfl
                exact wpOp_runT rfl (wanted_plain rfl _) (.slice la ln lc) w' (by unfold execOp; simp [go_sem, e5]) (hK _ w' (Fr.refl _) rfl)
              · -- 1
                have e0 : a.tmps[0]? = some (.slice (some ⟨gb, go, none⟩) G.length vc) := (ho 0 (fun j hj => by show 0 ≠ 33 + j; omega)).trans rfl
                exact wpOp_runT rfl (wanted_plain rfl _) (.slice (some ⟨gb, go, none⟩) G.length vc) w' (by unfold execOp; simp [go_sem, e0]) (hK _ w' (Fr.refl _) rfl)
              · -- 2
                have e4 : a.tmps[4]? = some (.int .i64 (i : Nat)) := (ho 4 (fun j hj => by show 4 ≠ 33 + j; omega)).trans rfl
                exact wpOp_runT rfl (wanted_plain rfl _) (.int .i64 (i : Nat)) w' (by unfold execOp; simp [go_sem, e4]) (hK _ w' (Fr.refl _) rfl)
              · -- 3
                obtain ⟨v34, (e34 : a.tmps[34]? = _), (q34 : v34 = (.slice (some ⟨gb, go, none⟩) G.length vc))⟩ := hw 1 (by omega) (by kernel_rfl); rw [q34] at e34; clear q34
                obtain ⟨v35, (e35 : a.tmps[35]? = _), (q35 : v35 = (.int .i64 (i : Nat)))⟩ := hw 2 (by omega) (by kernel_rfl); rw [q35] at e35; clear q35
                have c0 := (show ¬ G.length ≤ i by omega)
                exact wpOp_runT rfl (wanted_plain rfl _) (.pointer (some ⟨gb, go + i, none⟩)) w' (by unfold execOp; simp [go_sem, e34, e35, c0]) (hK _ w' (Fr.refl _) rfl)
              · -- 4
                obtain ⟨v36, (e36 : a.tmps[36]? = _), (q36 : v36 = (.pointer (some ⟨gb, go + i, none⟩)))⟩ := hw 3 (by omega) (by kernel_rfl); rw [q36] at e36; clear q36
                have c0 := hf.keep hgc
                exact wpOp_runT rfl (wanted_plain rfl _) (.slice (some ⟨xb, xo, none⟩) l.length uc) w' (by unfold execOp; simp [go_sem, e36, c0]) (hK _ w' (Fr.refl _) rfl)
              · -- 5
                have e6 : a.tmps[6]? = some (.int .i64 (p : Nat)) := (ho 6 (fun j hj => by show 6 ≠ 33 + j; omega)).trans rfl
                exact wpOp_runT rfl (wanted_plain rfl _) (.int .i64 (p : Nat)) w' (by unfold execOp; simp [go_sem, e6]) (hK _ w' (Fr.refl _) rfl)
              · -- 6
                obtain ⟨v37, (e37 : a.tmps[37]? = _), (q37 : v37 = (.slice (some ⟨xb, xo, none⟩) l.length uc))⟩ := hw 4 (by omega) (by kernel_rfl); rw [q37] at e37; clear q37
                obtain ⟨v38, (e38 : a.tmps[38]? = _), (q38 : v38 = (.int .i64 (p : Nat)))⟩ := hw 5 (by omega) (by kernel_rfl); rw [q38] at e38; clear q38
                have c0 := (show ¬ l.length ≤ p by omega)
                exact wpOp_runT rfl (wanted_plain rfl _) (.pointer (some ⟨xb, xo + p, none⟩)) w' (by unfold execOp; simp [go_sem, e37, e38, c0]) (hK _ w' (Fr.refl _) rfl)
              · -- 7
                obtain ⟨v39, (e39 : a.tmps[39]? = _), (q39 : v39 = (.pointer (some ⟨xb, xo + p, none⟩)))⟩ := hw 6 (by omega) (by kernel_rfl); rw [q39] at e39; clear q39
                have c0 := hf.keep hz
                exact wpOp_runT rfl (wanted_plain rfl _) (.int .i64 z) w' (by unfold execOp; simp [go_sem, e39, c0]) (hK _ w' (Fr.refl _) rfl)
              · -- 8
                have e0 : a.tmps[0]? = some (.slice (some ⟨gb, go, none⟩) G.length vc) := (ho 0 (fun j hj => by show 0 ≠ 33 + j; omega)).trans rfl
                exact wpOp_runT rfl (wanted_plain rfl _) (.slice (some ⟨gb, go, none⟩) G.length vc) w' (by unfold execOp; simp [go_sem, e0]) (hK _ w' (Fr.refl _) rfl)
              · -- 9
                have e4 : a.tmps[4]? = some (.int .i64 (i : Nat)) := (ho 4 (fun j hj => by show 4 ≠ 33 + j; omega)).trans rfl
                exact wpOp_runT rfl (wanted_plain rfl _) (.int .i64 (i : Nat)) w' (by unfold execOp; simp [go_sem, e4]) (hK _ w' (Fr.refl _) rfl)
              · -- 10
                obtain ⟨v41, (e41 : a.tmps[41]? = _), (q41 : v41 = (.slice (some ⟨gb, go, none⟩) G.length vc))⟩ := hw 8 (by omega) (by kernel_rfl); rw [q41] at e41; clear q41
                obtain ⟨v42, (e42 : a.tmps[42]? = _), (q42 : v42 = (.int .i64 (i : Nat)))⟩ := hw 9 (by omega) (by kernel_rfl); rw [q42] at e42; clear q42
                have c0 := (show ¬ G.length ≤ i by omega)
                exact wpOp_runT rfl (wanted_plain rfl _) (.pointer (some ⟨gb, go + i, none⟩)) w' (by unfold execOp; simp [go_sem, e41, e42, c0]) (hK _ w' (Fr.refl _) rfl)
              · -- 11
                obtain ⟨v43, (e43 : a.tmps[43]? = _), (q43 : v43 = (.pointer (some ⟨gb, go + i, none⟩)))⟩ := hw 10 (by omega) (by kernel_rfl); rw [q43] at e43; clear q43
                have c0 := hf.keep hgc
                exact wpOp_runT rfl (wanted_plain rfl _) (.slice (some ⟨xb, xo, none⟩) l.length uc) w' (by unfold execOp; simp [go_sem, e43, c0]) (hK _ w' (Fr.refl _) rfl)
              · -- 12
                have e6 : a.tmps[6]? = some (.int .i64 (p : Nat)) := (ho 6 (fun j hj => by show 6 ≠ 33 + j; omega)).trans rfl
                exact wpOp_runT rfl (wanted_plain rfl _) (.int .i64 (p : Nat)) w' (by unfold execOp; simp [go_sem, e6]) (hK _ w' (Fr.refl _) rfl)
              · -- 13
                obtain ⟨v44, (e44 : a.tmps[44]? = _), (q44 : v44 = (.slice (some ⟨xb, xo, none⟩) l.length uc))⟩ := hw 11 (by omega) (by kernel_rfl); rw [q44] at e44; clear q44
                obtain ⟨v45, (e45 : a.tmps[45]? = _), (q45 : v45 = (.int .i64 (p : Nat)))⟩ := hw 12 (by omega) (by kernel_rfl); rw [q45] at e45; clear q45
                have c0 := (show ¬ l.length ≤ p by omega)
                exact wpOp_runT rfl (wanted_plain rfl _) (.pointer (some ⟨xb, xo + p, none⟩)) w' (by unfold execOp; simp [go_sem, e44, e45, c0]) (hK _ w' (Fr.refl _) rfl)
              · -- 14
                obtain ⟨v46, (e46 : a.tmps[46]? = _), (q46 : v46 = (.pointer (some ⟨xb, xo + p, none⟩)))⟩ := hw 13 (by omega) (by kernel_rfl); rw [q46] at e46; clear q46
                have c0 := hf.keep hz
                exact wpOp_runT rfl (wanted_plain rfl _) (.int .i64 z) w' (by unfold execOp; simp [go_sem, e46, c0]) (hK _ w' (Fr.refl _) rfl)
              · -- 15
                obtain ⟨v40, (e40 : a.tmps[40]? = _), (q40 : v40 = (.int .i64 z))⟩ := hw 7 (by omega) (by kernel_rfl); rw [q40] at e40; clear q40
                obtain ⟨v47, (e47 : a.tmps[47]? = _), (q47 : v47 = (.int .i64 z))⟩ := hw 14 (by omega) (by kernel_rfl); rw [q47] at e47; clear q47
                exact wpOp_runT rfl (wanted_plain rfl _) (.slice (some ⟨w'.heap.size, 0, none⟩) 2 2) (w'.alloc (.cells #[.int .i64 z, .int .i64 z] 3)) (run_bs 25 3 2 _ rfl [.int .i64 z, .int .i64 z] (by simp [evalOf e40, evalOf e47]) 1 (by omega) (fun v hv => by simp at hv; subst hv; rfl) Try.underlying25 (by kernel_rfl) rfl (by omega) (by omega)) (hK _ _ ((Fr.refl _).alloc _) ⟨_, rfl, (BoxAt.new' w' #[.int .i64 z, .int .i64 z] 3 _ rfl).at 0 rfl, (BoxAt.new' w' #[.int .i64 z, .int .i64 z] 3 _ rfl).at 1 rfl, hf.size⟩)
            case hend =>
              intro f w5 hf5 hP
              have p33 : f 0 = .slice la ln lc := hP 0 (by omega)
              obtain ⟨b9, p48, hy0, hy1, hb9⟩ := hP 15 (by omega)
              have HR5 := Lib.hid (HI.out.1.fr hf5)
              have hown := ownsRow_kept2 HI.out.2.1 fun g hg => hf5.block (World.ownsRow.lt HI.out.2.1 g hg).2
              have HAP := Lib.hid HI.out.2.2
              have hsz := HR5.out.frm.size
              clear hP HI hf5 hz lz hgc lgc hb9
              simp only [laidS, List.setIfInBounds_toArray, List.set_cons_succ, List.set_cons_zero, p33, p48]
              clear p33 p48
              have hown : w5.ownsRow w1.heap.size 3 1 (.slice la ln lc) (laidZ l (p + 1)).length ((laidZ l (p + 1)).map zV) := by rw [← HLN.out]; exact hown
              refine wpList_appendZ (base := w1.heap.size) rfl (.tmp 33) (.tmp 48) rfl _ (laidZ l (p + 1)) [z, z] rfl hown hsz _ 2 _ rfl rfl (.inr ⟨b9, 0, rfl, fun j hj => by
                match j, hj with
                | 0, _ => exact hy0
                | 1, _ => exact hy1⟩) hlen ?_
              intro va2 vc6 w6 hO6 hch6 hat6
              have HST : Hid (laidZ l p = laidZ l (p + 1) ++ [z, z]) := HST
              rw [← HST.out] at hO6 hat6 ⊢
              obtain ⟨nl, hnl⟩ : ∃ nl, nl = (laidZ l p).length := ⟨_, rfl⟩
              rw [← hnl] at hO6 hat6 ⊢
              have HNL := Lib.hid hnl
              clear hnl
              have HN : Hid (RowsAt w1 w6 vo gs ((twiceG G).take i) ∧ w6.ownsRow w1.heap.size 3 1 (.slice va2 nl vc6) (laidZ l p).length ((laidZ l p).map zV) ∧ ∀ b, (Value.slice va2 nl vc6).ownBlock = some b → ∀ j, rowOb vo gs j ≠ some b) := Lib.hid (by
                refine ⟨HR5.out.apart hch6 fun b hb => ⟨HAP.out b hb, (World.ownsRow.lt hown b hb).1⟩, by rw [← HNL.out]; exact hO6, fun b hb j hj => ?_⟩
                rcases hat6 b hb with h | h
                · exact HAP.out b h j hj
                · have := (HR5.out.ge hj).2; omega)
              clear hO6 hch6 hat6 hown hy0 hy1 hsz HR5 HST HAP
              go_wp2_with fail
              go_roundw
              case rel => exact ⟨p, by omega, by go_num, HN⟩
              case measure => first | (simp [intOf]; done) | (simp [intOf]; omega)
          | zero =>
            rw [laidZ_zero] at HI
            have hown0 := HI.out.2.1
            have HRA := Lib.hid HI.out.1
            have HAP := Lib.hid HI.out.2.2
            have HTL : Hid (wr.ownsRow w1.heap.size 3 1 u5 (twiceL l).length ((twiceL l).map zV)) := Lib.hid hown0
            obtain ⟨lv, hlv⟩ : ∃ lv, lv = u5 := ⟨_, rfl⟩
            obtain ⟨la, lc, hle⟩ := vals_form hown0
            obtain ⟨tl, htl⟩ : ∃ tl, tl = (twiceL l).length := ⟨_, rfl⟩
            rw [← htl] at hle
            have HTLN := Lib.hid htl
            rw [← hlv] at HTL HAP hle
            have HLV := Lib.hid hle
            clear hown0 HI htl
            have hti : ((twiceG G).take i).length = i := by rw [List.length_take]; simp [twiceG]; omega
            have hglen := HRA.out.glen
            obtain ⟨oa, oc, hvo⟩ := vals_form HRA.out.row
            rw [hti] at hvo
            subst hvo
            have hlen : gs.length ≤ 4000000 := by rw [hglen, hti]; omega
            have hown := HRA.out.row.alloc (.cells #[.slice la tl lc] 25)
            rw [← hglen] at hown
            have hy : (wr.alloc (.cells #[.slice la tl lc] 25)).cell? ⟨wr.heap.size, 0, none⟩ = some (.slice la tl lc) := (BoxAt.new' wr #[.slice la tl lc] 25 _ (by simp)).at 0 rfl
            have hsz := (HRA.out.frm.alloc (.cells #[.slice la tl lc] 25)).size
            have HFA := Lib.hid ((Fr.refl wr).alloc (.cells #[.slice la tl lc] 25))
            rw [hle] at hlv
            subst hlv
            clear hti hglen hle
            go_wp2_with (at_builtin; refine wpList_appendVal (base := w1.heap.size) rfl (.tmp 50) (.tmp 52) rfl _ gs rfl hown hsz wr.heap.size 1 _ rfl rfl hy hlen ?_)
            intro va2 vn vc6 w6 hO6 hch6 hat6
            have HN : Hid (∃ gs, RowsAt w1 w6 (.slice va2 vn vc6) gs ((twiceG G).take (i + 1))) := Lib.hid ⟨_, by
              rw [HTK.out]
              refine (HRA.out.fr HFA.out).snoc (gv := lv) (ownsRow_kept2 HTL.out fun g hg => HFA.out.block (World.ownsRow.lt HTL.out g hg).2) (fun b hb j => HAP.out b hb j) hch6 (by rw [HLV.out]; exact hO6) (fun b hb => (hat6 b hb).imp id fun e => by subst e; simp)⟩
            clear hO6 hch6 hat6 hown hy hsz HFA HRA HTL HAP HLV HTLN
            go_wp2_with fail
            go_roundw
            case rel => exact ⟨i + 1, by omega, by go_num, HN⟩
            case measure => first | (simp [intOf]; done) | (simp [intOf]; omega)
      · obtain rfl : i = G.length := by omega
        rw [List.take_of_length_le (by simp [twiceG])] at HRA
        have hrd := HRA.out.rd
        have HF2 := Lib.hid (HF1.out.trans HRA.out.frm)
        have HRD := Lib.hid hrd
        have HC1 := Lib.hid (HC.out wr HF2.out)
        obtain ⟨oa, oc, hoe, _, _, hox⟩ := hrd
        have htg : (twiceG G).length = G.length := by simp [twiceG]
        rw [htg] at hoe
        subst hoe
        clear hox HRA HC htg
        go_wp2_with fail
        refine HC1.out.mono ?_
        rintro e w3 ⟨v3, rfl, h3, hf3⟩
        have HF3 := Lib.hid (HF2.out.trans hf3)
        have HRD := Lib.hid (HRD.out.fr hf3)
        have HR3 := Lib.hid h3
        have HC4 := Lib.hid (HC2.out w3 _ HRD.out)
        clear hf3 h3 HC1 HC2
        go_wp2_with fail
        refine HC4.out.mono ?_
        rintro e w4 ⟨v4, rfl, h4, hf4⟩
        have HF4 := Lib.hid (HF3.out.trans hf4)
        have HRD := Lib.hid (HRD.out.fr hf4)
        have HR3 := Lib.hid (HR3.out.fr hf4)
        have HR4 := Lib.hid h4
        have HO5 := Lib.hid (HO2.out w4 _ HRD.out)
        clear hf4 h4 HC4 HO2
        go_wp2_with fail
        refine HO5.out.mono ?_
        rintro e w5 ⟨v5, rfl, h5, hf5⟩
        have HF5 := Lib.hid (HF4.out.trans hf5)
        have HSM := Lib.hid (fun W (f : Fr w5 W) => same28_c ((HR3.out.fr hf5).fr f) ((HR4.out.fr hf5).fr f) hl hl)
        rw [decide_eq_true rfl] at HSM
        obtain ⟨oa', oc', e1, _, _, hox⟩ := HRD.out.fr hf5
        have htg : (twiceG G).length = G.length := by simp [twiceG]
        rw [htg] at e1
        cases e1
        have HOX : Hid (∀ i (hi : i < G.length), ∃ b o ua uc, oa = some ⟨b, o, none⟩ ∧ w5.cell? ⟨b, o + i, none⟩ = some (.slice ua (2 * (G[i]).length) uc) ∧ ∀ k (hk : k < (G[i]).length), ∃ g p, ua = some ⟨g, p, none⟩ ∧ w5.cell? ⟨g, p + 2 * ((G[i]).length - 1 - k), none⟩ = some (.int .i64 (G[i])[k])) := Lib.hid (fun i hi => by
          obtain ⟨b, o, u, h1, h2, hr⟩ := hox i (by rw [htg]; exact hi)
          have e : (twiceG G)[i]'(by rw [htg]; exact hi) = twiceL G[i] := by simp [twiceG]
          rw [e] at hr
          obtain ⟨ua, uc, h3, _, _, h4⟩ := hr
          rw [twiceL_length] at h3
          subst h3
          refine ⟨b, o, ua, uc, h1, h2, fun k hk => ?_⟩
          obtain ⟨g, p, h5, h6⟩ := h4 (2 * ((G[i]).length - 1 - k)) (by rw [twiceL_length]; omega)
          refine ⟨g, p, h5, ?_⟩
          have h7 := twiceL_at hk
          rw [List.getElem?_eq_getElem (by rw [twiceL_length]; omega), List.getElem?_eq_getElem hk] at h7
          rw [h6, Option.some.inj h7])
        clear hox h5 hf5 HO5 HR3 HR4 HRD htg
        go_wp2_with fail
        go_loopw [11] (fun vi wr => ∃ i : Nat, i ≤ G.length ∧ vi = .int .i64 i ∧ Hid (Fr w5 wr)) (fun vi _ => G.length - (intOf vi).toNat)
        case atStart => exact ⟨0, Nat.zero_le _, rfl, Fr.refl _⟩
        case round =>
          obtain ⟨i, hi, rfl, HI⟩ := hrel
          by_cases hit : i < G.length
          · obtain ⟨ob, oo, ta, tc, rfl, htc, htx⟩ := HOX.out i hit
            obtain ⟨gb, go, u, rfl, hgc, ⟨ua, uc, rfl, huc, hum, hux⟩⟩ := HX.out i hit
            have hl30 := HB30.out i hit
            have HTC := Lib.hid htc
            have HTX := Lib.hid htx
            have HGC := Lib.hid (HF5.out.keep hgc)
            have HUX : Hid (∀ k (hk : k < (G[i]).length), ∃ g o, ua = some ⟨g, o, none⟩ ∧ w5.cell? ⟨g, o + k, none⟩ = some (.int .i64 (G[i])[k])) := Lib.hid (fun k hk => by
              obtain ⟨g, o, h1, h2⟩ := hux k hk
              exact ⟨g, o, h1, HF5.out.keep h2⟩)
            clear htc htx hgc hux
            generalize G[i] = l at HTC HTX HGC HUX huc hl30
            obtain ⟨wi, rfl⟩ : ∃ wi, wi = wr := ⟨_, rfl⟩
            go_wp2_with fail
            go_loopw [12] (fun vk wr => ∃ k : Nat, k ≤ l.length ∧ vk = .int .i64 k ∧ Hid (Fr wi wr)) (fun vk _ => l.length - (intOf vk).toNat)
            case atStart => exact ⟨0, Nat.zero_le _, rfl, Fr.refl _⟩
            case round =>
              obtain ⟨k, hk, rfl, HK⟩ := hrel
              have hf := HI.out.trans HK.out
              have hgc := hf.keep HGC.out
              have lgc := lt_of_cell hgc
              simp only at lgc
              by_cases hkt : k < l.length
              · obtain ⟨xg, xo, rfl, hx⟩ := HUX.out k hkt
                obtain ⟨tg, tp, rfl, ht⟩ := HTX.out k hkt
                have hx := hf.keep hx
                have ht := hf.keep ht
                have htc := hf.keep HTC.out
                have lx := lt_of_cell hx
                have lt := lt_of_cell ht
                have ltc := lt_of_cell htc
                simp only at lx lt ltc
                obtain ⟨dd, hdd⟩ : ∃ dd, dd = l.length - 1 - k := ⟨_, rfl⟩
                rw [← hdd] at ht
                have hd1 : (l.length : Int) - 1 - (k : Int) = (dd : Int) := by omega
                have hd2 : 2 * dd < 2 * l.length := by omega
                have hd3 : dd ≤ 30 := by omega
                generalize l[k] = z at hx ht
                have HFF : Hid (∀ W, Fr wr W → Fr wi W) := Lib.hid (fun W f => HK.out.trans f)
                clear hdd hf HK
                go_wp2_with fail
                go_quiet (fail)
                go_wp2_with fail
                go_roundw
                case rel => exact ⟨k + 1, by omega, by go_num, HFF.out _ (by first | exact Fr.refl _ | exact (Fr.refl _).drew | exact (Fr.refl _).drewN _)⟩
                case measure => first | (simp [intOf]; done) | (simp [intOf]; omega)
              · obtain rfl : k = l.length := by omega
                have HN := Lib.hid hf
                clear hf
                go_wp2_with fail
                go_roundw
                case rel => exact ⟨i + 1, by omega, by go_num, HN⟩
                case measure => first | (simp [intOf]; done) | (simp [intOf]; omega)
          · obtain rfl : i = G.length := by omega
            have HS6 := Lib.hid (HSM.out wr HI.out)
            clear HSM
            go_wp2_with fail
            refine HS6.out.mono ?_
            rintro e w6 ⟨rfl, hf6⟩
            have HF6 := Lib.hid (HF5.out.trans (HI.out.trans hf6))
            clear hf6 HS6
            go_wp2_with fail
            refine (works28_c w6).mono ?_
            rintro e w7 ⟨rfl, hf7⟩
            have HF7 := Lib.hid (HF6.out.trans hf7)
            clear hf7
            go_wp2_with fail
            go_ret
            exact ⟨rfl, HF7.out⟩
end Go.Proofs.Ytadognaafgndnaa
