/- Layer 28: scc.Components, Order: their walks. No condition but the graph's bound. -/
import Derived.Test.YtadognaafgndnaaPSccTop
import Derived.Test.YtadognaafgndnaaPSccNumW
set_option linter.all false
set_option linter.unusedVariables false
set_option linter.unusedSimpArgs false
set_option linter.unnecessarySimpa false
/- Layer 28: scc.Components, Order: their walks. No condition but the graph's bound. -/
namespace Go.Proofs.Ytadognaafgndnaa
open Go.RowKit
attribute [local go_sem] Oper.semAt_some

set_option maxRecDepth 100000 in
set_option maxHeartbeats 1000000 in
theorem Components_c {w : World} {v : Value} {G : List (List Int)} (hv : RdGZ w v G) (hb : G.length ≤ 5864062014634) (hm : mayZ G = true) :
    Calls Try.prog 14 #[v] w fun e w' => ∃ vo, e = .returned (.tuple #[vo, .int .i64 0]) ∧ RdI w' vo (compsOf (natG G)) ∧ Fr w w' := by
  have HG := Lib.hid (Groups_c hv hb hm)
  have hG := natG_may hm
  have hnl := natG_length G
  have HL := groups_len hG
  rw [hnl] at HL
  have HN : Hid (∀ w1 ve, RdGr w1 ve (sortG (groupsOf (natG G))) → Calls Try.prog 26 #[.int .i64 G.length, ve] w1 fun e w' => ∃ vo, e = .returned vo ∧ RdI w' vo (compsOf (natG G)) ∧ Fr w1 w') := Lib.hid (fun w1 ve h => by
    have h2 := number_c (n := G.length) h hb (fun g hg a ha => (HL.2 g (sortG_mem.1 hg)).2 a ha) (by rw [sortG_length]; omega)
    have e : (List.range G.length).map (numTo (sortG (groupsOf (natG G))) (sortG (groupsOf (natG G))).length) = compsOf (natG G) := by
      unfold compsOf
      rw [hnl]
      exact List.map_congr_left fun i hi => numTo_all hG (by rw [hnl]; exact List.mem_range.1 hi)
    rw [e] at h2; exact h2)
  obtain ⟨va, vc, rfl⟩ := hv.form
  clear hv hm HL hG hnl
  generalize natG G = N at HG HN ⊢
  go_enter Try.func14, Try.ntmps14
  go_wp2_with fail
  refine HG.out.mono ?_
  rintro e w1 ⟨ve, rfl, hrd, hf⟩
  have HF := Lib.hid hf
  have HN1 := Lib.hid (HN.out w1 ve hrd)
  clear hrd hf HG HN
  go_wp2_with fail
  refine HN1.out.mono ?_
  rintro e w2 ⟨vo, rfl, hrd, hf⟩
  have HR := Lib.hid (And.intro hrd (HF.out.trans hf))
  clear hrd hf HF HN1
  go_wp2_with fail
  go_ret2
  exact ⟨vo, rfl, HR.out⟩
set_option maxRecDepth 100000 in
theorem ComponentsNo_c {w : World} {v : Value} {G : List (List Int)} (hv : RdGZ w v G) (hm : mayZ G = false) :
    Calls Try.prog 14 #[v] w fun e w' => e = .returned (.tuple #[.slice none 0 0, .int .i64 2]) ∧ Fr w w' := by
  have HG := Lib.hid (GroupsNo_c hv hm)
  obtain ⟨va, vc, rfl⟩ := hv.form
  clear hv hm
  go_enter Try.func14, Try.ntmps14
  go_wp2_with fail
  refine HG.out.mono ?_
  rintro e w1 ⟨rfl, hf⟩
  have HF := Lib.hid hf
  clear hf HG
  go_wp2_with fail
  go_ret2
  exact ⟨rfl, HF.out⟩
/-- Groups of a call's own can be read. -/
theorem GrpAt.rd {w0 w : World} {ve : Value} {gs : List Value} {L : List (List Nat)} (H : GrpAt w0 w ve gs L) (hgl : ∀ g ∈ L, g.length ≤ 5864062014634) : RdGr w ve L := by
  obtain ⟨a, c, h1, h2, h3, h4⟩ := row_form H.row
  refine ⟨a, c, h1, h2, fun i hi => ?_⟩
  obtain ⟨g, u, h5, h6, h7⟩ := h4 i hi
  have hg : i < gs.length := by rw [H.glen]; exact hi
  rw [List.getElem?_eq_getElem hg] at h6
  cases h6
  exact ⟨g, 0, _, h5, by rw [Nat.zero_add]; exact h7, RdI.own (H.grp i hg hi), by have := hgl _ (List.getElem_mem hi); omega⟩
set_option maxRecDepth 100000 in
set_option maxHeartbeats 2000000 in
theorem Order_c {w : World} {v : Value} {G : List (List Int)} (hv : RdGZ w v G) (hb : G.length ≤ 5864062014634) (hm : mayZ G = true) :
    Calls Try.prog 11 #[v] w fun e w' => ∃ vo, e = .returned (.tuple #[vo, .int .i64 0]) ∧ RdI w' vo (orderOf (natG G)) ∧ Fr w w' := by
  have HG := Lib.hid (groups_c hv hb hm)
  have hG := natG_may hm
  have hnl := natG_length G
  have HL := groups_len hG
  have HI := groupsOf_is hG
  rw [hnl] at HL
  have HC : Hid (∀ w1, Fr w w1 → Calls Try.prog 14 #[v] w1 fun e w' => ∃ vo, e = .returned (.tuple #[vo, .int .i64 0]) ∧ RdI w' vo (compsOf (natG G)) ∧ Fr w1 w') := Lib.hid (fun w1 h => Components_c (hv.fr h) hb hm)
  have HRD : Hid (∀ w1 ve gs, GrpAt w w1 ve gs (groupsOf (natG G)) → RdGr w1 ve (groupsOf (natG G))) := Lib.hid (fun w1 ve gs h => h.rd fun g hg => by have := (HL.2 g hg).1; omega)
  have HO : Hid (∀ i (hi : i < (groupsOf (natG G)).length), 0 < ((groupsOf (natG G))[i]).length ∧ ((groupsOf (natG G))[i]).length ≤ 5864062014634 ∧ headN (groupsOf (natG G))[i] < (compsOf (natG G)).length ∧ (orderOf (natG G)).take (i + 1) = (orderOf (natG G)).take i ++ [(compsOf (natG G)).getD (headN (groupsOf (natG G))[i]) 0]) := Lib.hid (fun i hi => by
    have hm := List.getElem_mem hi
    have hne := HI.some_ _ hm
    refine ⟨List.length_pos_iff.2 hne, by have := (HL.2 _ hm).1; omega, by rw [compsOf_length, hnl]; exact (HL.2 _ hm).2 _ (headN_mem hne), ?_⟩
    have hl : i < (orderOf (natG G)).length := by rw [orderOf_length, sortG_length]; exact hi
    rw [List.take_succ_eq_append_getElem hl]
    rw [orderOf_get hl hi])
  have hol : (orderOf (natG G)).length = (groupsOf (natG G)).length := by rw [orderOf_length, sortG_length]
  have hlb : (groupsOf (natG G)).length ≤ 5864062014634 := by omega
  have HOL := Lib.hid hol
  clear hm HL HI hG hnl hol
  generalize compsOf (natG G) = C at HC HO
  generalize orderOf (natG G) = O at HO HOL ⊢
  generalize groupsOf (natG G) = L at HG HRD HO hlb HOL
  clear hv hb
  go_enter Try.func11, Try.ntmps11
  go_wp2_with fail
  refine HG.out.mono ?_
  rintro e w1 ⟨ve, gs, rfl, hgr⟩
  have HC1 := Lib.hid (HC.out w1 hgr.frm)
  have HR1 := Lib.hid (HRD.out w1 ve gs hgr)
  have HF1 := Lib.hid hgr.frm
  clear hgr HG HC HRD
  go_wp2_with fail
  refine HC1.out.mono ?_
  rintro e w2 ⟨vo, rfl, hrd, hf⟩
  have HR2 := Lib.hid (HR1.out.fr hf)
  have HF2 := Lib.hid (HF1.out.trans hf)
  obtain ⟨la, lc, rfl, hlc, hlx⟩ := HR2.out
  obtain ⟨ca, cc, rfl, hcc, hcx⟩ := hrd
  have HLX := Lib.hid hlx
  have HCX := Lib.hid hcx
  clear hf HF1 HC1 HR1 HR2 hlx hcx
  have HS : Hid (Fr w2 w2 ∧ w2.ownsRow w2.heap.size 3 1 (.slice none 0 0) (O.take 0).length ((O.take 0).map intV)) := Lib.hid ⟨Fr.refl _, by rw [List.take_zero]; exact World.ownsRow_nil _ _ _ _⟩
  go_wp2_with fail
  go_loopw [8, 26] (fun vo vi wr => ∃ i : Nat, i ≤ L.length ∧ vi = .int .i64 i ∧ Hid (Fr w2 wr ∧ wr.ownsRow w2.heap.size 3 1 vo (O.take i).length ((O.take i).map intV))) (fun _ vi _ => L.length - (intOf vi).toNat)
  case atStart => exact ⟨0, Nat.zero_le _, rfl, HS⟩
  case round =>
    obtain ⟨i, hi, rfl, HR⟩ := hrel
    clear HS
    by_cases hit : i < L.length
    · obtain ⟨b, o, u, rfl, hc, ⟨ua, uc, rfl, huc, hu⟩, hul⟩ := HLX.out i hit
      obtain ⟨h0, hg1, hh, ht⟩ := HO.out i hit
      replace hc := HR.out.1.keep hc
      have lb := lt_of_cell hc
      simp only at lb
      obtain ⟨q, p, rfl, hz⟩ := hu 0 h0
      replace hz := HR.out.1.keep hz
      have lq := lt_of_cell hz
      simp only at lq
      obtain ⟨cq, cp, rfl, hk⟩ := HCX.out _ hh
      replace hk := HR.out.1.keep hk
      have lk := lt_of_cell hk
      simp only at lk
      have hhead : (L[i])[0] = headN L[i] := head_at h0
      rw [hhead] at hz
      have hgd : C.getD (headN L[i]) 0 = C[headN L[i]] := getD_at hh
      rw [hgd] at ht
      have HT := Lib.hid ht
      clear hu ht hgd hhead
      generalize C[headN L[i]] = x at hk HT
      generalize L[i] = g at hc hz hk hh h0 hg1 hul huc
      generalize headN g = h at hz hk hh
      rw [Nat.add_zero] at hz
      unfold intV at hz hk
      have hlen : (O.take i).length ≤ 5864062014640 := by rw [List.length_take]; omega
      have hti : (O.take i).length = i := by rw [List.length_take, HOL.out]; omega
      obtain ⟨oa, oc, hoe⟩ := ints_at HR.out.2
      rw [hti] at hoe
      subst hoe
      have hown := HR.out.2.alloc (.cells #[.int .i64 (x : Nat)] 3)
      have hy : (wr.alloc (.cells #[.int .i64 (x : Nat)] 3)).cell? ⟨wr.heap.size, 0, none⟩ = some (intV x) := (BoxAt.new' wr #[.int .i64 (x : Nat)] 3 _ (by simp)).at 0 rfl
      have hsz := (HR.out.1.alloc (.cells #[.int .i64 (x : Nat)] 3)).size
      have HF := Lib.hid (HR.out.1.alloc (.cells #[.int .i64 (x : Nat)] 3))
      clear HR hti
      go_wp2_with (at_builtin; refine wpList_appendInt (base := w2.heap.size) rfl (.tmp 30) (.tmp 37) rfl _ (O.take i) rfl hown hsz wr.heap.size 1 x rfl hy hlen ?_)
      intro va vn vc w6 hO6 hch6 hat6
      have HN : Hid (Fr w2 w6 ∧ w6.ownsRow w2.heap.size 3 1 (.slice va vn vc) (O.take (i + 1)).length ((O.take (i + 1)).map intV)) := Lib.hid ⟨hch6.fr HF.out fun b hb => (World.ownsRow.lt hown b hb).1, by rw [HT.out]; simpa using hO6⟩
      clear hO6 hch6 hat6 hown hy hsz HF HT hc lb hz lq hk lk
      go_wp2_with fail
      go_roundw
      case rel => exact ⟨i + 1, by omega, by go_num, HN⟩
      case measure => first | (simp [intOf]; done) | (simp [intOf]; omega)
    · obtain rfl : i = L.length := by omega
      have hO := HR.out.2
      rw [← HOL.out, List.take_length] at hO
      have HR2 := Lib.hid (And.intro (RdI.own hO) (HF2.out.trans HR.out.1))
      clear hO HR
      go_wp2_with fail
      go_ret2
      exact ⟨_, rfl, HR2.out⟩
set_option maxRecDepth 100000 in
theorem OrderNo_c {w : World} {v : Value} {G : List (List Int)} (hv : RdGZ w v G) (hm : mayZ G = false) :
    Calls Try.prog 11 #[v] w fun e w' => e = .returned (.tuple #[.slice none 0 0, .int .i64 2]) ∧ Fr w w' := by
  have HG := Lib.hid (groupsNo_c hv hm)
  obtain ⟨va, vc, rfl⟩ := hv.form
  clear hv hm
  go_enter Try.func11, Try.ntmps11
  go_wp2_with fail
  refine HG.out.mono ?_
  rintro e w1 ⟨rfl, hf⟩
  have HF := Lib.hid hf
  clear hf HG
  go_wp2_with fail
  go_ret2
  exact ⟨rfl, HF.out⟩
end Go.Proofs.Ytadognaafgndnaa
