/- result.Parse: the walk. No condition but that the text is not endless and what the tables hold. -/
import Derived.Test.YtfklgaeejmeipaaGreatDoorPResTextW
import Derived.Test.YtfklgaeejmeipaaGreatDoorPPu
import Derived.Test.YtfklgaeejmeipaaGreatDoorPArms
set_option linter.all false
set_option linter.unusedVariables false
set_option linter.unusedSimpArgs false
set_option linter.unnecessarySimpa false
/- result.Parse: the walk. No condition but that the text is not endless and what the tables hold. -/
namespace Go.Proofs.YtfklgaeejmeipaaGreatDoor
open Go.RowKit

theorem cut_len (s : List UInt8) : (Lib.cut s [32]).2.1.length ≤ s.length := by
  unfold Lib.cut
  split <;> simp
theorem Tryz.infoRes : (Tryz.prog.info? 26).map (·.size) = some 2 := by kernel_rfl
/-- A result in a box, an error in a slot. -/
theorem results_res_err {fn : Func} {p q : Tmp} (h : fn.results = #[.cell p 26, .tmp q]) (tmps : Array Value) (w : World) (g : Nat) {c : Array Value} {u : Value} (hp : tmps.getD p undef = .pointer (some ⟨g, 0, none⟩)) (hq : tmps.getD q undef = u) (hB : BoxAt w g c 26) (hc : c.size = 2) :
    (results fn tmps).run Tryz.prog w = .ok (.tuple #[.agg c, u]) w := by
  have hl := run_loadVar_row (P := Tryz.prog) w g 26 26 c (0, 0) _ hB Tryz.underlying26 rfl (by rw [hc]; exact Tryz.infoRes)
  have hp' : tmps[p]?.getD undef = .pointer (some ⟨g, 0, none⟩) := by simpa using hp
  have hq' : tmps[q]?.getD undef = u := by simpa using hq
  simp [results, h, hp', hq', asAddr, hl]
/-- It returns an answer and a number. -/
def ResRet (w : World) (x : Nat × Nat × Nat) (e : Ending) (w' : World) : Prop := e = .returned (.tuple #[.agg #[.int .u8 x.1, .int .u16 x.2.1], .int .i64 x.2.2]) ∧ Fr w w'
theorem find_first {p : Nat → Bool} {n k : Nat} (hk : k < n) (hp : p k = true) (hu : ∀ j, j < k → p j = false) : (List.range n).find? p = some k := by
  cases h : (List.range n).find? p with
  | none =>
    have := List.find?_eq_none.1 h k (List.mem_range.2 hk)
    exact absurd hp this
  | some j =>
    obtain ⟨h1, la, lb, h2, h3⟩ := List.find?_eq_some_iff_append.1 h
    have hj : la.length = j := by
      have := congrArg (fun l => l[la.length]?) h2
      simp at this
      obtain ⟨_, h4⟩ := List.getElem?_eq_some_iff.1 this
      simpa using h4
    rcases Nat.lt_trichotomy j k with h4 | h4 | h4
    · rw [hu j h4] at h1; cases h1
    · rw [h4]
    · exfalso
      have h5 : la[k]? = some k := by
        have h6 : (List.range n)[k]? = some k := by simp [hk]
        rw [h2, List.getElem?_append_left (by omega)] at h6
        exact h6
      have := h3 k (List.mem_of_getElem? h5)
      rw [hp] at this
      cases this
theorem goodB_at {k v : Nat} (hk : k < 5) : goodB k (if k = 1 then v else 0) = true := by
  unfold goodB
  by_cases h : k = 1
  · simp [h]
  · simp [h]; omega
set_option maxRecDepth 100000 in
theorem resParse_c (s : List UInt8) (w : World) (hE : EnvR w) (hs : s.length < 1000000) :
    Calls Tryz.prog 95 #[.string ⟨s.toArray⟩] w (ResRet w (parseRes s)) := by
  have hP : ∃ R, parseRes s = R := ⟨_, rfl⟩
  obtain ⟨R, hP⟩ := hP
  have HY := Lib.hid (show ∀ k, k < 5 → (∀ j, j < k → resIs s j = false) → resIs s k = true → R = (k, resV s k, 0) by
    intro k hk hj h
    rw [← hP]
    unfold parseRes
    rw [find_first hk h hj])
  have HN := Lib.hid (show (∀ j, j < 5 → resIs s j = false) → R = (0, 0, 4) by
    intro h
    rw [← hP]
    unfold parseRes
    rw [List.find?_eq_none.2 (fun x hx => by rw [h x (List.mem_range.1 hx)]; simp)])
  rw [hP]
  clear hP
  have hct := fun W (f : Fr w W) => Cut_c s W (hE.keep f).toEnv0 hs
  have hcl := cut_len s
  have HIS := Lib.hid (show ∀ k, resIs s k = (decide (resWord k = (Lib.cut s [32]).1) && decide (resText k (if k = 1 then num16 (Lib.cut s [32]).2.1 else 0) = s)) from fun k => rfl)
  have HRV := Lib.hid (show ∀ k, resV s k = if k = 1 then num16 (Lib.cut s [32]).2.1 else 0 from fun k => rfl)
  generalize (Lib.cut s [32]).1 = wd at hct HIS
  generalize (Lib.cut s [32]).2.1 = nb at hct hcl HIS HRV
  generalize (Lib.cut s [32]).2.2 = fd at hct
  have hpu := fun W (f : Fr w W) => PU_c nb W (hE.keep f).toEnv0 (by omega)
  have hnl := num16_lt nb
  generalize num16 nb = n at hpu HIS HRV hnl
  have HT := Lib.hid (fun (k : Nat) W (f : Fr w W) (hk : k < 5) => show Calls Tryz.prog 32 #[.agg #[.int .u8 k, .int .u16 (if k = 1 then n else 0 : Nat)]] W (StrRet W (resText k (if k = 1 then n else 0), 0)) by
    have := resText_c k (if k = 1 then n else 0) W (hE.keep f) (by split <;> omega)
    unfold textRes at this
    rw [if_pos (goodB_at hk)] at this
    exact this)
  have HW := Lib.hid hE.words
  have HP := Lib.hid hpu
  have HC := Lib.hid hct
  clear hpu hct hE hcl
  go_enter Tryz.func95, Tryz.ntmps95
  go_wp2_with fail
  have hf0 : Fr w (w.alloc (.cells #[.int .u8 0, .int .u16 0] 26)) := (Fr.refl w).alloc _
  have hB0 := BoxAt.new w #[.int .u8 0, .int .u16 0] 26
  refine (HC.out _ hf0).mono ?_
  rintro e w1 ⟨rfl, hb1⟩
  have hf1 := hf0.trans hb1
  have hB1 := hB0.fr hb1
  go_wp2_with fail
  refine (HP.out _ hf1).mono ?_
  rintro e w2 ⟨er, rfl, hb2⟩
  have hf2 := hf1.trans hb2
  have hB2 := hB1.fr hb2
  clear hf0 hf1 hB0 hB1 hb1 hb2 HC HP
  go_wp2_with fail
  go_loopw [24] (fun i wr => ∃ k : Nat, k ≤ 5 ∧ i = .int .i64 k ∧ Fr w wr ∧ BoxAt wr w.heap.size #[.int .u8 0, .int .u16 0] 26 ∧ Hid (∀ j, j < k → resIs s j = false)) (fun i _ => 5 - (intOf i).toNat)
  case atStart => exact ⟨0, by omega, rfl, hf2, hB2, Lib.hid (by omega)⟩
  case round =>
    clear hf2 hB2
    obtain ⟨k, hk, rfl, hfr, hB, hno⟩ := hrel
    have hz := hB.lt
    by_cases hlt : k < 5
    · have hlti : (k : Int) < 5 := by omega
      have kw : IntKind.u8.wrap (k : Int) = k := by simp [IntKind.wrap, IntKind.bits, IntKind.signed]; omega
      have hwd := HW.out k hlt
      have hisk := HIS.out k
      have HVk := HRV.out k
      have hvx : ∃ v, v = if k = 1 then n else 0 := ⟨_, rfl⟩
      obtain ⟨v, hvx⟩ := hvx
      have HTk := fun W f => HT.out k W f hlt
      rw [← hvx] at HTk hisk HVk
      have hnx : ∃ nm, nm = resWord k := ⟨_, rfl⟩
      obtain ⟨nm, hnx⟩ := hnx
      rw [← hnx] at hwd hisk
      have htx : ∃ tt, tt = resText k v := ⟨_, rfl⟩
      obtain ⟨tt, htx⟩ := htx
      rw [← htx] at HTk hisk
      have HTk := Lib.hid HTk
      have HYk := Lib.hid (fun h => HY.out k hlt hno.out h)
      rw [hisk, HVk] at HYk
      have HNk := Lib.hid (show (decide (nm = wd) && decide (tt = s)) = false → ∀ j, j < k + 1 → resIs s j = false by
        intro h j hj
        by_cases e : j = k
        · rw [e, hisk]; exact h
        · exact hno.out j (by omega))
      clear hno hisk HVk hnx htx
      by_cases h1 : k = 1
      · subst h1
        obtain rfl : v = n := hvx
        by_cases hA : nm = wd
        · subst hA
          by_cases hB2 : tt = s
          · subst hB2
            have hRR := HYk.out (by simp)
            clear HYk HNk HIS HRV HW HN HY
            subst hRR
            go_wp2_with fail
            refine (HTk.out _ (hfr.alloc _)).mono ?_
            rintro e w3 ⟨rfl, hb3⟩
            have hf3 := (hfr.alloc (.cells #[.int .u8 1, .int .u16 v] 26)).trans hb3
            have hB3 := (hB.alloc (.cells #[.int .u8 1, .int .u16 v] 26)).fr hb3
            have x0 : w3.cell? ⟨wr.heap.size, 0, none⟩ = some (.int .u8 1) := hb3.keep (by simp)
            have x1 : w3.cell? ⟨wr.heap.size, 1, none⟩ = some (.int .u16 v) := hb3.keep (by simp)
            have hz3 := hb3.size1
            have hw3 := hf3.keep hwd
            have hgz := lt_of_cell hw3
            simp only at hgz
            clear hwd hb3 hfr hB
            go_wp2_with ((with_reducible refine wpList_here (.store 26 (.tmp 2) (.tmp 51)) rfl ?_); refine wpList_store_old 26 (.tmp 2) (.tmp 51) rfl w.heap.size _ _ rfl rfl hB3 Tryz.infoRes rfl (by simp [Value.oneCell']) rfl rfl ?_; intro w4 hR)
            exact bodyPost_ret (v := .tuple #[.agg #[.int .u8 1, .int .u16 v], .int .i64 0]) (results_res_err rfl _ _ _ rfl rfl hR.box rfl) rfl ⟨rfl, hR.fr hf3 (Nat.le_refl _)⟩
          · have hNN := Lib.hid (HNk.out (by simp [hB2]))
            have hq : (tt == s) = false := by simpa using hB2
            clear HYk HNk HIS HRV HW HN HY hB2
            go_wp2_with fail
            refine (HTk.out _ (hfr.alloc _)).mono ?_
            rintro e w3 ⟨rfl, hb3⟩
            have hf3 := (hfr.alloc (.cells #[.int .u8 1, .int .u16 v] 26)).trans hb3
            have hB3 := (hB.alloc (.cells #[.int .u8 1, .int .u16 v] 26)).fr hb3
            have hw3 := hf3.keep hwd
            have hgz := lt_of_cell hw3
            simp only at hgz
            clear hwd hb3 hfr hB
            go_wp2_with fail
            go_roundw
            case rel => exact ⟨1 + 1, by omega, by go_num, hf3, hB3, hNN⟩
            case measure => simp [intOf]; (try omega)
        · have hNN := Lib.hid (HNk.out (by simp [hA]))
          have hq : (nm == wd) = false := by simpa using hA
          clear HYk HNk HIS HRV HW HN HY hA
          go_wp2_with fail
          refine (HTk.out _ (hfr.alloc _)).mono ?_
          rintro e w3 ⟨rfl, hb3⟩
          have hf3 := (hfr.alloc (.cells #[.int .u8 1, .int .u16 v] 26)).trans hb3
          have hB3 := (hB.alloc (.cells #[.int .u8 1, .int .u16 v] 26)).fr hb3
          have hw3 := hf3.keep hwd
          have hgz := lt_of_cell hw3
          simp only at hgz
          clear hwd hb3 hfr hB
          go_wp2_with fail
          go_roundw
          case rel => exact ⟨1 + 1, by omega, by go_num, hf3, hB3, hNN⟩
          case measure => simp [intOf]; (try omega)
      · obtain rfl : v = 0 := by rw [hvx, if_neg h1]
        have hk1 : ((k : Int) == 1) = false := by simp; omega
        clear hvx h1
        by_cases hA : nm = wd
        · subst hA
          by_cases hB2 : tt = s
          · subst hB2
            have hRR := HYk.out (by simp)
            clear HYk HNk HIS HRV HW HN HY
            subst hRR
            go_wp2_with fail
            refine (HTk.out _ (hfr.alloc _)).mono ?_
            rintro e w3 ⟨rfl, hb3⟩
            have hf3 := (hfr.alloc (.cells #[.int .u8 k, .int .u16 0] 26)).trans hb3
            have hB3 := (hB.alloc (.cells #[.int .u8 k, .int .u16 0] 26)).fr hb3
            have x0 : w3.cell? ⟨wr.heap.size, 0, none⟩ = some (.int .u8 k) := hb3.keep (by simp)
            have x1 : w3.cell? ⟨wr.heap.size, 1, none⟩ = some (.int .u16 0) := hb3.keep (by simp)
            have hz3 := hb3.size1
            have hw3 := hf3.keep hwd
            have hgz := lt_of_cell hw3
            simp only at hgz
            clear hwd hb3 hfr hB
            go_wp2_with ((with_reducible refine wpList_here (.store 26 (.tmp 2) (.tmp 51)) rfl ?_); refine wpList_store_old 26 (.tmp 2) (.tmp 51) rfl w.heap.size _ _ rfl rfl hB3 Tryz.infoRes rfl (by simp [Value.oneCell']) rfl rfl ?_; intro w4 hR)
            exact bodyPost_ret (v := .tuple #[.agg #[.int .u8 k, .int .u16 0], .int .i64 0]) (results_res_err rfl _ _ _ rfl rfl hR.box rfl) rfl ⟨rfl, hR.fr hf3 (Nat.le_refl _)⟩
          · have hNN := Lib.hid (HNk.out (by simp [hB2]))
            have hq : (tt == s) = false := by simpa using hB2
            clear HYk HNk HIS HRV HW HN HY hB2
            go_wp2_with fail
            refine (HTk.out _ (hfr.alloc _)).mono ?_
            rintro e w3 ⟨rfl, hb3⟩
            have hf3 := (hfr.alloc (.cells #[.int .u8 k, .int .u16 0] 26)).trans hb3
            have hB3 := (hB.alloc (.cells #[.int .u8 k, .int .u16 0] 26)).fr hb3
            have hw3 := hf3.keep hwd
            have hgz := lt_of_cell hw3
            simp only at hgz
            clear hwd hb3 hfr hB
            go_wp2_with fail
            go_roundw
            case rel => exact ⟨k + 1, by omega, by go_num, hf3, hB3, hNN⟩
            case measure => simp [intOf]; (try omega)
        · have hNN := Lib.hid (HNk.out (by simp [hA]))
          have hq : (nm == wd) = false := by simpa using hA
          clear HYk HNk HIS HRV HW HN HY hA
          go_wp2_with fail
          refine (HTk.out _ (hfr.alloc _)).mono ?_
          rintro e w3 ⟨rfl, hb3⟩
          have hf3 := (hfr.alloc (.cells #[.int .u8 k, .int .u16 0] 26)).trans hb3
          have hB3 := (hB.alloc (.cells #[.int .u8 k, .int .u16 0] 26)).fr hb3
          have hw3 := hf3.keep hwd
          have hgz := lt_of_cell hw3
          simp only at hgz
          clear hwd hb3 hfr hB
          go_wp2_with fail
          go_roundw
          case rel => exact ⟨k + 1, by omega, by go_num, hf3, hB3, hNN⟩
          case measure => simp [intOf]; (try omega)
    · obtain rfl : k = 5 := by omega
      have hRR := HN.out hno.out
      clear HN HY hno
      subst hRR
      go_wp2_with ((with_reducible refine wpList_here (.store 26 (.tmp 2) (.tmp 53)) rfl ?_); refine wpList_store_old 26 (.tmp 2) (.tmp 53) rfl w.heap.size _ _ rfl rfl hB Tryz.infoRes rfl (by simp [Value.oneCell']) rfl rfl ?_; intro w3 hR)
      exact bodyPost_ret (v := .tuple #[.agg #[.int .u8 0, .int .u16 0], .int .i64 4]) (results_res_err rfl _ _ _ rfl rfl hR.box rfl) rfl ⟨rfl, hR.fr hfr (Nat.le_refl _)⟩
end Go.Proofs.YtfklgaeejmeipaaGreatDoor
