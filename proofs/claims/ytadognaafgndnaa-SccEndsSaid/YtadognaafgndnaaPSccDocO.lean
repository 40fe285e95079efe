/- Layer 28: the document's Order: its walk. No condition but the graph's bound. -/
import Derived.Test.YtadognaafgndnaaPSccReachW
set_option linter.all false
set_option linter.unusedVariables false
set_option linter.unusedSimpArgs false
set_option linter.unnecessarySimpa false
/- Layer 28: the document's Order: its walk. No condition but the graph's bound. -/
namespace Go.Proofs.Ytadognaafgndnaa
open Go.RowKit
attribute [local go_sem] Oper.semAt_some

set_option maxRecDepth 100000 in
theorem docComponentsNo_c {w : World} {v : Value} {G : List (List Int)} (hv : RdGZ w v G) (hm : mayZ G = false) :
    Calls Try.prog 15 #[v] w fun e w' => e = .returned (.tuple #[.slice none 0 0, .int .i64 2]) ∧ Fr w w' := by
  have HMY := Lib.hid (docMay_c hv)
  rw [hm] at HMY
  obtain ⟨va, vc, rfl⟩ := hv.form
  clear hv hm
  go_enter Try.func15, Try.ntmps15
  go_wp2_with fail
  refine HMY.out.mono ?_
  rintro e w1 ⟨rfl, hf⟩
  have HF := Lib.hid hf
  clear hf HMY
  go_wp2_with fail
  go_ret2
  exact ⟨rfl, HF.out⟩
set_option maxRecDepth 100000 in
theorem docOrderNo_c {w : World} {v : Value} {G : List (List Int)} (hv : RdGZ w v G) (hm : mayZ G = false) :
    Calls Try.prog 12 #[v] w fun e w' => e = .returned (.tuple #[.slice none 0 0, .int .i64 2]) ∧ Fr w w' := by
  have HG := Lib.hid (docComponentsNo_c hv hm)
  obtain ⟨va, vc, rfl⟩ := hv.form
  clear hv hm
  go_enter Try.func12, Try.ntmps12
  go_wp2_with fail
  refine HG.out.mono ?_
  rintro e w1 ⟨rfl, hf⟩
  have HF := Lib.hid hf
  clear hf HG
  go_wp2_with fail
  go_ret2
  exact ⟨rfl, HF.out⟩
/-- The document's search begins. -/
theorem DMem.start (w : World) (vN vA : Value) (n : Nat) :
    DMem w ((w.alloc (.cells (madeCells #[.int .i64 0] n) 3)).alloc (.cells #[vN, vA, .slice (some ⟨w.heap.size, 0, none⟩) n n, .slice none 0 0] 45)) (w.heap.size + 1) w.heap.size vN vA (.slice none 0 0) n ⟨fun _ => false, []⟩ := by
  have hN : BoxAt (w.alloc (.cells (madeCells #[.int .i64 0] n) 3)) w.heap.size (madeCells #[.int .i64 0] n) 3 := BoxAt.new' _ _ _ _ rfl
  have hN2 := hN.alloc (.cells #[vN, vA, .slice (some ⟨w.heap.size, 0, none⟩) n n, .slice none 0 0] 45)
  have hS : BoxAt ((w.alloc (.cells (madeCells #[.int .i64 0] n) 3)).alloc (.cells #[vN, vA, .slice (some ⟨w.heap.size, 0, none⟩) n n, .slice none 0 0] 45)) (w.heap.size + 1) #[vN, vA, .slice (some ⟨w.heap.size, 0, none⟩) n n, .slice none 0 0] 45 := BoxAt.new' _ _ _ _ (by simp)
  refine ⟨((Fr.refl w).alloc _).alloc _, hS.cel 0 rfl, hS.cel 1 rfl, hS.cel 2 rfl, hS.cel 3 rfl, fun i hi => hN2.cel _ (made_at hi), World.ownsRow_nil _ _ _ _, by simp, fun x hx => (by cases hx), by omega, fun e => (by cases e), fun e => (by cases e), Nat.le_succ _, Nat.le_refl _⟩
set_option maxRecDepth 100000 in
set_option maxHeartbeats 4000000 in
theorem docOrder_c {w : World} {v : Value} {G : List (List Int)} (hv : RdGZ w v G) (hb : G.length ≤ 5864062014634) (hm : mayZ G = true) :
    Calls Try.prog 12 #[v] w fun e w' => ∃ vo, e = .returned (.tuple #[vo, .int .i64 0]) ∧ RdI w' vo (docOrder (natG G)) ∧ Fr w w' := by
  have HC := Lib.hid (docComponents_c hv hb hm)
  have hG := natG_may hm
  have hnl := natG_length G
  have hci := docComps_is hG
  have hcl : (docComps (natG G)).length = (natG G).length := by rw [hci, compsOf_length]
  have hcb : ∀ x ∈ docComps (natG G), x < (natG G).length := by
    rw [hci]
    intro x hx
    obtain ⟨i, hi, rfl⟩ := List.mem_map.1 hx
    have h1 := ((parts_of (groupsOf_is hG)).at_ (List.mem_range.1 hi)).1
    have h2 := (groups_len hG).1
    rw [sortG_length] at h1
    omega
  have HN := Lib.hid (hv.nat hm)
  have HFR : Hid (∀ w1 vN vA, RdGr w1 vN (natG G) → RdI w1 vA (docComps (natG G)) → ∀ q gm, DFromOk (natG G) (fun v => (docComps (natG G)).getD v 0) q gm vN vA w1 (natG G).length) := Lib.hid (fun w1 vN vA h1 h2 q gm => docFrom_c hG h1 h2 hcl (by rw [hnl]; exact hb) hcb _)
  have HDO : Hid (docOrder (natG G) = (dTo (natG G) (fun v => (docComps (natG G)).getD v 0) (natG G).length).out) := Lib.hid rfl
  obtain ⟨va, vc, rfl⟩ := hv.form
  rw [← hnl] at hb HC HN ⊢
  clear hv hm hG hnl hci hcl hcb
  generalize docOrder (natG G) = O at HDO ⊢
  generalize docComps (natG G) = CL at HC HFR HDO
  generalize natG G = N at hb HC HN HFR HDO ⊢
  have hmk := mk_ints N.length hb
  go_enter Try.func12, Try.ntmps12
  go_wp2_with fail
  refine HC.out.mono ?_
  rintro e w1 ⟨vA, rfl, hrd, hf⟩
  have HF1 := Lib.hid hf
  have HFR1 := Lib.hid (HFR.out w1 _ vA (HN.out.fr hf) hrd)
  have HS := Lib.hid (DMem.start w1 (.slice va N.length vc) vA N.length)
  obtain ⟨aa, ac, rfl, _⟩ := hrd
  clear hf HC HFR HN
  go_wp2_with fail
  generalize hCC : (fun v => CL.getD v 0) = C at HFR1 HDO
  clear hCC hmk
  go_loopw [7] (fun vi wr => ∃ i : Nat, i ≤ N.length ∧ vi = .int .i64 i ∧ Hid (∃ vO, DMem w1 wr (w1.heap.size + 1) w1.heap.size (.slice va N.length vc) (.slice aa CL.length ac) vO N.length (dTo N C i))) (fun vi _ => N.length - (intOf vi).toNat)
  case atStart => exact ⟨0, Nat.zero_le _, rfl, _, HS.out⟩
  case round =>
    obtain ⟨i, hi, rfl, HR⟩ := hrel
    clear HS
    obtain ⟨vO, hM⟩ := HR.out
    have HM := Lib.hid hM
    clear hM HR
    have lq := HM.out.c2.lt
    by_cases hit : i < N.length
    · have c2 := HM.out.c2.1
      have hmx := (HM.out.met i hit).1
      have lgm := (HM.out.met i hit).lt
      have HD : Hid (dTo N C (i + 1) = if (dTo N C i).met i then dTo N C i else dfrom N C N.length (dTo N C i) i) := Lib.hid rfl
      unfold zV bitV at hmx
      cases hmet : (dTo N C i).met i
      · rw [hmet] at HD hmx
        have hmx : wr.cell? ⟨w1.heap.size, i, none⟩ = some (.int .i64 0) := by simpa using hmx
        have HCL := Lib.hid (HFR1.out (w1.heap.size + 1) w1.heap.size wr vO (dTo N C i) i HM.out hit hmet (by
          have := List.length_filter_le (fun v => !(dTo N C i).met v) (List.range N.length)
          rw [List.length_range] at this
          exact this))
        clear hmet
        go_wp2_with fail
        refine HCL.out.mono ?_
        rintro e w2 ⟨rfl, vO2, hM2⟩
        have HN : Hid (∃ vO, DMem w1 w2 (w1.heap.size + 1) w1.heap.size (.slice va N.length vc) (.slice aa CL.length ac) vO N.length (dTo N C (i + 1))) := Lib.hid ⟨vO2, by rw [HD.out]; exact hM2⟩
        clear hM2 HCL HM HD
        go_wp2_with fail
        go_roundw
        case rel => exact ⟨i + 1, by omega, by go_num, HN⟩
        case measure => first | (simp [intOf]; done) | (simp [intOf]; omega)
      · rw [hmet] at HD hmx
        have hmx : wr.cell? ⟨w1.heap.size, i, none⟩ = some (.int .i64 1) := by simpa using hmx
        have HN : Hid (∃ vO, DMem w1 wr (w1.heap.size + 1) w1.heap.size (.slice va N.length vc) (.slice aa CL.length ac) vO N.length (dTo N C (i + 1))) := Lib.hid ⟨vO, by rw [HD.out]; exact HM.out⟩
        clear hmet HM HD
        go_wp2_with fail
        go_roundw
        case rel => exact ⟨i + 1, by omega, by go_num, HN⟩
        case measure => first | (simp [intOf]; done) | (simp [intOf]; omega)
    · obtain rfl : i = N.length := by omega
      have c3 := HM.out.c3.1
      have HE := Lib.hid (And.intro (RdI.own HM.out.out) (HF1.out.trans HM.out.frm))
      go_wp2_with fail
      go_ret2
      exact ⟨vO, rfl, by rw [HDO.out]; exact HE.out.1, HE.out.2⟩
end Go.Proofs.Ytadognaafgndnaa
