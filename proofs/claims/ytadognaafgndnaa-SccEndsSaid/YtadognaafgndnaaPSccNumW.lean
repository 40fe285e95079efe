/- Layer 28: scc.number: its walk. No condition but bounds. -/
import Derived.Test.YtadognaafgndnaaPSccOwn
import Derived.Test.YtadognaafgndnaaPSccNum
set_option linter.all false
set_option linter.unusedVariables false
set_option linter.unusedSimpArgs false
set_option linter.unnecessarySimpa false
/- Layer 28: scc.number: its walk. No condition but bounds. -/
namespace Go.Proofs.Ytadognaafgndnaa
open Go.RowKit
attribute [local go_sem] Oper.semAt_some

theorem putG_succ (f : Nat → Nat) (k : Nat) {g : List Nat} {j : Nat} (hj : j < g.length) (i : Nat) : putG f k (g.take (j + 1)) i = if i = g[j] then k else putG f k (g.take j) i := by
  unfold putG
  rw [List.take_succ_eq_append_getElem hj]
  by_cases h : i = g[j]
  · rw [if_pos h, if_pos (by rw [h]; exact List.mem_append_right _ (List.mem_singleton.2 rfl))]
  · rw [if_neg h]
    have : i ∈ g.take j ++ [g[j]] ↔ i ∈ g.take j := by rw [List.mem_append, List.mem_singleton]; exact ⟨fun h2 => h2.resolve_right h, .inl⟩
    by_cases h2 : i ∈ g.take j
    · rw [if_pos (this.2 h2), if_pos h2]
    · rw [if_neg (fun h3 => h2 (this.1 h3)), if_neg h2]
set_option maxRecDepth 100000 in
set_option maxHeartbeats 2000000 in
theorem number_c {w : World} {v : Value} {S : List (List Nat)} {n : Nat} (hv : RdGr w v S) (hn : n ≤ 5864062014634) (hS : ∀ g ∈ S, ∀ a ∈ g, a < n) (hl : S.length ≤ 5864062014634) :
    Calls Try.prog 26 #[.int .i64 n, v] w fun e w' => ∃ vo, e = .returned vo ∧ RdI w' vo ((List.range n).map (numTo S S.length)) ∧ Fr w w' := by
  obtain ⟨va, vc, rfl, hvc, hx⟩ := hv
  have HX := Lib.hid hx
  have HS := Lib.hid hS
  have hmk := mk_ints n hn
  have HC0 : Hid (Fr w (w.alloc (.cells (madeCells #[.int .i64 0] n) 3)) ∧ w.heap.size < (w.alloc (.cells (madeCells #[.int .i64 0] n) 3)).heap.size ∧ ∀ i, i < n → Cel (w.alloc (.cells (madeCells #[.int .i64 0] n) 3)) w.heap.size i (intV (numTo S 0 i))) :=
    Lib.hid ⟨(Fr.refl w).alloc _, by simp, fun i hi => (BoxAt.new' w _ _ _ rfl).cel i (made_at hi)⟩
  clear hx hS
  go_enter Try.func26, Try.ntmps26
  go_wp2_with fail
  go_loopw [14] (fun vi wr => ∃ k : Nat, k ≤ S.length ∧ vi = .int .i64 k ∧ Hid (Fr w wr ∧ w.heap.size < wr.heap.size ∧ ∀ i, i < n → Cel wr w.heap.size i (intV (numTo S k i)))) (fun vi _ => S.length - (intOf vi).toNat)
  case atStart => exact ⟨0, Nat.zero_le _, rfl, HC0⟩
  case round =>
    obtain ⟨k, hk, rfl, HR⟩ := hrel
    clear hmk HC0
    by_cases hkt : k < S.length
    · obtain ⟨b, o, u, rfl, hc, ⟨ua, uc, rfl, huc, hu⟩, hul⟩ := HX.out k hkt
      have hc := HR.out.1.keep hc
      have lb := lt_of_cell hc
      simp only at lb
      have HT : Hid (numTo S (k + 1) = putG (numTo S k) k S[k]) := Lib.hid (by
        show putG (numTo S k) k (S.getD k []) = _
        rw [List.getD_eq_getElem?_getD, List.getElem?_eq_getElem hkt]; rfl)
      have HG := Lib.hid (HS.out _ (List.getElem_mem hkt))
      have HU := Lib.hid hu
      clear hu
      generalize S[k] = g at HT HG HU huc hul hc
      have HR0 : Hid (Fr w wr ∧ w.heap.size < wr.heap.size ∧ ∀ i, i < n → Cel wr w.heap.size i (intV (putG (numTo S k) k (g.take 0) i))) := Lib.hid ⟨HR.out.1, HR.out.2.1, fun i hi => HR.out.2.2 i hi⟩
      go_wp2_with fail
      clear hc lb HR
      go_loopw [21] (fun vj wr => ∃ j : Nat, j ≤ g.length ∧ vj = .int .i64 j ∧ Hid (Fr w wr ∧ w.heap.size < wr.heap.size ∧ ∀ i, i < n → Cel wr w.heap.size i (intV (putG (numTo S k) k (g.take j) i)))) (fun vj _ => g.length - (intOf vj).toNat)
      case atStart => exact ⟨0, Nat.zero_le _, rfl, HR0⟩
      case round =>
        obtain ⟨j, hj, rfl, HI⟩ := hrel
        clear HR0
        by_cases hjt : j < g.length
        · obtain ⟨q, p, rfl, hz⟩ := HU.out j hjt
          have hz := HI.out.1.keep hz
          have lq := lt_of_cell hz
          simp only at lq
          have hgn := HG.out _ (List.getElem_mem hjt)
          have hC := HI.out.2.2 _ hgn
          have c1 := hC.1
          have f1 := hC.2
          have l1 := hC.lt
          have HP := Lib.hid (fun i => putG_succ (numTo S k) k hjt i)
          clear hC
          unfold intV at hz c1
          generalize g[j] = a at hz c1 f1 hgn HP
          have HN : Hid (Fr w (wr.setCell ⟨w.heap.size, a, none⟩ (.int .i64 (k : Nat))) ∧ w.heap.size < (wr.setCell ⟨w.heap.size, a, none⟩ (.int .i64 (k : Nat))).heap.size ∧ ∀ i, i < n → Cel (wr.setCell ⟨w.heap.size, a, none⟩ (.int .i64 (k : Nat))) w.heap.size i (intV (putG (numTo S k) k (g.take (j + 1)) i))) := Lib.hid (by
            refine ⟨((Chg.refl (fun b => b = w.heap.size) wr).set (p := ⟨w.heap.size, a, none⟩) (.inr rfl) _).fr HI.out.1 (fun b hb => by rw [hb]; exact Nat.le_refl _), by simpa using HI.out.2.1, fun i hi => ?_⟩
            rw [HP.out i]
            by_cases e : i = a
            · subst e; rw [if_pos rfl]; exact (HI.out.2.2 i hi).set _
            · rw [if_neg e]; exact (HI.out.2.2 i hi).keepSet (.inr e) _)
          clear HP HI
          go_wp2_with fail
          go_roundw
          case rel => exact ⟨j + 1, by omega, by go_num, HN⟩
          case measure => first | (simp [intOf]; done) | (simp [intOf]; omega)
        · obtain rfl : j = g.length := by omega
          have HN : Hid (Fr w wr ∧ w.heap.size < wr.heap.size ∧ ∀ i, i < n → Cel wr w.heap.size i (intV (numTo S (k + 1) i))) := Lib.hid (by
            have h := HI.out
            rw [List.take_length] at h
            rw [HT.out]; exact h)
          clear HI HT
          go_wp2_with fail
          go_roundw
          case rel => exact ⟨k + 1, by omega, by go_num, HN⟩
          case measure => first | (simp [intOf]; done) | (simp [intOf]; omega)
    · obtain rfl : k = S.length := by omega
      go_wp2_with fail
      go_ret
      refine ⟨_, rfl, ⟨some ⟨w.heap.size, 0, none⟩, n, by simp, by simp, fun i hi => ?_⟩, HR.out.1⟩
      have hi' : i < n := by simpa using hi
      refine ⟨_, 0, rfl, ?_⟩
      rw [Nat.zero_add, (HR.out.2.2 i hi').1]
      simp
end Go.Proofs.Ytadognaafgndnaa
