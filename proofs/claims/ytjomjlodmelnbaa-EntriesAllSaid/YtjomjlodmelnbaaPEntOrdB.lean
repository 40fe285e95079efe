/- Layer 16: table.Before; EntriesOrder where it only asks works. No condition but how many rows there are. -/
import Derived.Test.YtjomjlodmelnbaaPEntLaw
set_option linter.all false
set_option linter.unusedVariables false
set_option linter.unusedSimpArgs false
set_option linter.unnecessarySimpa false
/- Layer 16: table.Before; EntriesOrder where it only asks works. No condition but how many rows there are. -/
namespace Go.Proofs.Ytjomjlodmelnbaa
open Go.RowKit Go.Sort
attribute [local go_sem] Oper.semAt_some

set_option maxRecDepth 100000 in
theorem before_c (a b : TRow) (w : World) : Calls Try.prog 10 #[.agg a.cells.toArray, .agg b.cells.toArray] w fun e w' => e = .returned (.bool (beforeB a.e b.e)) ∧ Fr w w' := by
  by_cases h1 : a.st = 1
  · have hz : ((a.st : Int) == 1) = true := by simp [h1]
    by_cases h2 : a.to < b.frm
    · have HB : Hid (beforeB a.e b.e = true) := by refine Lib.hid ?_; unfold beforeB ERow.done TRow.e; simp [h1, h2]
      unfold TRow.cells
      go_enter Try.func10, Try.ntmps10
      go_wp2_with fail
      go_ret
      exact ⟨by rw [HB.out]; rfl, ((Fr.refl _).alloc _).alloc _⟩
    · have HB : Hid (beforeB a.e b.e = false) := by refine Lib.hid ?_; unfold beforeB ERow.done TRow.e; simp [h2]
      unfold TRow.cells
      go_enter Try.func10, Try.ntmps10
      go_wp2_with fail
      go_ret
      exact ⟨by rw [HB.out]; rfl, ((Fr.refl _).alloc _).alloc _⟩
  · have hz : ((a.st : Int) == 1) = false := by simp; omega
    have HB : Hid (beforeB a.e b.e = false) := by refine Lib.hid ?_; unfold beforeB ERow.done TRow.e; simp [h1]
    unfold TRow.cells
    go_enter Try.func10, Try.ntmps10
    go_wp2_with fail
    go_ret
    exact ⟨by rw [HB.out]; rfl, ((Fr.refl _).alloc _).alloc _⟩
set_option maxRecDepth 100000 in
set_option maxHeartbeats 8000000 in
theorem orderOff_c (l : List TRow) (v : Value) (cs : List Nat) (u : Value) (w : World) (hl : RdT w v l) (hn : l.length ≤ 3518437208780) (hu : RdU w u cs) (h : 20 < l.length ∨ mayRows (eRows l) = false) :
    Calls Try.prog 4 #[v, u] w fun e w' => e = .returned (.bool true) ∧ Fr w w' := by
  have HW := Lib.hid (fun W => works16_c W)
  have HN := Lib.hid (fun (W : World) (f : Fr w W) => newAny_c l v W (hl.keep f) hn)
  have HM := Lib.hid (fun (hm : mayRows (eRows l) = false) (W : World) (f : Fr w W) => newNo_c l v W (hl.keep f) hn hm)
  obtain ⟨a, cap, rfl, hcap, hmax, _⟩ := id hl
  obtain ⟨b, cb, rfl, hcb, _⟩ := id hu
  unfold maxLen at hmax
  clear hl hu
  by_cases h1 : 20 < l.length
  · have h1i : (20 : Int) < (l.length : Int) := by omega
    clear h HM
    go_enter Try.func4, Try.ntmps4
    go_wp2_with fail
    refine (HN.out _ (Fr.refl _)).mono ?_
    rintro e w1 ⟨p, rfl, hf1⟩
    go_wp2_with fail
    refine (HW.out _).mono ?_
    rintro e w3 ⟨rfl, hf3⟩
    go_wp2_with fail
    go_ret
    exact ⟨rfl, hf1.trans hf3⟩
  · have h1i : ¬ (20 : Int) < (l.length : Int) := by omega
    have HM2 := Lib.hid (HM.out (h.resolve_left h1))
    clear h HM
    go_enter Try.func4, Try.ntmps4
    go_wp2_with fail
    refine (HM2.out _ (Fr.refl _)).mono ?_
    rintro e w1 ⟨rfl, hf1⟩
    go_wp2_with fail
    refine (HW.out _).mono ?_
    rintro e w3 ⟨rfl, hf3⟩
    go_wp2_with fail
    go_ret
    exact ⟨rfl, hf1.trans hf3⟩
set_option maxRecDepth 100000 in
set_option maxHeartbeats 8000000 in
theorem allOff_c (l : List TRow) (v : Value) (cs : List Nat) (u : Value) (w : World) (hl : RdT w v l) (hn : l.length ≤ 3518437208780) (hu : RdU w u cs) (h : 20 < l.length ∨ mayRows (eRows l) = false) :
    Calls Try.prog 3 #[v, u] w fun e w' => e = .returned (.bool true) ∧ Fr w w' := by
  have HW := Lib.hid (fun W => works16_c W)
  have HN := Lib.hid (fun (W : World) (f : Fr w W) => newAny_c l v W (hl.keep f) hn)
  have HM := Lib.hid (fun (hm : mayRows (eRows l) = false) (W : World) (f : Fr w W) => newNo_c l v W (hl.keep f) hn hm)
  obtain ⟨a, cap, rfl, hcap, hmax, _⟩ := id hl
  obtain ⟨b, cb, rfl, hcb, _⟩ := id hu
  unfold maxLen at hmax
  clear hl hu
  by_cases h1 : 20 < l.length
  · have h1i : (20 : Int) < (l.length : Int) := by omega
    clear h HM
    go_enter Try.func3, Try.ntmps3
    go_wp2_with fail
    refine (HN.out _ (Fr.refl _)).mono ?_
    rintro e w1 ⟨p, rfl, hf1⟩
    go_wp2_with fail
    refine (HW.out _).mono ?_
    rintro e w3 ⟨rfl, hf3⟩
    go_wp2_with fail
    go_ret
    exact ⟨rfl, hf1.trans hf3⟩
  · have h1i : ¬ (20 : Int) < (l.length : Int) := by omega
    have HM2 := Lib.hid (HM.out (h.resolve_left h1))
    clear h HM
    go_enter Try.func3, Try.ntmps3
    go_wp2_with fail
    refine (HM2.out _ (Fr.refl _)).mono ?_
    rintro e w1 ⟨rfl, hf1⟩
    go_wp2_with fail
    refine (HW.out _).mono ?_
    rintro e w3 ⟨rfl, hf3⟩
    go_wp2_with fail
    go_ret
    exact ⟨rfl, hf1.trans hf3⟩
end Go.Proofs.Ytjomjlodmelnbaa

/- umpirelaw16.EntriesOrder: the law's walk. No condition but how many rows there are. -/
namespace Go.Proofs.Ytjomjlodmelnbaa
open Go.RowKit Go.Sort
attribute [local go_sem] Oper.semAt_some

theorem liftOf_yes {rs : List ERow} {up : List Nat} {i : Nat} (h : isNext rs up i) : liftOf rs up (i : Int) = (0, up ++ [i]) := by
  unfold liftOf
  rw [if_pos ⟨by omega, by have := h.2.1; omega⟩, Int.toNat_natCast, if_neg h.1]
set_option maxRecDepth 100000 in
set_option maxHeartbeats 16000000 in
theorem orderOn_c (l : List TRow) (v : Value) (cs : List Nat) (u : Value) (w : World) (hl : RdT w v l) (hn : l.length ≤ 20) (hu : RdU w u cs) (hcs : cs.length ≤ maxLen) (hm : mayRows (eRows l) = true) :
    Calls Try.prog 4 #[v, u] w fun e w' => e = .returned (.bool true) ∧ Fr w w' := by
  have HW := Lib.hid (fun W => works16_c W)
  have HY := Lib.hid (fun (W : World) (f : Fr w W) => newYes_c (base := w.heap.size) l v W (hl.keep f) (by omega) hm f.size)
  have HU := Lib.hid hu
  have HLR := Lib.hid hl
  have HMR := Lib.hid hm
  have HB := Lib.hid before_c
  have HLEN := Lib.hid (eRows_len l)
  obtain ⟨a, cap, rfl, hcap, hmax, _⟩ := id hl
  unfold maxLen at hmax hcs
  clear hl hm
  obtain ⟨b, cb, rfl, hcb, _⟩ := id hu
  clear hu
  have h1i : ¬ (20 : Int) < (l.length : Int) := by omega
  go_enter Try.func4, Try.ntmps4
  go_wp2_with fail
  refine (HY.out _ (Fr.refl _)).mono ?_
  rintro e w1 ⟨hf1, x, Zx, rfl, hLx, hZx⟩
  have HO : Hid (One w w1 x (eRows l) [] (.slice none 0 0) []) := ⟨Zx, hf1, hLx, World.ownsRow_nil _ _ _ _, fun g hg => by cases hg⟩
  clear hLx hZx hf1 HY
  go_wp2_with fail
  go_loopw [6, 7] (fun vo vn wr => ∃ (up : List Nat) (oa : Option Addr) (oc : Nat), up.length ≤ l.length ∧ vo = .slice oa up.length oc ∧ vn = .int .i64 up.length ∧ Hid (One w wr x (eRows l) up (.slice oa up.length oc) up ∧ GoodUp (eRows l) up)) (fun _ vn _ => l.length - (intOf vn).toNat)
  case atStart => exact ⟨[], none, 0, Nat.zero_le _, rfl, rfl, ⟨HO.out, GoodUp.nil _⟩⟩
  case round =>
    clear HO
    obtain ⟨up, oa, oc, hk, rfl, rfl, HO⟩ := hrel
    by_cases hlt : up.length < l.length
    · obtain ⟨Z, HZ⟩ := HO.out.1.z
      have HZ := Lib.hid HZ
      have HN := Lib.hid (next_c HZ.out.2.1.at_)
      have HG := Lib.hid HO.out.2
      clear HO
      go_wp2_with fail
      refine HN.out.mono ?_
      rintro e w2 ⟨v2, rfl, hO2, hf2⟩
      have hse : ∀ g, v2.ownBlock = some g → ¬ Z g := fun g hg hz => by
        have h1 := HZ.out.2.1.lt g hz
        have h2 := (World.ownsRow.lt hO2 g hg).1
        omega
      have HZ := Lib.hid (HZ.out.fr hf2)
      have hne : nexts (eRows l) up ≠ [] := by
        obtain ⟨i, hi, hu⟩ := some_out (n := (eRows l).length) (l := up) (by rw [HLEN.out]; exact hlt)
        exact nexts_some HMR.out hi hu
      have HLN : Hid (∀ i ∈ nexts (eRows l) up, isNext (eRows l) up i) := fun i hi => mem_nexts.1 hi
      have hL20 : (nexts (eRows l) up).length ≤ 20 := Nat.le_trans (nexts_len _ _) (by rw [HLEN.out]; exact hn)
      generalize nexts (eRows l) up = L at hO2 hne HLN hL20 ⊢
      have hL0 : 0 < L.length := List.length_pos_iff.2 hne
      obtain ⟨va2, vc2, rfl, hlc, hg2⟩ := ints_form hO2
      have HG2 := Lib.hid hg2
      have HO2 := Lib.hid hO2
      have HSE := Lib.hid hse
      have hLz : ((L.length : Int) == 0) = false := by rw [beqN0]; exact decide_eq_false (by omega)
      clear hO2 hg2 hse hne hf2 HN
      by_cases hc0 : cs.length = 0
      · have hc0i : ¬ (0 : Int) < (cs.length : Int) := by omega
        clear hc0
        have hj : 0 < L.length := hL0
        obtain ⟨i, hi⟩ : ∃ i, L[0] = i := ⟨_, rfl⟩
        have hni := HLN.out L[0] (List.getElem_mem hj)
        obtain ⟨g, hg1, hcg⟩ := HG2.out 0 hj
        rw [hi] at hni hcg
        have HII := Lib.hid hi
        have hli := lift16_c HZ.out.2.1 HZ.out.1.size (i : Int)
        unfold LiftQ at hli
        rw [liftOf_yes hni] at hli
        have HLI := Lib.hid hli
        have HNI := Lib.hid hni
        subst hg1
        unfold intV at hcg
        have lg := lt_of_cell hcg
        simp only at lg
        clear hi hni hli
        go_wp2_with fail
        refine HLI.out.mono ?_
        rintro e w4 ⟨rfl, hT⟩
        obtain ⟨hO4, hk4⟩ := HZ.out.turned hT
        have hL4 := hk4 _ _ _ HO2.out HSE.out
        have h5 : w4.cell? ⟨g, 0, none⟩ = some (.int .i64 i) := by
          obtain ⟨a', c', e1, _, h4⟩ := ints_form hL4
          cases e1
          obtain ⟨g', e2, h5⟩ := h4 0 hj
          cases e2
          rw [HII.out] at h5
          exact h5
        have lg4 := lt_of_cell h5
        simp only at lg4
        have hown : (w4.alloc (.cells #[.int .i64 i] 3)).ownsRow w.heap.size 3 1 (.slice oa up.length oc) up.length (up.map intV) := (hO4.fr ((Fr.refl _).alloc _)).z.choose_spec.2.2.1
        have hy : (w4.alloc (.cells #[.int .i64 i] 3)).cell? ⟨w4.heap.size, 0, none⟩ = some (intV i) := (BoxAt.new' w4 #[.int .i64 i] 3 _ (by simp)).at 0 rfl
        have hsz : w.heap.size ≤ (w4.alloc (.cells #[.int .i64 i] 3)).heap.size := (hO4.z.choose_spec.1.alloc _).size
        have HO4 := Lib.hid hO4
        clear hT hO4 hk4 hL4 hcg lg HLI HZ HG2 HSE HO2
        go_wp2_with (at_builtin; refine wpList_appendInt (base := w.heap.size) rfl (.tmp 63) (.tmp 68) rfl (.slice oa up.length oc) up rfl hown hsz w4.heap.size 1 i rfl hy (by omega) ?_)
        intro va vn vc w5 hO5a hch5 hat5
        have hO5 : w5.ownsRow w.heap.size 3 1 (.slice va vn vc) (up ++ [i]).length ((up ++ [i]).map intV) := by simpa using hO5a
        have hO6 : Hid (One w w5 x (eRows l) (up ++ [i]) (.slice va vn vc) (up ++ [i])) := HO4.out.append ((Fr.refl _).alloc _) hch5 hO5 (fun g hg => (hat5 g hg).imp id (fun e => by omega))
        obtain ⟨_, _, e5⟩ := ints_at hO5
        cases e5
        clear hO5 hO5a hch5 hat5 hown hy hsz HO4 h5 lg4
        go_wp2_with fail
        go_roundw
        case rel => exact ⟨up ++ [i], va, vc, by simp; omega, rfl, by simp, ⟨hO6.out, HG.out.snoc HNI.out⟩⟩
        case measure => first | (simp [intOf]; done) | (simp [intOf]; omega)
      · have hc0i : (0 : Int) < (cs.length : Int) := by omega
        obtain ⟨jj, hjj⟩ : ∃ jj, jj = min up.length (cs.length - 1) := ⟨_, rfl⟩
        have hjl : jj < cs.length := by omega
        have hmin : min (up.length : Int) ((cs.length : Int) - 1) = (jj : Nat) := by omega
        obtain ⟨hub, hcell⟩ := (show (∀ b ∈ cs, b < 256) ∧ _ from by obtain ⟨_, _, h1, _, h2, h3⟩ := HU.out; cases h1; exact ⟨h2, h3⟩)
        obtain ⟨gc, o, rfl, hgc⟩ := hcell jj hjl
        have hgc := HZ.out.1.keep hgc
        have lgc := lt_of_cell hgc
        simp only at lgc
        have h256 := hub cs[jj] (List.getElem_mem hjl)
        clear hcell hub hjj
        generalize cs[jj] = c at hgc h256
        have hj : c % L.length < L.length := Nat.mod_lt _ hL0
        obtain ⟨i, hi⟩ : ∃ i, L[c % L.length] = i := ⟨_, rfl⟩
        have hni := HLN.out L[c % L.length] (List.getElem_mem hj)
        obtain ⟨g, hg1, hcg⟩ := HG2.out (c % L.length) hj
        rw [hi] at hni hcg
        have HII := Lib.hid hi
        have hli := lift16_c HZ.out.2.1 HZ.out.1.size (i : Int)
        unfold LiftQ at hli
        rw [liftOf_yes hni] at hli
        have HLI := Lib.hid hli
        have HNI := Lib.hid hni
        subst hg1
        unfold intV at hcg
        have lg := lt_of_cell hcg
        simp only at lg
        clear hi hni hli
        go_wp2_with fail
        refine HLI.out.mono ?_
        rintro e w4 ⟨rfl, hT⟩
        obtain ⟨hO4, hk4⟩ := HZ.out.turned hT
        have hL4 := hk4 _ _ _ HO2.out HSE.out
        have h5 : w4.cell? ⟨g, (c % L.length), none⟩ = some (.int .i64 i) := by
          obtain ⟨a', c', e1, _, h4⟩ := ints_form hL4
          cases e1
          obtain ⟨g', e2, h5⟩ := h4 (c % L.length) hj
          cases e2
          rw [HII.out] at h5
          exact h5
        have lg4 := lt_of_cell h5
        simp only at lg4
        have hown : (w4.alloc (.cells #[.int .i64 i] 3)).ownsRow w.heap.size 3 1 (.slice oa up.length oc) up.length (up.map intV) := (hO4.fr ((Fr.refl _).alloc _)).z.choose_spec.2.2.1
        have hy : (w4.alloc (.cells #[.int .i64 i] 3)).cell? ⟨w4.heap.size, 0, none⟩ = some (intV i) := (BoxAt.new' w4 #[.int .i64 i] 3 _ (by simp)).at 0 rfl
        have hsz : w.heap.size ≤ (w4.alloc (.cells #[.int .i64 i] 3)).heap.size := (hO4.z.choose_spec.1.alloc _).size
        have HO4 := Lib.hid hO4
        clear hT hO4 hk4 hL4 hcg lg HLI HZ HG2 HSE HO2
        go_wp2_with (at_builtin; refine wpList_appendInt (base := w.heap.size) rfl (.tmp 63) (.tmp 68) rfl (.slice oa up.length oc) up rfl hown hsz w4.heap.size 1 i rfl hy (by omega) ?_)
        intro va vn vc w5 hO5a hch5 hat5
        have hO5 : w5.ownsRow w.heap.size 3 1 (.slice va vn vc) (up ++ [i]).length ((up ++ [i]).map intV) := by simpa using hO5a
        have hO6 : Hid (One w w5 x (eRows l) (up ++ [i]) (.slice va vn vc) (up ++ [i])) := HO4.out.append ((Fr.refl _).alloc _) hch5 hO5 (fun g hg => (hat5 g hg).imp id (fun e => by omega))
        obtain ⟨_, _, e5⟩ := ints_at hO5
        cases e5
        clear hO5 hO5a hch5 hat5 hown hy hsz HO4 h5 lg4
        go_wp2_with fail
        go_roundw
        case rel => exact ⟨up ++ [i], va, vc, by simp; omega, rfl, by simp, ⟨hO6.out, HG.out.snoc HNI.out⟩⟩
        case measure => first | (simp [intOf]; done) | (simp [intOf]; omega)
    · have hkn : up.length = l.length := by omega
      have hupl := HO.out.1.z.choose_spec.2.1.ups
      have hall : ∀ i, i < (eRows l).length → i ∈ up := fun i hi => all_in hupl.1 hupl.2 (by rw [HLEN.out]; omega) hi
      have hnx := nexts_all hall
      have hlo := leftOf_all hall
      have HBE : Hid (∀ (i k : Nat) (hik : i < k) (hk : k < up.length), up[i]'(by omega) ≠ up[k] ∧ ∃ (a : up[k] < l.length) (b : up[i]'(by omega) < l.length), beforeB l[up[k]].e (l[up[i]'(by omega)]).e = false) := fun i k hik hk => by
        obtain ⟨h1, h2⟩ := HO.out.2.before hupl.1 hik hk
        have b1 := hupl.2 up[k] (List.getElem_mem hk)
        have b2 := hupl.2 (up[i]'(by omega)) (List.getElem_mem (by omega))
        have h3 := h2 b1 b2
        rw [HLEN.out] at b1 b2
        rw [eRows_at l b1, eRows_at l b2] at h3
        exact ⟨h1, b1, b2, h3⟩
      have HOO := Lib.hid HO.out.1
      have HNX := Lib.hid hnx
      have HLO := Lib.hid hlo
      clear hupl hall hnx hlo HO HMR hlt
      go_wp2_with fail
      go_loopw [11] (fun vi wr => ∃ i : Nat, i ≤ up.length ∧ vi = .int .i64 i ∧ Hid (One w wr x (eRows l) up (.slice oa up.length oc) up)) (fun vi _ => up.length - (intOf vi).toNat)
      case atStart => exact ⟨0, Nat.zero_le _, rfl, HOO⟩
      case round =>
        clear HOO
        obtain ⟨i, hi, rfl, HOO⟩ := hrel
        by_cases hit : i < up.length
        · go_wp2_with fail
          go_loopw [12] (fun vk wr => ∃ k : Nat, i < k ∧ k ≤ up.length ∧ vk = .int .i64 k ∧ Hid (One w wr x (eRows l) up (.slice oa up.length oc) up)) (fun vk _ => up.length - (intOf vk).toNat)
          case atStart => exact ⟨i + 1, by omega, by omega, by go_num, HOO⟩
          case round =>
            clear HOO
            obtain ⟨k, hik, hku, rfl, HOO⟩ := hrel
            by_cases hkt : k < up.length
            · obtain ⟨hpq, hp, hq, hbf⟩ := HBE.out i k hik hkt
              have hOw := HOO.out.z.choose_spec.2.2.1
              have hfr := HOO.out.z.choose_spec.1
              obtain ⟨_, _, e1, _, hgs⟩ := ints_form hOw
              cases e1
              obtain ⟨g, rfl, hci⟩ := hgs i hit
              obtain ⟨g', e2, hck⟩ := hgs k hkt
              cases e2
              obtain ⟨b1, o1, e3, hb1, hx0⟩ := RdT.at HLR.out hp
              obtain ⟨b2, o2, e4, hb2, hy0⟩ := RdT.at HLR.out hq
              subst e3
              cases e4
              have hx := rangeAtK hx0 (hfr.block hb1)
              have hy := rangeAtK hy0 (hfr.block hb1)
              have hb1r : b1 < wr.heap.size := Nat.lt_of_lt_of_le hb1 hfr.size
              have hBF := HB.out l[up[k]] l[up[i]]
              rw [hbf] at hBF
              have HBF := Lib.hid hBF
              have lgi := lt_of_cell hci
              simp only at lgi
              unfold intV at hci hck
              clear hbf hBF hx0 hy0 hgs hOw
              generalize l[up[k]] = y at hx HBF
              generalize l[up[i]] = z at hy HBF
              generalize up[k] = p at *
              generalize up[i] = q at *
              have hne : ((q : Int) == (p : Int)) = false := by simp; omega
              have e1 := FrW.cell hci
              have e2 := FrW.cell hck
              have hex := FrW.range hx hb1r
              have hey := FrW.range hy hb1r
              have hlt0 : ∀ z : FrW wr, g < z.val.heap.size := fun z => Nat.lt_of_lt_of_le lgi z.fr.size
              have hlt1 : ∀ z : FrW wr, b1 < z.val.heap.size := fun z => Nat.lt_of_lt_of_le hb1r z.fr.size
              go_wp2_with fail
              clear hx hy hci hck
              refine wp_region_fr (by kernel_rfl) (by kernel_rfl) ?_
              repeat (first | ((with_reducible refine wpQuiet_here (.load 35 (.tmp 99)) rfl ?_); refine wpQuiet_load_midD 100 rfl 35 (.tmp 99) rfl b1 (o1 + p * 12) rfl _ _ hex Try.underlying35 rfl Try.infoRow rfl ?_; simp only [List.setIfInBounds_toArray, List.set_cons_succ, List.set_cons_zero]) | ((with_reducible refine wpQuiet_here (.load 35 (.tmp 106)) rfl ?_); refine wpQuiet_load_midD 107 rfl 35 (.tmp 106) rfl b1 (o1 + q * 12) rfl _ _ hey Try.underlying35 rfl Try.infoRow rfl ?_; simp only [List.setIfInBounds_toArray, List.set_cons_succ, List.set_cons_zero]) | go_big_quiet_step ((go_at_call 10; exact frq (HBF.out _))))
              refine wpQuiet_nil ?_
              rintro w5 ⟨⟨_, hf5⟩, rfl⟩
              have HO5 := Lib.hid (HOO.out.fr hf5)
              clear HOO HBF hf5 e1 e2 hex hey hlt0 hlt1 hfr
              go_wp2_with fail
              go_roundw
              case rel => exact ⟨k + 1, by omega, by omega, by go_num, HO5⟩
              case measure => first | (simp [intOf]; done) | (simp [intOf]; omega)
            · go_wp2_with fail
              go_roundw
              case rel => exact ⟨i + 1, by omega, by go_num, HOO⟩
              case measure => first | (simp [intOf]; done) | (simp [intOf]; omega)
        · have hceq : ((up.length : Int) == (l.length : Int)) = true := by rw [hkn]; simp
          have HTL := Lib.hid (tells16_c HOO.out.z.choose_spec.2.1.at_ (.slice none 0 0) [] ⟨none, 0, rfl, Nat.le_refl _, fun i hi => by simp at hi⟩)
          rw [HNX.out, decide_eq_true rfl] at HTL
          go_wp2_with fail
          refine HTL.out.mono ?_
          rintro e w11 ⟨rfl, hf11⟩
          have HOO := Lib.hid (HOO.out.fr hf11)
          have HWX := Lib.hid (whole_c HOO.out.z.choose_spec.2.1.at_)
          rw [decide_eq_true HLO.out] at HWX
          clear HTL hf11
          go_wp2_with fail
          refine HWX.out.mono ?_
          rintro e w12 ⟨rfl, hf12⟩
          have HOO := Lib.hid (HOO.out.fr hf12)
          have HCX := Lib.hid (count_c HOO.out.z.choose_spec.2.1.at_)
          clear HWX hf12
          go_wp2_with fail
          refine HCX.out.mono ?_
          rintro e w13 ⟨rfl, hf13⟩
          have hf := HOO.out.z.choose_spec.1.trans hf13
          clear HOO HCX hf13
          go_wp2_with fail
          refine (HW.out _).mono ?_
          rintro e w14 ⟨rfl, hf14⟩
          go_wp2_with fail
          go_ret
          exact ⟨rfl, hf.trans hf14⟩
/-- EntriesOrder: of any rows, any bytes the law returns true. -/
theorem entOrder_c (l : List TRow) (v : Value) (cs : List Nat) (u : Value) (w : World) (hl : RdT w v l) (hn : l.length ≤ 3518437208780) (hu : RdU w u cs) (hcs : cs.length ≤ maxLen) :
    Calls Try.prog 4 #[v, u] w fun e w' => e = .returned (.bool true) ∧ Fr w w' := by
  by_cases h : 20 < l.length ∨ mayRows (eRows l) = false
  · exact orderOff_c l v cs u w hl hn hu h
  · simp only [not_or] at h
    exact orderOn_c l v cs u w hl (by omega) hu hcs (by simpa using h.2)
end Go.Proofs.Ytjomjlodmelnbaa
