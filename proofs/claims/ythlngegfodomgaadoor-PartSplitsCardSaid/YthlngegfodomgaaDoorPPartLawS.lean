/- umpirelaw21.PartSplits: the law's walk. No condition but the laid tables and numbers' bounds. -/
import Derived.Test.YthlngegfodomgaaDoorPPartRow
set_option linter.all false
set_option linter.unusedVariables false
set_option linter.unusedSimpArgs false
set_option linter.unnecessarySimpa false
/- umpirelaw21.PartSplits: the law's walk. No condition but the laid tables and numbers' bounds. -/
namespace Go.Proofs.YthlngegfodomgaaDoor
open Go.RowKit Go.Sort
attribute [local go_sem] Oper.semAt_some

open Classical in
noncomputable def ecOf (m : Nat) (l : List TRow) : Nat := if okL m l then 0 else 10
open Classical in
noncomputable def psOf (m : Nat) (p : Bool) (l : List TRow) : List (Nat × List TRow) := if okL m l then partsOf m p l else []
def SplitU (m : Nat) (p : Bool) (l : List TRow) (w : World) (e : Ending) (w' : World) : Prop := Fr w w' ∧ ∃ (a : Option Addr) (c : Nat), e = .returned (.tuple #[.slice a (psOf m p l).length c, .int .i64 (ecOf m l : Nat)]) ∧ PartsAt w' (.slice a (psOf m p l).length c) (psOf m p l)
theorem SplitQ.u {m : Nat} {p : Bool} {l : List TRow} {w w' : World} {e : Ending} (h : SplitQ m p l w e w') : SplitU m p l w e w' := by
  obtain ⟨hf, ⟨h1, rfl⟩ | ⟨h1, u, rfl, hP⟩⟩ := h
  · have e1 : psOf m p l = [] := by unfold psOf; rw [if_neg h1]
    have e2 : ecOf m l = 10 := by unfold ecOf; rw [if_neg h1]
    refine ⟨hf, none, 0, by rw [e1, e2]; rfl, ?_⟩
    rw [e1]
    exact ⟨none, 0, fun _ => nilS, rfl, Nat.le_refl _, fun i hi => by simp at hi⟩
  · have e1 : psOf m p l = partsOf m p l := by unfold psOf; rw [if_pos h1]
    have e2 : ecOf m l = 0 := by unfold ecOf; rw [if_pos h1]
    obtain ⟨a, c, g, rfl, h2, h3⟩ := id hP
    exact ⟨hf, a, c, by rw [e1, e2]; rfl, by rw [e1]; exact hP⟩
theorem psOf_len (m : Nat) (p : Bool) (l : List TRow) : (psOf m p l).length ≤ 64 := by
  unfold psOf
  split
  · unfold partsOf; rw [List.length_map]; exact keysN_len m p l
  · simp
theorem psOf_rows {m : Nat} {p : Bool} {l : List TRow} {x : Nat × List TRow} (h : x ∈ psOf m p l) : x.2.length ≤ l.length := by
  unfold psOf at h
  split at h
  · unfold partsOf at h
    obtain ⟨n, _, rfl⟩ := List.mem_map.1 h
    exact inPart_len m p l n
  · cases h
set_option maxRecDepth 100000 in
set_option maxHeartbeats 16000000 in
theorem splitsOn_c (m : Nat) (p : Bool) (l : List TRow) (v : Value) (w : World) (hE : Env w) (hl : RdT w v l) (hb : Bnd l) (hn : l.length ≤ 60) (hm : m ≤ 255) :
    Calls Tryd.prog 3 #[.int .u8 m, v, .bool p] w fun e w' => e = .returned (.bool true) ∧ Fr w w' := by
  have HL := Lib.hid hl
  have HE := Lib.hid hE
  have HS := Lib.hid (fun W (f : Fr w W) => (Split_c m p l v W (hE.keep f) (hl.keep f) hb hn hm).mono fun e w' h => SplitQ.u h)
  have HR := Lib.hid (fun W u (h : RdT W u l) => (rSplit_c m p l u W h hb hn hm).mono fun e w' h => SplitQ.u h)
  have HAW := Lib.hid (fun W (f : Fr w W) => awake_c W (hE.keep f))
  obtain ⟨a, cap, rfl, hcap, hmax, _⟩ := hl.is
  unfold maxLen at hmax
  have h1i : ¬ (60 : Int) < (l.length : Int) := by omega
  clear hl hE hb
  go_enter Tryd.func3, Tryd.ntmps3
  go_wp2_with fail
  go_loopw [7, 8] (fun vv vi wr => ∃ (k : Nat) (ta : Option Addr) (tc : Nat), k ≤ l.length ∧ vi = .int .i64 k ∧ vv = .slice ta (l.take k).length tc ∧ Hid (Fr w wr ∧ OwT 31 w.heap.size wr (.slice ta (l.take k).length tc) (l.take k))) (fun _ vi _ => l.length - (intOf vi).toNat)
  case atStart => exact ⟨0, none, 0, Nat.zero_le _, rfl, rfl, ⟨Fr.refl _, World.ownsRow_nil _ _ _ _⟩⟩
  case round =>
    obtain ⟨k, ta, tc, hk, rfl, rfl, HO⟩ := hrel
    by_cases hlt : k < l.length
    · obtain ⟨b1, o1, rfl, hb1, hx0⟩ := RdT.at HL.out hlt
      have hx := rangeAtK hx0 (HO.out.1.block hb1)
      have hb1r : b1 < wr.heap.size := Nat.lt_of_lt_of_le hb1 HO.out.1.size
      have HTK := Lib.hid (List.take_succ_eq_append_getElem hlt)
      generalize l[k] = r at hx HTK
      have hown := HO.out.2.fr ((Fr.refl wr).alloc (.cells r.cells.toArray 31))
      have hy := BoxAt.new wr r.cells.toArray 31
      have hsz := (HO.out.1.alloc (.cells r.cells.toArray 31)).size
      have hln : (l.take k).length ≤ 4000000 := by rw [List.length_take]; omega
      have HLK : Hid ((l.take k).length = k) := Lib.hid (by rw [List.length_take]; omega)
      generalize l.take k = lk at HO HTK hown hln HLK ⊢
      go_wp2_with (first | ((with_reducible refine wpList_here (.load 32 (.tmp 28)) rfl ?_); refine wpList_load_midW 32 (.tmp 28) rfl b1 (o1 + k * 12) rfl r.cells _ hx Tryd.underlying32 rfl Tryd.infoRow rfl ?_) | (refine wpList_buildRow 24 31 Tryd.underlying24 Tryd.infoRow08B _ rfl r ?hev rfl ?_) | (at_builtin; refine wpList_appendRow (base := w.heap.size) 24 31 Tryd.underlying24 Tryd.infoRow08B rfl (.tmp 25) (.tmp 30) rfl (.slice ta lk.length tc) lk rfl hown hsz wr.heap.size 1 r rfl hy hln ?_))
      intro va5 vn5 vc5 w5 hO5 hch5 hat5
      have hF5 : Fr w w5 := hch5.fr (HO.out.1.alloc _) (fun g hg => (World.ownsRow.lt HO.out.2 g hg).1)
      rw [← HTK.out] at hO5
      obtain ⟨_, _, e5, _⟩ := hO5.rd.is
      cases e5
      have HO5 := Lib.hid hO5
      clear hO5 hch5 hat5 hown hy hsz hx
      go_wp2_with fail
      go_roundw
      case rel => exact ⟨k + 1, va5, vc5, by omega, by go_num, rfl, ⟨hF5, HO5.out⟩⟩
      case measure => first | (simp [intOf]; done) | (simp [intOf]; omega)
    · obtain rfl : k = l.length := by omega
      rw [List.take_length] at HO ⊢
      clear hlt hk
      go_wp2_with fail
      refine (HS.out _ HO.out.1).mono ?_
      rintro e w1 ⟨hf1, a1, c1, rfl, hP1⟩
      have HP1 := Lib.hid hP1
      clear hP1
      go_wp2_with fail
      refine (HR.out _ _ (HO.out.2.fr hf1).rd).mono ?_
      rintro e w2 ⟨hf2, a2, c2, rfl, hP2⟩
      have HP1 := Lib.hid (HP1.out.fr hf2)
      have HP2 := Lib.hid hP2
      have HF := Lib.hid (HO.out.1.trans (hf1.trans hf2))
      have HPL := Lib.hid (fun x (hx : x ∈ psOf m p l) => psOf_rows hx)
      have hpl := psOf_len m p l
      clear hP2 hf1 hf2 HO
      generalize psOf m p l = ps at HP1 HP2 HPL hpl ⊢
      generalize ecOf m l = ec at *
      go_wp2_with fail
      go_loopw [13] (fun vi wr => ∃ i : Nat, i ≤ ps.length ∧ vi = .int .i64 i ∧ Hid (Fr w2 wr)) (fun vi _ => ps.length - (intOf vi).toNat)
      case atStart => exact ⟨0, Nat.zero_le _, rfl, Fr.refl _⟩
      case round =>
        obtain ⟨i, hi, rfl, hf⟩ := hrel
        by_cases hit : i < ps.length
        · obtain ⟨_, _, g1, e1, hc1, hs1⟩ := HP1.out.fr hf.out
          cases e1
          obtain ⟨_, _, g2, e2, hc2, hs2⟩ := HP2.out.fr hf.out
          cases e2
          obtain ⟨⟨b1, rfl, x1, y1⟩, R1⟩ := hs1 i hit
          obtain ⟨⟨b2, rfl, x2, y2⟩, R2⟩ := hs2 i hit
          have hrl := HPL.out ps[i] (List.getElem_mem hit)
          generalize ps[i] = q at x1 x2 R1 R2 hrl
          obtain ⟨N, rs⟩ := q
          simp only at x1 x2 R1 R2 hrl
          obtain ⟨ra1, rc1, h1, hcc1, hmm1, _⟩ := R1.is
          obtain ⟨ra2, rc2, h2, hcc2, hmm2, _⟩ := R2.is
          rw [h1] at y1 R1
          rw [h2] at y2 R2
          have HR1 := Lib.hid R1
          have HR2 := Lib.hid R2
          have lb1 := lt_of_cell x1
          have lb2 := lt_of_cell x2
          simp only at lb1 lb2
          have HY1 := Lib.hid y1
          have HY2 := Lib.hid y2
          unfold maxLen at hmm1 hmm2
          clear hs1 hs2 h1 h2 R1 R2
          obtain ⟨wo, rfl⟩ : ∃ wo, wo = wr := ⟨_, rfl⟩
          go_wp2_with fail
          go_quiet (fail)
          clear x1 x2 y1 y2
          go_wp2_with fail
          go_loopw [14] (fun vk wr => ∃ k : Nat, k ≤ rs.length ∧ vk = .int .i64 k ∧ Hid (Fr wo wr)) (fun vk _ => rs.length - (intOf vk).toNat)
          case atStart => exact ⟨0, Nat.zero_le _, rfl, (Fr.refl _).drewN _⟩
          case round =>
            obtain ⟨k, hk, rfl, hf3⟩ := hrel
            have y1 := hf3.out.keep HY1.out
            have y2 := hf3.out.keep HY2.out
            have lb1 := lt_of_cell y1
            have lb2 := lt_of_cell y2
            simp only at lb1 lb2
            by_cases hkt : k < rs.length
            · obtain ⟨p1, o1, rfl, hp1, z1⟩ := RdT.at HR1.out hkt
              obtain ⟨p2, o2, rfl, hp2, z2⟩ := RdT.at HR2.out hkt
              have z1 := rangeAtK z1 (hf3.out.block hp1)
              have z2 := rangeAtK z2 (hf3.out.block hp2)
              have hp1 := Nat.lt_of_lt_of_le hp1 hf3.out.size
              have hp2 := Nat.lt_of_lt_of_le hp2 hf3.out.size
              generalize rs[k] = r at z1 z2
              have hne := row08_neq r
              have e1 := FrW.cell y1
              have e2 := FrW.cell y2
              have hex := FrW.range z1 hp1
              have hey := FrW.range z2 hp2
              have t1 : ∀ z : FrW wr, b1 < z.val.heap.size := fun z => Nat.lt_of_lt_of_le lb1 z.fr.size
              have t2 : ∀ z : FrW wr, b2 < z.val.heap.size := fun z => Nat.lt_of_lt_of_le lb2 z.fr.size
              have t3 : ∀ z : FrW wr, p1 < z.val.heap.size := fun z => Nat.lt_of_lt_of_le hp1 z.fr.size
              have t4 : ∀ z : FrW wr, p2 < z.val.heap.size := fun z => Nat.lt_of_lt_of_le hp2 z.fr.size
              go_wp2_with fail
              clear z1 z2 y1 y2
              refine wp_region_fr (by kernel_rfl) (by kernel_rfl) ?_
              repeat (first | ((with_reducible refine wpQuiet_here (.load 32 (.tmp 104)) rfl ?_); refine wpQuiet_load_midD 105 rfl 32 (.tmp 104) rfl p1 (o1 + k * 12) rfl _ _ hex Tryd.underlying32 rfl Tryd.infoRow rfl ?_; simp only [List.setIfInBounds_toArray, List.set_cons_succ, List.set_cons_zero]) | ((with_reducible refine wpQuiet_here (.load 31 (.tmp 112)) rfl ?_); refine wpQuiet_load_midD 113 rfl 31 (.tmp 112) rfl p2 (o2 + k * 12) rfl _ _ hey Tryd.underlying31 rfl Tryd.infoRow08 rfl ?_; simp only [List.setIfInBounds_toArray, List.set_cons_succ, List.set_cons_zero]) | go_big_quiet_step (fail))
              refine wpQuiet_nil ?_
              rintro w5 ⟨⟨_, hf5⟩, rfl⟩
              have hf6 := hf3.out.trans hf5
              clear hf5 e1 e2 hex hey t1 t2 t3 t4 hne
              go_wp2_with fail
              go_roundw
              case rel => exact ⟨k + 1, by omega, by go_num, hf6⟩
              case measure => first | (simp [intOf]; done) | (simp [intOf]; omega)
            · have hf6 := hf.out.trans hf3.out
              go_wp2_with fail
              go_roundw
              case rel => exact ⟨i + 1, by omega, by go_num, hf6⟩
              case measure => first | (simp [intOf]; done) | (simp [intOf]; omega)
        · have hF := HF.out.trans hf.out
          clear hf
          go_wp2_with fail
          refine (HAW.out _ hF).mono ?_
          rintro e w5 ⟨rfl, hf5⟩
          go_wp2_with fail
          go_ret
          exact ⟨rfl, hF.trans hf5⟩
set_option maxRecDepth 100000 in
/-- PartSplits: of any model, any rows. -/
theorem partSplits_c (m : Nat) (p : Bool) (l : List TRow) (v : Value) (w : World) (hE : Env w) (hl : RdT w v l) (hb : Bnd l) (hm : m ≤ 255) :
    Calls Tryd.prog 3 #[.int .u8 m, v, .bool p] w fun e w' => e = .returned (.bool true) ∧ Fr w w' := by
  by_cases hn : l.length ≤ 60
  · exact splitsOn_c m p l v w hE hl hb hn hm
  · have HAW := Lib.hid (fun W (f : Fr w W) => awake_c W (hE.keep f))
    obtain ⟨a, cap, rfl, hcap, hmax, _⟩ := hl.is
    unfold maxLen at hmax
    have h1i : (60 : Int) < (l.length : Int) := by omega
    clear hl hE hb hn
    go_enter Tryd.func3, Tryd.ntmps3
    go_wp2_with fail
    refine (HAW.out _ (Fr.refl _)).mono ?_
    rintro e w5 ⟨rfl, hf5⟩
    go_wp2_with fail
    go_ret
    exact ⟨rfl, hf5⟩
end Go.Proofs.YthlngegfodomgaaDoor
