/- umpirelaw21.PartSplits: the law's walk. No condition but the laid tables and numbers' bounds. -/
import Derived.Test.YthlngegfodomgaaDoorPPartRow
set_option linter.all false
set_option linter.unusedVariables false
set_option linter.unusedSimpArgs false
set_option linter.unnecessarySimpa false
/- umpirelaw21.PartSplits: the law's walk. No condition but the laid tables and numbers' bounds. -/
namespace Go.Proofs.YthlngegfodomgaaDoor
open Go.RowKit Go.Sort
attribute [local go_sem] Oper.semAt_some

open Classical in
noncomputable def ecOf (m : Nat) (l : List TRow) : Nat := if okL m l then 0 else 10
open Classical in
noncomputable def psOf (m : Nat) (p : Bool) (l : List TRow) : List (Nat × List TRow) := if okL m l then partsOf m p l else []
def SplitU (m : Nat) (p : Bool) (l : List TRow) (w : World) (e : Ending) (w' : World) : Prop := Fr w w' ∧ ∃ (a : Option Addr) (c : Nat), e = .returned (.tuple #[.slice a (psOf m p l).length c, .int .i64 (ecOf m l : Nat)]) ∧ PartsAt w' (.slice a (psOf m p l).length c) (psOf m p l)
theorem SplitQ.u {m : Nat} {p : Bool} {l : List TRow} {w w' : World} {e : Ending} (h : SplitQ m p l w e w') : SplitU m p l w e w' := by
  obtain ⟨hf, ⟨h1, rfl⟩ | ⟨h1, u, rfl, hP⟩⟩ := h
  · have e1 : psOf m p l = [] := by unfold psOf; rw [if_neg h1]
    have e2 : ecOf m l = 10 := by unfold ecOf; rw [if_neg h1]
    refine ⟨hf, none, 0, by rw [e1, e2]; rfl, ?_⟩
    rw [e1]
    exact ⟨none, 0, fun _ => nilS, rfl, Nat.le_refl _, fun i hi => by simp at hi⟩
  · have e1 : psOf m p l = partsOf m p l := by unfold psOf; rw [if_pos h1]
    have e2 : ecOf m l = 0 := by unfold ecOf; rw [if_pos h1]
    obtain ⟨a, c, g, rfl, h2, h3⟩ := id hP
    exact ⟨hf, a, c, by rw [e1, e2]; rfl, by rw [e1]; exact hP⟩
theorem psOf_len (m : Nat) (p : Bool) (l : List TRow) : (psOf m p l).length ≤ 64 := by
  unfold psOf
  split
  · unfold partsOf; rw [List.length_map]; exact keysN_len m p l
  · simp
theorem psOf_rows {m : Nat} {p : Bool} {l : List TRow} {x : Nat × List TRow} (h : x ∈ psOf m p l) : x.2.length ≤ l.length := by
  unfold psOf at h
  split at h
  · unfold partsOf at h
    obtain ⟨n, _, rfl⟩ := List.mem_map.1 h
    exact inPart_len m p l n
  · cases h
set_option maxRecDepth 100000 in
set_option maxHeartbeats 16000000 in
theorem splitsOn_c (m : Nat) (p : Bool) (l : List TRow) (v : Value) (w : World) (hE : Env w) (hl : RdT w v l) (hb : Bnd l) (hn : l.length ≤ 60) (hm : m ≤ 255) :
    Calls Tryd.prog 3 #[.int .u8 m, v, .bool p] w fun e w' => e = .returned (.bool true) ∧ Fr w w' := by
  have HL := Lib.hid hl
  have HE := Lib.hid hE
  have HS := Lib.hid (fun W (f : Fr w W) => (Split_c m p l v W (hE.keep f) (hl.keep f) hb hn hm).mono fun e w' h => SplitQ.u h)
  have HR := Lib.hid (fun W u (h : RdT W u l) => (rSplit_c m p l u W h hb hn hm).mono fun e w' h => SplitQ.u h)
  have HAW := Lib.hid (fun W (f : Fr w W) => awake_c W (hE.keep f))
  obtain ⟨a, cap, rfl, hcap, hmax, _⟩ := hl.is
  unfold maxLen at hmax
  have h1i : ¬ (60 : Int) < (l.length : Int) := by omega
  clear hl hE hb
  go_enter Tryd.func3, Tryd.ntmps3
  go_wp2_with fail
  go_loopw [7, 8] (fun vv vi wr => ∃ (k : Nat) (ta : Option Addr) (tc : Nat), k ≤ l.length ∧ vi = .int .i64 k ∧ vv = .slice ta (l.take k).length tc ∧ Hid (Fr w wr ∧ OwT 31 w.heap.size wr (.slice ta (l.take k).length tc) (l.take k))) (fun _ vi _ => l.length - (intOf vi).toNat)
  case atStart => exact ⟨0, none, 0, Nat.zero_le _, rfl, rfl, ⟨Fr.refl _, World.ownsRow_nil _ _ _ _⟩⟩
  case round =>
    obtain ⟨k, ta, tc, hk, rfl, rfl, HO⟩ := hrel
    by_cases hlt : k < l.length
    · obtain ⟨b1, o1, rfl, hb1, hx0⟩ := RdT.at HL.out hlt
      have hx := rangeAtK hx0 (HO.out.1.block hb1)
      have hb1r : b1 < wr.heap.size := Nat.lt_of_lt_of_le hb1 HO.out.1.size
      have HTK := Lib.hid (List.take_succ_eq_append_getElem hlt)
      generalize l[k] = r at hx HTK
      have hown := HO.out.2.fr ((Fr.refl wr).alloc (.cells r.cells.toArray 31))
      have hy := BoxAt.new wr r.cells.toArray 31
      have hsz := (HO.out.1.alloc (.cells r.cells.toArray 31)).size
      have hln : (l.take k).length ≤ 4000000 := by rw [List.length_take]; omega
      have HLK : Hid ((l.take k).length = k) := Lib.hid (by rw [List.length_take]; omega)
      generalize l.take k = lk at HO HTK hown hln HLK ⊢
      go_wp2_with (first | ((with_reducible refine wpList_here (.load 32 (.tmp 28)) rfl ?_); refine wpList_load_midW 32 (.tmp 28) rfl b1 (o1 + k * 12) rfl r.cells _ hx Tryd.underlying32 rfl Tryd.infoRow rfl ?_) | (refine wpList_buildRow 24 31 Tryd.underlying24 Tryd.infoRow08B _ rfl r ?hev rfl ?_) | (at_builtin; refine wpList_appendRow (base := w.heap.size) 24 31 Tryd.underlying24 Tryd.infoRow08B rfl (.tmp 25) (.tmp 30) rfl (.slice ta lk.length tc) lk rfl hown hsz wr.heap.size 1 r rfl hy hln ?_))
      intro va5 vn5 vc5 w5 hO5 hch5 hat5
      have hF5 : Fr w w5 := hch5.fr (HO.out.1.alloc _) (fun g hg => (World.ownsRow.lt HO.out.2 g hg).1)
      rw [← HTK.out] at hO5
      obtain ⟨_, _, e5, _⟩ := hO5.rd.is
      cases e5
      have HO5 := Lib.hid hO5
      clear hO5 hch5 hat5 hown hy hsz hx
      go_wp2_with fail
      go_roundw
      case rel => exact ⟨k + 1, va5, vc5, by omega, by go_num, rfl, ⟨hF5, HO5.out⟩⟩
      case measure => first | (simp [intOf]; done) | (simp [intOf]; omega)
    · obtain rfl : k = l.length := by omega
      rw [List.take_length] at HO ⊢
      clear hlt hk
      go_wp2_with fail
      refine (HS.out _ HO.out.1).mono ?_
      rintro e w1 ⟨hf1, a1, c1, rfl, hP1⟩
      have HP1 := Lib.hid hP1
      clear hP1
      go_wp2_with fail
      refine (HR.out _ _ (HO.out.2.fr hf1).rd).mono ?_
      rintro e w2 ⟨hf2, a2, c2, rfl, hP2⟩
      have HP1 := Lib.hid (HP1.out.fr hf2)
      have HP2 := Lib.hid hP2
      have HF := Lib.hid (HO.out.1.trans (hf1.trans hf2))
      have HPL := Lib.hid (fun x (hx : x ∈ psOf m p l) => psOf_rows hx)
      have hpl := psOf_len m p l
      clear hP2 hf1 hf2 HO
      generalize psOf m p l = ps at HP1 HP2 HPL hpl ⊢
      generalize ecOf m l = ec at *
      go_wp2_with fail
      go_loopw [13] (fun vi wr => ∃ i : Nat, i ≤ ps.length ∧ vi = .int .i64 i ∧ Hid (Fr w2 wr)) (fun vi _ => ps.length - (intOf vi).toNat)
      case atStart => exact ⟨0, Nat.zero_le _, rfl, Fr.refl _⟩
      case round =>
        obtain ⟨i, hi, rfl, hf⟩ := hrel
        by_cases hit : i < ps.length
        · obtain ⟨_, _, g1, e1, hc1, hs1⟩ := HP1.out.fr hf.out
          cases e1
          obtain ⟨_, _, g2, e2, hc2, hs2⟩ := HP2.out.fr hf.out
          cases e2
          obtain ⟨⟨b1, rfl, x1, y1⟩, R1⟩ := hs1 i hit
          obtain ⟨⟨b2, rfl, x2, y2⟩, R2⟩ := hs2 i hit
          have hrl := HPL.out ps[i] (List.getElem_mem hit)
          generalize ps[i] = q at x1 x2 R1 R2 hrl
          obtain ⟨N, rs⟩ := q
          simp only at x1 x2 R1 R2 hrl
          obtain ⟨ra1, rc1, h1, hcc1, hmm1, _⟩ := R1.is
          obtain ⟨ra2, rc2, h2, hcc2, hmm2, _⟩ := R2.is
          rw [h1] at y1 R1
          rw [h2] at y2 R2
          have HR1 := Lib.hid R1
          have HR2 := Lib.hid R2
          have lb1 := lt_of_cell x1
          have lb2 := lt_of_cell x2
          simp only at lb1 lb2
          have HY1 := Lib.hid y1
          have HY2 := Lib.hid y2
          unfold maxLen at hmm1 hmm2
          clear hs1 hs2 h1 h2 R1 R2
          obtain ⟨wo, rfl⟩ : ∃ wo, wo = wr := ⟨_, rfl⟩
          go_wp2_with fail
          go_quiet (fail)
          clear x1 x2 y1 y2
          go_wp2_with fail
          go_loopw [14] (fun vk wr => ∃ k : Nat, k ≤ rs.length ∧ vk = .int .i64 k ∧ Hid (Fr wo wr)) (fun vk _ => rs.length - (intOf vk).toNat)
          case atStart => exact ⟨0, Nat.zero_le _, rfl, (Fr.refl _).drewN _⟩
          case round =>
            obtain ⟨k, hk, rfl, hf3⟩ := hrel
            have y1 := hf3.out.keep HY1.out
            have y2 := hf3.out.keep HY2.out
            have lb1 := lt_of_cell y1
            have lb2 := lt_of_cell y2
            simp only at lb1 lb2
            by_cases hkt : k < rs.length
            · obtain ⟨p1, o1, rfl, hp1, z1⟩ := RdT.at HR1.out hkt
              obtain ⟨p2, o2, rfl, hp2, z2⟩ := RdT.at HR2.out hkt
              have z1 := rangeAtK z1 (hf3.out.block hp1)
              have z2 := rangeAtK z2 (hf3.out.block hp2)
              have hp1 := Nat.lt_of_lt_of_le hp1 hf3.out.size
              have hp2 := Nat.lt_of_lt_of_le hp2 hf3.out.size
              generalize rs[k] = r at z1 z2
              have hne := row08_neq r
              have e1 := FrW.cell y1
              have e2 := FrW.cell y2
              have hex := FrW.range z1 hp1
              have hey := FrW.range z2 hp2
              have t1 : ∀ z : FrW wr, b1 < z.val.heap.size := fun z => Nat.lt_of_lt_of_le lb1 z.fr.size
              have t2 : ∀ z : FrW wr, b2 < z.val.heap.size := fun z => Nat.lt_of_lt_of_le lb2 z.fr.size
              have t3 : ∀ z : FrW wr, p1 < z.val.heap.size := fun z => Nat.lt_of_lt_of_le hp1 z.fr.size
              have t4 : ∀ z : FrW wr, p2 < z.val.heap.size := fun z => Nat.lt_of_lt_of_le hp2 z.fr.size
              go_wp2_with fail
              clear z1 z2 y1 y2
              refine wp_region_fr (by kernel_rfl) (by kernel_rfl) ?_
              repeat (first | ((with_reducible refine wpQuiet_here (.load 32 (.tmp 104)) rfl ?_); refine wpQuiet_load_midD 105 rfl 32 (.tmp 104) rfl p1 (o1 + k * 12) rfl _ _ hex Tryd.underlying32 rfl Tryd.infoRow rfl ?_; simp only [List.setIfInBounds_toArray, List.set_cons_succ, List.set_cons_zero]) | ((with_reducible refine wpQuiet_here (.load 31 (.tmp 112)) rfl ?_); refine wpQuiet_load_midD 113 rfl 31 (.tmp 112) rfl p2 (o2 + k * 12) rfl _ _ hey Tryd.underlying31 rfl Tryd.infoRow08 rfl ?_; simp only [List.setIfInBounds_toArray, List.set_cons_succ, List.set_cons_zero]) | go_big_quiet_step (fail))
              refine wpQuiet_nil ?_
              rintro w5 ⟨⟨_, hf5⟩, rfl⟩
              have hf6 := hf3.out.trans hf5
              clear hf5 e1 e2 hex hey t1 t2 t3 t4 hne
              go_wp2_with fail
              go_roundw
              case rel => exact ⟨k + 1, by omega, by go_num, hf6⟩
              case measure => first | (simp [intOf]; done) | (simp [intOf]; omega)
            · have hf6 := hf.out.trans hf3.out
              go_wp2_with fail
              go_roundw
              case rel => exact ⟨i + 1, by omega, by go_num, hf6⟩
              case measure => first | (simp [intOf]; done) | (simp [intOf]; omega)
        · have hF := HF.out.trans hf.out
          clear hf
          go_wp2_with fail
          refine (HAW.out _ hF).mono ?_
          rintro e w5 ⟨rfl, hf5⟩
          go_wp2_with fail
          go_ret
          exact ⟨rfl, hF.trans hf5⟩
set_option maxRecDepth 100000 in
/-- PartSplits: of any model, any rows. -/
theorem partSplits_c (m : Nat) (p : Bool) (l : List TRow) (v : Value) (w : World) (hE : Env w) (hl : RdT w v l) (hb : Bnd l) (hm : m ≤ 255) :
    Calls Tryd.prog 3 #[.int .u8 m, v, .bool p] w fun e w' => e = .returned (.bool true) ∧ Fr w w' := by
  by_cases hn : l.length ≤ 60
  · exact splitsOn_c m p l v w hE hl hb hn hm
  · have HAW := Lib.hid (fun W (f : Fr w W) => awake_c W (hE.keep f))
    obtain ⟨a, cap, rfl, hcap, hmax, _⟩ := hl.is
    unfold maxLen at hmax
    have h1i : (60 : Int) < (l.length : Int) := by omega
    clear hl hE hb hn
    go_enter Tryd.func3, Tryd.ntmps3
    go_wp2_with fail
    refine (HAW.out _ (Fr.refl _)).mono ?_
    rintro e w5 ⟨rfl, hf5⟩
    go_wp2_with fail
    go_ret
    exact ⟨rfl, hf5⟩
end Go.Proofs.YthlngegfodomgaaDoor

/- umpirelaw21.PartOnce: the law's walk. No condition but the laid tables and numbers' bounds. -/
namespace Go.Proofs.YthlngegfodomgaaDoor
open Go.RowKit Go.Sort
attribute [local go_sem] Oper.semAt_some

theorem part_idx {m : Nat} {p : Bool} {l : List TRow} {n N : Nat} (hn : n < l.length) (h : pk m p l[n] = N) : ∃ hk : (inPart m p (l.take n) N).length < (inPart m p l N).length, (inPart m p l N)[(inPart m p (l.take n) N).length] = l[n] := by
  have h1 : l = l.take n ++ l[n] :: l.drop (n + 1) := by rw [← List.drop_eq_getElem_cons hn, List.take_append_drop]
  have h2 : inPart m p l N = inPart m p (l.take n) N ++ l[n] :: inPart m p (l.drop (n + 1)) N := by
    have h3 : inPart m p l N = inPart m p (l.take n ++ l[n] :: l.drop (n + 1)) N := congrArg (fun z => inPart m p z N) h1
    rw [h3]
    unfold inPart
    rw [List.filter_append, List.filter_cons, if_pos (by simpa using h)]
  refine ⟨by rw [h2, List.length_append, List.length_cons]; omega, ?_⟩
  simp only [h2]
  rw [List.getElem_append_right (Nat.le_refl _)]
  simp
theorem sum_ite (f : Nat → Nat) (k : Nat) : ∀ N, ((List.range N).map fun n => if k = n then f n + 1 else f n).sum = ((List.range N).map f).sum + if k < N then 1 else 0
  | 0 => by simp
  | N + 1 => by
    rw [List.range_succ, List.map_append, List.sum_append, List.map_append, List.sum_append, sum_ite f k N]
    simp only [List.map_cons, List.map_nil, List.sum_cons, List.sum_nil]
    by_cases h : k = N
    · subst h
      rw [if_pos rfl, if_neg (by omega), if_pos (by omega)]; omega
    · rw [if_neg h]
      by_cases h2 : k < N
      · rw [if_pos h2, if_pos (by omega)]; omega
      · rw [if_neg h2, if_neg (by omega)]; omega
theorem sum_parts {m : Nat} {p : Bool} : ∀ {l : List TRow}, okL m l → ((List.range 64).map fun n => (inPart m p l n).length).sum = l.length
  | [], _ => by
    have : ((List.range 64).map fun n => (inPart m p [] n).length) = (List.range 64).map fun _ => 0 := by simp [inPart]
    rw [this]; rfl
  | r :: l, h => by
    have h1 : chk m r = 0 := h r (by simp)
    have ih := sum_parts (m := m) (p := p) (l := l) fun x hx => h x (by simp [hx])
    have e : ((List.range 64).map fun n => (inPart m p (r :: l) n).length) = (List.range 64).map fun n => if pk m p r = n then (inPart m p l n).length + 1 else (inPart m p l n).length := List.map_congr_left fun n _ => by
      unfold inPart
      rw [List.filter_cons]
      by_cases hp : pk m p r = n <;> simp [hp]
    rw [e, sum_ite, ih, if_pos (pk_lt h1), List.length_cons]
theorem sum_filter (g : Nat → Nat) (q : Nat → Bool) : ∀ L : List Nat, (∀ n ∈ L, q n = false → g n = 0) → ((L.filter q).map g).sum = (L.map g).sum
  | [], _ => rfl
  | x :: L, h => by
    have ih := sum_filter g q L fun n hn => h n (by simp [hn])
    rw [List.filter_cons, List.map_cons, List.sum_cons]
    cases hq : q x with
    | true => rw [if_pos rfl, List.map_cons, List.sum_cons, ih]
    | false => rw [if_neg (by simp), ih, h x (by simp) hq]; omega
def manyTo (ps : List (Nat × List TRow)) (i : Nat) : Nat := ((ps.take i).map fun x => x.2.length).sum
theorem manyTo_succ {ps : List (Nat × List TRow)} {i : Nat} (h : i < ps.length) : manyTo ps (i + 1) = manyTo ps i + ps[i].2.length := by
  unfold manyTo
  rw [List.take_succ_eq_append_getElem h, List.map_append, List.sum_append]
  simp
theorem manyTo_le {ps : List (Nat × List TRow)} {b : Nat} (h : ∀ x ∈ ps, x.2.length ≤ b) : ∀ i, i ≤ ps.length → manyTo ps i ≤ i * b
  | 0, _ => by simp [manyTo]
  | i + 1, hi => by
    have h1 := manyTo_le h i (by omega)
    rw [manyTo_succ (by omega), Nat.add_mul, Nat.one_mul]
    have := h ps[i] (List.getElem_mem (by omega))
    omega
theorem many_all {m : Nat} {p : Bool} {l : List TRow} (h : okL m l) : manyTo (partsOf m p l) (partsOf m p l).length = l.length := by
  unfold manyTo
  rw [List.take_length]
  unfold partsOf
  rw [List.map_map]
  have e : ((fun x : Nat × List TRow => x.2.length) ∘ fun n => (n, inPart m p l n)) = fun n => (inPart m p l n).length := rfl
  rw [e]
  unfold keysN
  rw [sum_filter _ _ _ fun n _ hq => by simpa using hq]
  exact sum_parts h
structure OnceP (m : Nat) (p : Bool) (l : List TRow) (ps : List (Nat × List TRow)) : Prop where
  ks : ∀ i (hi : i < ps.length), ps[i].2 = inPart m p l ps[i].1 ∧ ps[i].2 ≠ [] ∧ ps[i].1 < 64
  st : ∀ i j (hi : i < ps.length) (hj : j < i), (ps[j]'(Nat.lt_trans hj hi)).1 < ps[i].1
  ma : manyTo ps ps.length = l.length
  ml : ∀ i, i ≤ ps.length → manyTo ps i ≤ i * 60
  len : ps.length ≤ 64
theorem onceP {m : Nat} {p : Bool} {l : List TRow} (h : okL m l) (hn : l.length ≤ 60) : OnceP m p l (partsOf m p l) where
  ks i hi := by
    unfold partsOf at hi ⊢
    rw [List.length_map] at hi
    rw [List.getElem_map]
    have := mem_keysN.1 (List.getElem_mem hi)
    exact ⟨rfl, this.2, this.1⟩
  st i j hi hj := by
    unfold partsOf at hi ⊢
    rw [List.length_map] at hi
    rw [List.getElem_map, List.getElem_map]
    exact List.pairwise_iff_getElem.1 (keysN_sorted m p l) j i (by omega) hi hj
  ma := many_all h
  ml := manyTo_le fun x hx => by
    unfold partsOf at hx
    obtain ⟨n, _, rfl⟩ := List.mem_map.1 hx
    exact Nat.le_trans (inPart_len m p l n) hn
  len := by unfold partsOf; rw [List.length_map]; exact keysN_len m p l
set_option maxRecDepth 100000 in
set_option maxHeartbeats 16000000 in
theorem onceOn_c (m : Nat) (p : Bool) (l : List TRow) (v : Value) (w : World) (hE : Env w) (hl : RdT w v l) (hb : Bnd l) (hn : l.length ≤ 60) (hm : m ≤ 255) :
    Calls Tryd.prog 4 #[.int .u8 m, v, .bool p] w fun e w' => e = .returned (.bool true) ∧ Fr w w' := by
  have HL := Lib.hid hl
  have HE := Lib.hid hE
  have HB := Lib.hid hb
  have HS := Lib.hid (Split_c m p l v w hE hl hb hn hm)
  have HAW := Lib.hid (fun W (f : Fr w W) => awake_c W (hE.keep f))
  obtain ⟨a, cap, rfl, hcap, hmax, _⟩ := hl.is
  unfold maxLen at hmax
  have h1i : ¬ (60 : Int) < (l.length : Int) := by omega
  clear hl hE hb
  go_enter Tryd.func4, Tryd.ntmps4
  go_wp2_with fail
  refine HS.out.mono ?_
  rintro e w1 ⟨hf1, ⟨hno, rfl⟩ | ⟨hok, u, rfl, hP⟩⟩
  · clear HS
    go_wp2_with fail
    refine (HAW.out _ hf1).mono ?_
    rintro e w5 ⟨rfl, hf5⟩
    go_wp2_with fail
    go_ret
    exact ⟨rfl, hf1.trans hf5⟩
  · obtain ⟨ps, hps, hOP⟩ : ∃ ps, ps = partsOf m p l ∧ OnceP m p l ps := ⟨_, rfl, onceP hok hn⟩
    rw [← hps] at hP
    have HP := Lib.hid hP
    have HOK := Lib.hid hok
    have HOP := Lib.hid hOP
    have hpl := hOP.len
    obtain ⟨ua, uc, _, rfl, _, _⟩ := id hP
    clear hP hok HS hps hOP
    go_wp2_with fail
    go_loopw [9, 10] (fun vm vi wr => ∃ i : Nat, i ≤ ps.length ∧ vm = .int .i64 (manyTo ps i : Nat) ∧ vi = .int .i64 i ∧ Hid (Fr w1 wr)) (fun _ vi _ => ps.length - (intOf vi).toNat)
    case atStart => exact ⟨0, Nat.zero_le _, rfl, rfl, Fr.refl _⟩
    case round =>
      obtain ⟨i, hi, rfl, rfl, hf⟩ := hrel
      by_cases hit : i < ps.length
      · obtain ⟨_, _, g1, e1, hc1, hs1⟩ := HP.out.fr hf.out
        cases e1
        have hprev : ∀ h0 : 0 < i, ∃ (b : Nat) (N' : Nat), ua = some ⟨b, 0, none⟩ ∧ wr.cell? ⟨b, (i - 1) * 2, none⟩ = some (.int .i64 (N' : Nat)) ∧ N' < ps[i].1 := fun h0 => by
          obtain ⟨⟨b, hb1, x, _⟩, _⟩ := hs1 (i - 1) (by omega)
          exact ⟨b, _, hb1, x, HOP.out.st i (i - 1) hit (by omega)⟩
        obtain ⟨⟨b1, rfl, x1, y1⟩, R1⟩ := hs1 i hit
        obtain ⟨hrs, hne, hN64⟩ := HOP.out.ks i hit
        have HMS := Lib.hid (manyTo_succ hit)
        have hml := HOP.out.ml i (by omega)
        generalize ps[i] = q at x1 R1 hrs hne hN64 HMS hprev
        obtain ⟨N, rs⟩ := q
        simp only at x1 R1 hrs hne hN64 HMS hprev
        obtain ⟨ra1, rc1, h1, hcc1, hmm1, _⟩ := R1.is
        rw [h1] at y1 R1
        have HR1 := Lib.hid R1
        have lb1 := lt_of_cell x1
        simp only at lb1
        have HX1 := Lib.hid x1
        have HY1 := Lib.hid y1
        have HRS := Lib.hid hrs
        unfold maxLen at hmm1
        have hrl : 0 < rs.length := List.length_pos_iff.2 hne
        have hrz : ((rs.length : Int) == 0) = false := by simp; omega
        have hrl2 : rs.length ≤ 60 := by rw [hrs]; exact Nat.le_trans (inPart_len m p l N) hn
        clear hs1 h1 R1 hrs hne
        obtain ⟨wo, rfl⟩ : ∃ wo, wo = wr := ⟨_, rfl⟩
        generalize manyTo ps i = mi at hml HMS ⊢
        by_cases h0 : i = 0
        · have h0i : decide ((0 : Int) < (i : Int)) = false := decide_eq_false (by omega)
          have h0j : decide (0 < i) = false := decide_eq_false (by omega)
          have h0k : ¬ (0 < i) := by omega
          clear hprev h0
          go_wp2_with fail
          go_quiet (fail)
          clear x1 y1
          have x1 := ((Fr.refl wo).drewN nq).keep HX1.out
          have y1 := ((Fr.refl wo).drewN nq).keep HY1.out
          go_wp2_with fail
          clear x1 y1
          go_loopw [11, 12] (fun vk vn wr => ∃ n : Nat, n ≤ l.length ∧ vk = .int .i64 ((inPart m p (l.take n) N).length : Nat) ∧ vn = .int .i64 n ∧ Hid (Fr wo wr)) (fun _ vn _ => l.length - (intOf vn).toNat)
          case atStart => exact ⟨0, Nat.zero_le _, rfl, rfl, (Fr.refl _).drewN _⟩
          case round =>
            obtain ⟨n, hnl, rfl, rfl, hf3⟩ := hrel
            by_cases hnt : n < l.length
            · have hfa := hf1.trans (hf.out.trans hf3.out)
              obtain ⟨rb, ro, rfl, hrb, hz0⟩ := RdT.at HL.out hnt
              have hz := rangeAtK hz0 (hfa.block hrb)
              have hrbr : rb < wr.heap.size := Nat.lt_of_lt_of_le hrb hfa.size
              have hbd := HB.out l[n] (List.getElem_mem hnt)
              have hck := HOK.out l[n] (List.getElem_mem hnt)
              have HIX := Lib.hid (fun h => part_idx (m := m) (p := p) (N := N) hnt h)
              have HTK := Lib.hid (List.take_succ_eq_append_getElem hnt)
              have HSN := Lib.hid (inPart_snoc m p (l.take n) l[n] N)
              rw [← HTK.out] at HSN
              have hkl : (inPart m p (l.take n) N).length ≤ 60 := Nat.le_trans (inPart_len _ _ _ _) (by rw [List.length_take]; omega)
              generalize l[n] = r at hz HIX HTK HSN hbd hck
              have hop := op_mid hz
              have HOF := Lib.hid (ofYes_c (p := p) wr (HE.out.keep hfa) hbd hck)
              have HZ := Lib.hid hz
              clear hz0 hz hbd hck hfa HTK
              go_wp2_with ((with_reducible refine wpList_here (.load 27 (.tmp 84)) rfl ?_); refine wpList_load_midW 27 (.tmp 84) rfl rb (ro + n * 12 + 2) rfl _ _ hop Tryd.underlying27 rfl Tryd.infoOp5 rfl ?_)
              refine HOF.out.mono ?_
              rintro e w4 ⟨rfl, hf4⟩
              have HF4 := Lib.hid (hf3.out.trans hf4)
              have x1 := HF4.out.keep HX1.out
              have y1 := HF4.out.keep HY1.out
              have lb4 := lt_of_cell x1
              simp only at lb4
              have hz4 := rangeAtK HZ.out (hf4.block hrbr)
              have hrb4 : rb < w4.heap.size := Nat.lt_of_lt_of_le hrbr hf4.size
              clear hop HOF hf4 HZ
              by_cases hpn : pk m p r = N
              · have hpz : ((pk m p r : Int) != (N : Int)) = false := by simp [hpn]
                obtain ⟨hkk, hkr⟩ := HIX.out hpn
                have HSN2 : Hid ((inPart m p (l.take (n + 1)) N).length = (inPart m p (l.take n) N).length + 1) := Lib.hid (by rw [HSN.out, if_pos hpn, List.length_append]; rfl)
                have hkk2 : (inPart m p (l.take n) N).length < rs.length := by rw [HRS.out]; exact hkk
                have hrr : rs[(inPart m p (l.take n) N).length] = r := by
                  have h9 : ∀ (z : List TRow) (hz : z = inPart m p l N) (hk : (inPart m p (l.take n) N).length < z.length), z[(inPart m p (l.take n) N).length] = r := fun z hz hk => by subst hz; exact hkr
                  exact h9 rs HRS.out hkk2
                obtain ⟨p1, o1, e9, hp1, z1⟩ := RdT.at HR1.out hkk2
                rw [hrr] at z1
                subst e9
                have z1 := rangeAtK z1 (HF4.out.block hp1)
                have hp1 := Nat.lt_of_lt_of_le hp1 HF4.out.size
                clear hpn hkk hkr hrr HSN HIX
                generalize (inPart m p (l.take n) N).length = kk at *
                generalize pk m p r = pp at hpz
                have hne := row_neq r
                have hkki : decide ((rs.length : Int) ≤ (kk : Int)) = false := decide_eq_false (by omega)
                have hkkj : decide (rs.length ≤ kk) = false := decide_eq_false (by omega)
                have hkkk : ¬ (rs.length ≤ kk) := by omega
                go_wp2_with fail
                have e1 := FrW.cell y1
                have hex := FrW.range z1 hp1
                have hey := FrW.range hz4 hrb4
                have t1 : ∀ z : FrW w4, b1 < z.val.heap.size := fun z => Nat.lt_of_lt_of_le lb4 z.fr.size
                have t3 : ∀ z : FrW w4, p1 < z.val.heap.size := fun z => Nat.lt_of_lt_of_le hp1 z.fr.size
                have t4 : ∀ z : FrW w4, rb < z.val.heap.size := fun z => Nat.lt_of_lt_of_le hrb4 z.fr.size
                clear z1 hz4 x1 y1
                refine wp_region_fr (by kernel_rfl) (by kernel_rfl) ?_
                repeat (first | ((with_reducible refine wpQuiet_here (.load 32 (.tmp 114)) rfl ?_); refine wpQuiet_load_midD 115 rfl 32 (.tmp 114) rfl p1 (o1 + kk * 12) rfl _ _ hex Tryd.underlying32 rfl Tryd.infoRow rfl ?_; simp only [List.setIfInBounds_toArray, List.set_cons_succ, List.set_cons_zero]) | ((with_reducible refine wpQuiet_here (.load 32 (.tmp 118)) rfl ?_); refine wpQuiet_load_midD 119 rfl 32 (.tmp 118) rfl rb (ro + n * 12) rfl _ _ hey Tryd.underlying32 rfl Tryd.infoRow rfl ?_; simp only [List.setIfInBounds_toArray, List.set_cons_succ, List.set_cons_zero]) | go_big_quiet_step (fail))
                refine wpQuiet_nil ?_
                rintro w5 ⟨⟨_, hf5⟩, rfl⟩
                have hf6 := HF4.out.trans hf5
                clear hf5 e1 hex hey t1 t3 t4 hne
                go_wp2_with fail
                go_roundw
                case rel => exact ⟨n + 1, by omega, by rw [HSN2.out]; go_num, by go_num, hf6⟩
                case measure => first | (simp [intOf]; done) | (simp [intOf]; omega)
              · have hpz : ((pk m p r : Int) != (N : Int)) = true := by simp; omega
                have HSN2 : Hid (inPart m p (l.take (n + 1)) N = inPart m p (l.take n) N) := Lib.hid (by rw [HSN.out, if_neg hpn])
                have hf6 := HF4.out
                clear hpn HIX HSN hz4 y1
                generalize pk m p r = pp at hpz
                go_wp2_with fail
                go_roundw
                case rel => exact ⟨n + 1, by omega, by rw [HSN2.out], by go_num, hf6⟩
                case measure => first | (simp [intOf]; done) | (simp [intOf]; omega)
            · have hf6 := hf.out.trans hf3.out
              go_wp2_with fail
              go_roundw
              case rel => exact ⟨i + 1, by omega, by rw [HMS.out]; go_num, by go_num, hf6⟩
              case measure => first | (simp [intOf]; done) | (simp [intOf]; omega)
        · have h0i : decide ((0 : Int) < (i : Int)) = true := decide_eq_true (by omega)
          have h0j : decide (0 < i) = true := decide_eq_true (by omega)
          have h0k : 0 < i := by omega
          obtain ⟨b', N', e9, xp, hNN⟩ := hprev (by omega)
          cases e9
          have hjn : ((i : Int) - 1).toNat = i - 1 := by omega
          have hjl : (i : Int) - 1 < (ps.length : Int) := by omega
          have hNi : decide ((N : Int) ≤ (N' : Int)) = false := decide_eq_false (by omega)
          have hNj : decide (N ≤ N') = false := decide_eq_false (by omega)
          have hNk : ¬ (N ≤ N') := by omega
          clear hprev h0
          go_wp2_with fail
          go_quiet (fail)
          clear x1 y1 xp
          try (generalize ((i : Int) - 1) = im)
          have x1 := ((Fr.refl wo).drewN nq).keep HX1.out
          have y1 := ((Fr.refl wo).drewN nq).keep HY1.out
          go_wp2_with fail
          clear x1 y1
          go_loopw [11, 12] (fun vk vn wr => ∃ n : Nat, n ≤ l.length ∧ vk = .int .i64 ((inPart m p (l.take n) N).length : Nat) ∧ vn = .int .i64 n ∧ Hid (Fr wo wr)) (fun _ vn _ => l.length - (intOf vn).toNat)
          case atStart => exact ⟨0, Nat.zero_le _, rfl, rfl, (Fr.refl _).drewN _⟩
          case round =>
            obtain ⟨n, hnl, rfl, rfl, hf3⟩ := hrel
            by_cases hnt : n < l.length
            · have hfa := hf1.trans (hf.out.trans hf3.out)
              obtain ⟨rb, ro, rfl, hrb, hz0⟩ := RdT.at HL.out hnt
              have hz := rangeAtK hz0 (hfa.block hrb)
              have hrbr : rb < wr.heap.size := Nat.lt_of_lt_of_le hrb hfa.size
              have hbd := HB.out l[n] (List.getElem_mem hnt)
              have hck := HOK.out l[n] (List.getElem_mem hnt)
              have HIX := Lib.hid (fun h => part_idx (m := m) (p := p) (N := N) hnt h)
              have HTK := Lib.hid (List.take_succ_eq_append_getElem hnt)
              have HSN := Lib.hid (inPart_snoc m p (l.take n) l[n] N)
              rw [← HTK.out] at HSN
              have hkl : (inPart m p (l.take n) N).length ≤ 60 := Nat.le_trans (inPart_len _ _ _ _) (by rw [List.length_take]; omega)
              generalize l[n] = r at hz HIX HTK HSN hbd hck
              have hop := op_mid hz
              have HOF := Lib.hid (ofYes_c (p := p) wr (HE.out.keep hfa) hbd hck)
              have HZ := Lib.hid hz
              clear hz0 hz hbd hck hfa HTK
              go_wp2_with ((with_reducible refine wpList_here (.load 27 (.tmp 84)) rfl ?_); refine wpList_load_midW 27 (.tmp 84) rfl rb (ro + n * 12 + 2) rfl _ _ hop Tryd.underlying27 rfl Tryd.infoOp5 rfl ?_)
              refine HOF.out.mono ?_
              rintro e w4 ⟨rfl, hf4⟩
              have HF4 := Lib.hid (hf3.out.trans hf4)
              have x1 := HF4.out.keep HX1.out
              have y1 := HF4.out.keep HY1.out
              have lb4 := lt_of_cell x1
              simp only at lb4
              have hz4 := rangeAtK HZ.out (hf4.block hrbr)
              have hrb4 : rb < w4.heap.size := Nat.lt_of_lt_of_le hrbr hf4.size
              clear hop HOF hf4 HZ
              by_cases hpn : pk m p r = N
              · have hpz : ((pk m p r : Int) != (N : Int)) = false := by simp [hpn]
                obtain ⟨hkk, hkr⟩ := HIX.out hpn
                have HSN2 : Hid ((inPart m p (l.take (n + 1)) N).length = (inPart m p (l.take n) N).length + 1) := Lib.hid (by rw [HSN.out, if_pos hpn, List.length_append]; rfl)
                have hkk2 : (inPart m p (l.take n) N).length < rs.length := by rw [HRS.out]; exact hkk
                have hrr : rs[(inPart m p (l.take n) N).length] = r := by
                  have h9 : ∀ (z : List TRow) (hz : z = inPart m p l N) (hk : (inPart m p (l.take n) N).length < z.length), z[(inPart m p (l.take n) N).length] = r := fun z hz hk => by subst hz; exact hkr
                  exact h9 rs HRS.out hkk2
                obtain ⟨p1, o1, e9, hp1, z1⟩ := RdT.at HR1.out hkk2
                rw [hrr] at z1
                subst e9
                have z1 := rangeAtK z1 (HF4.out.block hp1)
                have hp1 := Nat.lt_of_lt_of_le hp1 HF4.out.size
                clear hpn hkk hkr hrr HSN HIX
                generalize (inPart m p (l.take n) N).length = kk at *
                generalize pk m p r = pp at hpz
                have hne := row_neq r
                have hkki : decide ((rs.length : Int) ≤ (kk : Int)) = false := decide_eq_false (by omega)
                have hkkj : decide (rs.length ≤ kk) = false := decide_eq_false (by omega)
                have hkkk : ¬ (rs.length ≤ kk) := by omega
                go_wp2_with fail
                have e1 := FrW.cell y1
                have hex := FrW.range z1 hp1
                have hey := FrW.range hz4 hrb4
                have t1 : ∀ z : FrW w4, b1 < z.val.heap.size := fun z => Nat.lt_of_lt_of_le lb4 z.fr.size
                have t3 : ∀ z : FrW w4, p1 < z.val.heap.size := fun z => Nat.lt_of_lt_of_le hp1 z.fr.size
                have t4 : ∀ z : FrW w4, rb < z.val.heap.size := fun z => Nat.lt_of_lt_of_le hrb4 z.fr.size
                clear z1 hz4 x1 y1
                refine wp_region_fr (by kernel_rfl) (by kernel_rfl) ?_
                repeat (first | ((with_reducible refine wpQuiet_here (.load 32 (.tmp 114)) rfl ?_); refine wpQuiet_load_midD 115 rfl 32 (.tmp 114) rfl p1 (o1 + kk * 12) rfl _ _ hex Tryd.underlying32 rfl Tryd.infoRow rfl ?_; simp only [List.setIfInBounds_toArray, List.set_cons_succ, List.set_cons_zero]) | ((with_reducible refine wpQuiet_here (.load 32 (.tmp 118)) rfl ?_); refine wpQuiet_load_midD 119 rfl 32 (.tmp 118) rfl rb (ro + n * 12) rfl _ _ hey Tryd.underlying32 rfl Tryd.infoRow rfl ?_; simp only [List.setIfInBounds_toArray, List.set_cons_succ, List.set_cons_zero]) | go_big_quiet_step (fail))
                refine wpQuiet_nil ?_
                rintro w5 ⟨⟨_, hf5⟩, rfl⟩
                have hf6 := HF4.out.trans hf5
                clear hf5 e1 hex hey t1 t3 t4 hne
                go_wp2_with fail
                go_roundw
                case rel => exact ⟨n + 1, by omega, by rw [HSN2.out]; go_num, by go_num, hf6⟩
                case measure => first | (simp [intOf]; done) | (simp [intOf]; omega)
              · have hpz : ((pk m p r : Int) != (N : Int)) = true := by simp; omega
                have HSN2 : Hid (inPart m p (l.take (n + 1)) N = inPart m p (l.take n) N) := Lib.hid (by rw [HSN.out, if_neg hpn])
                have hf6 := HF4.out
                clear hpn HIX HSN hz4 y1
                generalize pk m p r = pp at hpz
                go_wp2_with fail
                go_roundw
                case rel => exact ⟨n + 1, by omega, by rw [HSN2.out], by go_num, hf6⟩
                case measure => first | (simp [intOf]; done) | (simp [intOf]; omega)
            · have hf6 := hf.out.trans hf3.out
              go_wp2_with fail
              go_roundw
              case rel => exact ⟨i + 1, by omega, by rw [HMS.out]; go_num, by go_num, hf6⟩
              case measure => first | (simp [intOf]; done) | (simp [intOf]; omega)
      · obtain rfl : i = ps.length := by omega
        have hF := hf1.trans hf.out
        rw [HOP.out.ma]
        clear hf
        go_wp2_with fail
        refine (HAW.out _ hF).mono ?_
        rintro e w5 ⟨rfl, hf5⟩
        go_wp2_with fail
        go_ret
        exact ⟨rfl, hF.trans hf5⟩
set_option maxRecDepth 100000 in
/-- PartOnce: of any model, any rows. -/
theorem partOnce_c (m : Nat) (p : Bool) (l : List TRow) (v : Value) (w : World) (hE : Env w) (hl : RdT w v l) (hb : Bnd l) (hm : m ≤ 255) :
    Calls Tryd.prog 4 #[.int .u8 m, v, .bool p] w fun e w' => e = .returned (.bool true) ∧ Fr w w' := by
  by_cases hn : l.length ≤ 60
  · exact onceOn_c m p l v w hE hl hb hn hm
  · have HAW := Lib.hid (fun W (f : Fr w W) => awake_c W (hE.keep f))
    obtain ⟨a, cap, rfl, hcap, hmax, _⟩ := hl.is
    unfold maxLen at hmax
    have h1i : (60 : Int) < (l.length : Int) := by omega
    clear hl hE hb hn
    go_enter Tryd.func4, Tryd.ntmps4
    go_wp2_with fail
    refine (HAW.out _ (Fr.refl _)).mono ?_
    rintro e w5 ⟨rfl, hf5⟩
    go_wp2_with fail
    go_ret
    exact ⟨rfl, hf5⟩
end Go.Proofs.YthlngegfodomgaaDoor
