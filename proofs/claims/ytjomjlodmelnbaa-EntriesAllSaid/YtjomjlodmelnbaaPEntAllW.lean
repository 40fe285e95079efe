/- umpirelaw16.EntriesAll: the law's walk. No condition but how many rows there are. -/
import Derived.Test.YtjomjlodmelnbaaPEntAllP
import Derived.Test.YtjomjlodmelnbaaPEntOrdB
set_option linter.all false
set_option linter.unusedVariables false
set_option linter.unusedSimpArgs false
set_option linter.unnecessarySimpa false
/- umpirelaw16.EntriesAll: the law's walk. No condition but how many rows there are. -/
namespace Go.Proofs.Ytjomjlodmelnbaa
open Go.RowKit Go.Sort
attribute [local go_sem] Oper.semAt_some

def dIn (up : List Nat) (k : Nat) : Nat := if up.contains k then 1 else 0
/-- The list, which rows are done, the order. -/
structure AllZ (w0 w : World) (x : Nat) (rs : List ERow) (gd : Nat) (dn up : List Nat) (vo : Value) (Z : Nat → Prop) : Prop where
  frm : Fr w0 w
  lst : Lst w0.heap.size w x rs [] Z
  own : w.ownsRow w0.heap.size 3 1 vo up.length (up.map intV)
  sep : ∀ g, vo.ownBlock = some g → ¬ Z g ∧ g ≠ gd
  zgd : ¬ Z gd
  ge : w0.heap.size ≤ gd
  lt : gd < w.heap.size
  done : ∀ k, k < rs.length → Cel w gd k (.int .i64 (dIn dn k))
def AllA (w0 w : World) (x : Nat) (l : List TRow) (gd : Nat) (dn up : List Nat) (vo : Value) : Prop := ∃ Z, AllZ w0 w x (eRows l) gd dn up vo Z
theorem AllZ.fr {w0 w w' : World} {x : Nat} {rs : List ERow} {gd : Nat} {dn up : List Nat} {vo : Value} {Z : Nat → Prop} (H : AllZ w0 w x rs gd dn up vo Z) (f : Fr w w') : AllZ w0 w' x rs gd dn up vo Z :=
  ⟨H.frm.trans f, H.lst.fr f, ownsRow_kept2 H.own fun g hg => f.block (World.ownsRow.lt H.own g hg).2, H.sep, H.zgd, H.ge, Nat.lt_of_lt_of_le H.lt f.size, fun k hk => (H.done k hk).fr f⟩
theorem dIn_snoc (up : List Nat) (m k : Nat) : dIn (up ++ [m]) k = if k = m then 1 else dIn up k := by
  unfold dIn
  by_cases h : k = m
  · subst h; simp
  · simp [h]
theorem AllZ.store {w0 w : World} {x : Nat} {rs : List ERow} {gd : Nat} {dn up : List Nat} {vo : Value} {Z : Nat → Prop} (H : AllZ w0 w x rs gd dn up vo Z) {m : Nat} (hm : m < rs.length) : AllZ w0 (w.setCell ⟨gd, m, none⟩ (.int .i64 1)) x rs gd (dn ++ [m]) up vo Z := by
  have k : Chg (fun b => b = gd) w (w.setCell ⟨gd, m, none⟩ (.int .i64 1)) := (Chg.refl (fun b => b = gd) w).set (p := ⟨gd, m, none⟩) (.inr rfl) _
  refine ⟨k.fr H.frm (fun b hb => by rw [hb]; exact H.ge), H.lst.keep k (fun b hb e => H.zgd (by rw [← e]; exact hb)), ownsRow_kept2 H.own fun g hg => k.block g (World.ownsRow.lt H.own g hg).2 (H.sep g hg).2, H.sep, H.zgd, H.ge, Nat.lt_of_lt_of_le H.lt k.size, fun j hj => ?_⟩
  rw [dIn_snoc]
  by_cases h : j = m
  · subst h; rw [if_pos rfl]; exact (H.done j hj).set _
  · rw [if_neg h]; exact (H.done j hj).keepSet (.inr h) _
theorem AllZ.append {w0 w w1 w2 : World} {x : Nat} {rs : List ERow} {gd : Nat} {dn up up' : List Nat} {vo v' : Value} {Z : Nat → Prop} (H : AllZ w0 w x rs gd dn up vo Z) (f : Fr w w1) (k : Chg (fun b => vo.ownBlock = some b) w1 w2) (hO : w2.ownsRow w0.heap.size 3 1 v' up'.length (up'.map intV)) (hat : ∀ g, v'.ownBlock = some g → vo.ownBlock = some g ∨ w.heap.size ≤ g) : AllZ w0 w2 x rs gd dn up' v' Z := by
  refine ⟨k.fr (H.frm.trans f) (fun g hg => (World.ownsRow.lt H.own g hg).1), (H.lst.fr f).keep k (fun b hb hv => (H.sep b hv).1 hb), hO, fun g hg => ?_, H.zgd, H.ge, Nat.lt_of_lt_of_le H.lt (Nat.le_trans f.size k.size), fun j hj => ((H.done j hj).fr f).chg k (fun e => (H.sep gd e).2 rfl)⟩
  rcases hat g hg with h | h
  · exact H.sep g h
  · exact ⟨fun hz => by have := H.lst.lt g hz; omega, fun e => by have := H.lt; omega⟩
theorem ups_snoc2 {n : Nat} {rs : List ERow} {up : List Nat} {i : Nat} (h : up.Nodup ∧ ∀ k ∈ up, k < n) (hi : isNext rs up i) (hn : rs.length = n := by assumption) : (up ++ [i]).Nodup ∧ ∀ k ∈ up ++ [i], k < n := by
  refine ⟨List.nodup_append.2 ⟨h.1, by simp, fun a ha c hc => by rw [List.mem_singleton] at hc; subst hc; rintro rfl; exact hi.1 ha⟩, fun k hk => ?_⟩
  rcases List.mem_append.1 hk with hk | hk
  · exact h.2 k hk
  · rw [List.mem_singleton] at hk; subst hk; rw [← hn]; exact hi.2.1
theorem mk_ints (n : Nat) (hn : n ≤ 20) (W : World) : (Instr.makeSlice 27 (.int .i64 (n : Int)) (.int .i64 (n : Int))).run Try.prog W = .ok (.slice (some ⟨W.heap.size, 0, none⟩) n n) (W.alloc (.cells (madeCells #[.int .i64 0] n) 3)) := by
  obtain ⟨i0, hi0, hz0, hz1, hz2⟩ := info_parts Try.infoIntB
  have hr := run_make (P := Try.prog) W 27 3 i0 _ Try.underlying27 hi0 hz0 .i64 .i64 n n (by omega) (Int.le_refl _) (by rw [hz2]; omega) (by omega)
  simp only [Int.toNat_natCast, hz1, Nat.mul_one] at hr
  exact hr
set_option maxRecDepth 100000 in
set_option maxHeartbeats 16000000 in
theorem allOn_c (l : List TRow) (v : Value) (cs : List Nat) (u : Value) (w : World) (hl : RdT w v l) (hn : l.length ≤ 20) (hu : RdU w u cs) (hcs : cs.length ≤ maxLen) (hm : mayRows (eRows l) = true) :
    Calls Try.prog 3 #[v, u] w fun e w' => e = .returned (.bool true) ∧ Fr w w' := by
  have HW := Lib.hid (fun W => works16_c W)
  have HY := Lib.hid (fun (W : World) (f : Fr w W) => newYes_c (base := w.heap.size) l v W (hl.keep f) (by omega) hm f.size)
  have HU := Lib.hid hu
  have HLR := Lib.hid hl
  have HMR := Lib.hid hm
  have HB := Lib.hid before_c
  have HLEN := Lib.hid (eRows_len l)
  have hmk := mk_ints l.length hn
  obtain ⟨a, cap, rfl, hcap, hmax, _⟩ := id hl
  unfold maxLen at hmax hcs
  clear hl hm
  obtain ⟨b, cb, rfl, hcb, _⟩ := id hu
  clear hu
  have h1i : ¬ (20 : Int) < (l.length : Int) := by omega
  go_enter Try.func3, Try.ntmps3
  go_wp2_with fail
  refine (HY.out _ (Fr.refl _)).mono ?_
  rintro e w1 ⟨hf1, x, Zx, rfl, hLx, hZx⟩
  have HA : Hid (AllA w (w1.alloc (.cells (madeCells #[.int .i64 0] l.length) 3)) x l w1.heap.size [] [] (.slice none 0 0)) := by
    refine ⟨Zx, hf1.alloc _, hLx.fr ((Fr.refl _).alloc _), World.ownsRow_nil _ _ _ _, fun g hg => (by cases hg), fun hz => (by have := hLx.lt _ hz; omega), hf1.size, by simp, fun k hk => ?_⟩
    rw [HLEN.out] at hk
    refine (BoxAt.new w1 (madeCells #[.int .i64 0] l.length) 3).cel k ?_
    simp [madeCells, hk, Nat.mod_one, dIn]
  clear hLx hZx hf1 HY
  go_wp2_with fail
  clear hmk
  generalize w1.heap.size = gd at HA ⊢
  go_loopw [6, 8] (fun vo vn wr => ∃ (up : List Nat) (oa : Option Addr) (oc : Nat), up.length ≤ l.length ∧ vo = .slice oa up.length oc ∧ vn = .int .i64 up.length ∧ Hid (AllA w wr x l gd up up (.slice oa up.length oc) ∧ GoodUp (eRows l) up ∧ up.Nodup ∧ ∀ k ∈ up, k < l.length)) (fun _ vn _ => l.length - (intOf vn).toNat)
  case atStart => exact ⟨[], none, 0, Nat.zero_le _, rfl, rfl, ⟨HA.out, GoodUp.nil _, by simp, by simp⟩⟩
  case round =>
    clear HA
    obtain ⟨up, oa, oc, hk, rfl, rfl, HO⟩ := hrel
    obtain ⟨wo, rfl⟩ : ∃ wo, wo = wr := ⟨_, rfl⟩
    by_cases hlt : up.length < l.length
    · have HG := Lib.hid HO.out.2
      obtain ⟨Z, HA⟩ := HO.out.1
      have HA := Lib.hid HA
      have HGD := Lib.hid HA.out.lt
      clear HO
      go_wp2_with fail
      go_loopw [9, 10] (fun vm vi wr2 => ∃ (i : Nat) (ma : Option Addr) (mc : Nat), i ≤ l.length ∧ vm = .slice ma (mayL (eRows l) up i).length mc ∧ vi = .int .i64 i ∧ Hid (Fr wo wr2 ∧ wr2.ownsRow wo.heap.size 3 1 (.slice ma (mayL (eRows l) up i).length mc) (mayL (eRows l) up i).length ((mayL (eRows l) up i).map intV))) (fun _ vi _ => l.length - (intOf vi).toNat)
      case atStart => exact ⟨0, none, 0, Nat.zero_le _, rfl, rfl, ⟨Fr.refl _, World.ownsRow_nil _ _ _ _⟩⟩
      case round =>
        obtain ⟨i, ma, mc, hi, rfl, rfl, HM⟩ := hrel
        obtain ⟨wi, rfl⟩ : ∃ wi, wi = wr := ⟨_, rfl⟩
        by_cases hit : i < l.length
        · have hir : i < (eRows l).length := by rw [HLEN.out]; exact hit
          have hcd := ((HA.out.fr HM.out.1).done i hir).1
          have lgd := ((HA.out.fr HM.out.1).done i hir).lt
          have hd0 : (((dIn up i : Nat) : Int) == 0) = freeTo (eRows l) up i 0 := by
            rw [freeTo_zero hir]; unfold dIn; cases up.contains i <;> rfl
          generalize dIn up i = d at hcd hd0
          go_wp2_with fail
          clear hcd hd0
          go_loopw [11, 12] (fun vf vk wr3 => ∃ k : Nat, k ≤ l.length ∧ vf = .bool (freeTo (eRows l) up i k) ∧ vk = .int .i64 k ∧ Hid (Fr wi wr3)) (fun _ vk _ => l.length - (intOf vk).toNat)
          case atStart => exact ⟨0, Nat.zero_le _, rfl, rfl, Fr.refl _⟩
          case round =>
            obtain ⟨k, hk3, rfl, rfl, HF3⟩ := hrel
            by_cases hkt : k < l.length
            · have hkr : k < (eRows l).length := by rw [HLEN.out]; exact hkt
              have hfs := freeTo_succ (rs := eRows l) (up := up) hir hkr
              rw [eRows_at l hit, eRows_at l hkt] at hfs
              have hA3 := HA.out.fr (HM.out.1.trans HF3.out)
              have hck := (hA3.done k hkr).1
              have lgd3 := hA3.lt
              have hd1 : (((dIn up k : Nat) : Int) == 1) = up.contains k := by unfold dIn; cases up.contains k <;> rfl
              obtain ⟨b1, o1, e3, hb1, hx0⟩ := RdT.at HLR.out hkt
              obtain ⟨b2, o2, e4, hb2, hy0⟩ := RdT.at HLR.out hit
              subst e3
              cases e4
              have hx := rangeAtK hx0 (hA3.frm.block hb1)
              have hy := rangeAtK hy0 (hA3.frm.block hb1)
              have hb1r : b1 < wr.heap.size := Nat.lt_of_lt_of_le hb1 hA3.frm.size
              have hBF := HB.out l[k] l[i]
              clear hx0 hy0 hA3
              generalize beforeB l[k].e l[i].e = bb at hfs hBF
              have HBF := Lib.hid hBF
              generalize l[k] = y at hx HBF hBF
              generalize l[i] = z at hy HBF hBF
              clear hBF
              have e2 := FrW.cell hck
              have hex := FrW.range hx hb1r
              have hey := FrW.range hy hb1r
              have hlt0 : ∀ z : FrW wr, gd < z.val.heap.size := fun z => Nat.lt_of_lt_of_le lgd3 z.fr.size
              have hlt1 : ∀ z : FrW wr, b1 < z.val.heap.size := fun z => Nat.lt_of_lt_of_le hb1r z.fr.size
              generalize dIn up k = dk at hck hd1 e2
              generalize up.contains k = uc at hfs hd1
              have HFS := Lib.hid hfs
              clear hfs
              generalize freeTo (eRows l) up i k = ff at HFS ⊢
              cases ff
              · clear hx hy hex hey e2 hlt0 hlt1
                go_wp2_with fail
                go_quiet (fail)
                clear hck
                have HF5 := Lib.hid (HF3.out.drewN nq)
                clear HF3 HBF
                go_wp2_with fail
                go_roundw
                case rel => exact ⟨k + 1, by omega, by rw [HFS.out]; rfl, by go_num, HF5⟩
                case measure => first | (simp [intOf]; done) | (simp [intOf]; omega)
              · cases uc
                · cases bb
                  · go_wp2_with fail
                    clear hx hy hck
                    refine wp_region_fr (by kernel_rfl) (by kernel_rfl) ?_
                    repeat (first | ((with_reducible refine wpQuiet_here (.load 35 (.tmp 65)) rfl ?_); refine wpQuiet_load_midD 66 rfl 35 (.tmp 65) rfl b1 (o1 + k * 12) rfl _ _ hex Try.underlying35 rfl Try.infoRow rfl ?_; simp only [List.setIfInBounds_toArray, List.set_cons_succ, List.set_cons_zero]) | ((with_reducible refine wpQuiet_here (.load 35 (.tmp 69)) rfl ?_); refine wpQuiet_load_midD 70 rfl 35 (.tmp 69) rfl b1 (o1 + i * 12) rfl _ _ hey Try.underlying35 rfl Try.infoRow rfl ?_; simp only [List.setIfInBounds_toArray, List.set_cons_succ, List.set_cons_zero]) | go_big_quiet_step ((go_at_call 10; exact frq (HBF.out _)))) 
                    refine wpQuiet_nil ?_
                    rintro w5 ⟨⟨_, hf5⟩, rfl⟩
                    have HF5 := Lib.hid (HF3.out.trans hf5)
                    clear HF3 HBF hf5 e2 hex hey hlt0 hlt1
                    go_wp2_with fail
                    go_roundw
                    case rel => exact ⟨k + 1, by omega, by rw [HFS.out]; rfl, by go_num, HF5⟩
                    case measure => first | (simp [intOf]; done) | (simp [intOf]; omega)
                  · go_wp2_with fail
                    clear hx hy hck
                    refine wp_region_fr (by kernel_rfl) (by kernel_rfl) ?_
                    repeat (first | ((with_reducible refine wpQuiet_here (.load 35 (.tmp 65)) rfl ?_); refine wpQuiet_load_midD 66 rfl 35 (.tmp 65) rfl b1 (o1 + k * 12) rfl _ _ hex Try.underlying35 rfl Try.infoRow rfl ?_; simp only [List.setIfInBounds_toArray, List.set_cons_succ, List.set_cons_zero]) | ((with_reducible refine wpQuiet_here (.load 35 (.tmp 69)) rfl ?_); refine wpQuiet_load_midD 70 rfl 35 (.tmp 69) rfl b1 (o1 + i * 12) rfl _ _ hey Try.underlying35 rfl Try.infoRow rfl ?_; simp only [List.setIfInBounds_toArray, List.set_cons_succ, List.set_cons_zero]) | go_big_quiet_step ((go_at_call 10; exact frq (HBF.out _)))) 
                    refine wpQuiet_nil ?_
                    rintro w5 ⟨⟨_, hf5⟩, rfl⟩
                    have HF5 := Lib.hid (HF3.out.trans hf5)
                    clear HF3 HBF hf5 e2 hex hey hlt0 hlt1
                    go_wp2_with fail
                    go_roundw
                    case rel => exact ⟨k + 1, by omega, by rw [HFS.out]; rfl, by go_num, HF5⟩
                    case measure => first | (simp [intOf]; done) | (simp [intOf]; omega)
                · clear hx hy hex hey e2 hlt0 hlt1
                  go_wp2_with fail
                  go_quiet (fail)
                  clear hck
                  have HF5 := Lib.hid (HF3.out.drewN nq)
                  clear HF3 HBF
                  go_wp2_with fail
                  go_roundw
                  case rel => exact ⟨k + 1, by omega, by rw [HFS.out]; rfl, by go_num, HF5⟩
                  case measure => first | (simp [intOf]; done) | (simp [intOf]; omega)
            · obtain rfl : k = l.length := by omega
              have hfa := freeTo_all (eRows l) up i
              rw [HLEN.out] at hfa
              have hms := mayL_succ (eRows l) up i
              rw [← hfa] at hms
              have HMS := Lib.hid hms
              clear hms hfa
              cases hff : freeTo (eRows l) up i l.length
              · rw [hff, if_neg (by simp)] at HMS
                have HM2 : Hid (Fr wo wr ∧ wr.ownsRow wo.heap.size 3 1 (.slice ma (mayL (eRows l) up (i + 1)).length mc) (mayL (eRows l) up (i + 1)).length ((mayL (eRows l) up (i + 1)).map intV)) := by
                  rw [HMS.out]
                  exact ⟨HM.out.1.trans HF3.out, ownsRow_kept2 HM.out.2 fun g hg => HF3.out.block (World.ownsRow.lt HM.out.2 g hg).2⟩
                clear hff
                go_wp2_with fail
                go_roundw
                case rel => exact ⟨i + 1, ma, mc, by omega, by rw [HMS.out], by go_num, HM2⟩
                case measure => first | (simp [intOf]; done) | (simp [intOf]; omega)
              · rw [hff, if_pos rfl] at HMS
                have hlm : (mayL (eRows l) up i).length ≤ 7036874417600 := Nat.le_trans (mayL_len _ _ _) (by omega)
                have HMO : Hid (wr.ownsRow wo.heap.size 3 1 (.slice ma (mayL (eRows l) up i).length mc) (mayL (eRows l) up i).length ((mayL (eRows l) up i).map intV)) := ownsRow_kept2 HM.out.2 fun g hg => HF3.out.block (World.ownsRow.lt HM.out.2 g hg).2
                have HF6 := Lib.hid (HM.out.1.trans HF3.out)
                have hown := World.ownsRow.alloc HMO.out (.cells #[.int .i64 i] 3)
                have hy : (wr.alloc (.cells #[.int .i64 i] 3)).cell? ⟨wr.heap.size, 0, none⟩ = some (intV i) := (BoxAt.new' wr #[.int .i64 i] 3 _ (by simp)).at 0 rfl
                have hsz := (HF6.out.alloc (.cells #[.int .i64 i] 3)).size
                clear hff HM HF3
                go_wp2_with (at_builtin; refine wpList_appendInt rfl (.tmp 76) (.tmp 78) rfl (.slice ma (mayL (eRows l) up i).length mc) (mayL (eRows l) up i) rfl hown hsz wr.heap.size 1 i rfl hy hlm ?_)
                intro va vn vc w5 hO5a hch5 hat5
                have HM2 : Hid (Fr wo w5 ∧ w5.ownsRow wo.heap.size 3 1 (.slice va vn vc) (mayL (eRows l) up (i + 1)).length ((mayL (eRows l) up (i + 1)).map intV)) := by
                  rw [HMS.out]
                  refine ⟨hch5.fr (HF6.out.alloc _) (fun g hg => (World.ownsRow.lt HMO.out g hg).1), ?_⟩
                  simpa using hO5a
                obtain ⟨_, _, e5⟩ := ints_at HM2.out.2
                cases e5
                clear hO5a hch5 hat5 hown hy hsz HMO HF6
                go_wp2_with fail
                go_roundw
                case rel => exact ⟨i + 1, va, vc, by omega, rfl, by go_num, HM2⟩
                case measure => first | (simp [intOf]; done) | (simp [intOf]; omega)
        · obtain rfl : i = l.length := by omega
          have hne := mayL_some HMR.out (up := up) (by rw [HLEN.out]; exact hlt)
          have HMN : Hid (∀ m ∈ mayL (eRows l) up l.length, isNext (eRows l) up m) := fun m hm => (mem_mayL.1 hm).2
          rw [HLEN.out] at hne
          have hM20 : (mayL (eRows l) up l.length).length ≤ 20 := Nat.le_trans (mayL_len _ _ _) hn
          generalize mayL (eRows l) up l.length = M at HM hne HMN hM20 ⊢
          have hM0 : 0 < M.length := List.length_pos_iff.2 hne
          have HSE : Hid (∀ g, (Value.slice ma M.length mc).ownBlock = some g → wo.heap.size ≤ g) := fun g hg => (World.ownsRow.lt HM.out.2 g hg).1
          obtain ⟨_, _, e1, hlc, hg2⟩ := ints_form HM.out.2
          cases e1
          have HG2 := Lib.hid hg2
          have HA := Lib.hid (HA.out.fr HM.out.1)
          have hMz : ((M.length : Int) == 0) = false := by rw [beqN0]; exact decide_eq_false (by omega)
          clear hg2 hne HM
          by_cases hc0 : cs.length = 0
          · have hc0i : ¬ (0 : Int) < (cs.length : Int) := by omega
            clear hc0
            have hj : 0 < M.length := hM0
            obtain ⟨m, hm⟩ : ∃ m, M[0] = m := ⟨_, rfl⟩
            have hni := HMN.out M[0] (List.getElem_mem hj)
            obtain ⟨gm, hg1, hcg⟩ := HG2.out 0 hj
            rw [hm] at hni hcg
            have hml : m < l.length := by have := hni.2.1; rw [HLEN.out] at this; exact this
            have HNI := Lib.hid hni
            subst hg1
            unfold intV at hcg
            have lg := lt_of_cell hcg
            simp only at lg
            have hgm := HSE.out gm rfl
            have hcd := HA.out.done m hni.2.1
            have hc1 := hcd.1
            have hc2 := hcd.2
            have lgd := hcd.lt
            have hng : gd ≠ gm := by have := HGD.out; omega
            have hng2 : gm ≠ gd := Ne.symm hng
            have hAS := HA.out.store hni.2.1
            have hcg4 : (wi.setCell ⟨gd, m, none⟩ (.int .i64 1)).cell? ⟨gm, 0, none⟩ = some (.int .i64 m) := (World.cell?_setCell_other wi _ _ _ (fun e => hng (congrArg Addr.block e))).trans hcg
            have hown := (hAS.fr ((Fr.refl _).alloc (.cells #[.int .i64 m] 3))).own
            have hy : ((wi.setCell ⟨gd, m, none⟩ (.int .i64 1)).alloc (.cells #[.int .i64 m] 3)).cell? ⟨wi.heap.size, 0, none⟩ = some (intV m) := (BoxAt.new' (wi.setCell ⟨gd, m, none⟩ (.int .i64 1)) #[.int .i64 m] 3 _ (by simp)).at 0 rfl
            have hsz : w.heap.size ≤ ((wi.setCell ⟨gd, m, none⟩ (.int .i64 1)).alloc (.cells #[.int .i64 m] 3)).heap.size := (hAS.frm.alloc _).size
            have HAS := Lib.hid hAS
            have HWI := Lib.hid (show (wi.setCell ⟨gd, m, none⟩ (.int .i64 1)).heap.size ≤ wi.heap.size by simp)
            clear hAS hm hni hcd HA
            go_wp2_with (at_builtin; refine wpList_appendInt (base := w.heap.size) rfl (.tmp 103) (.tmp 108) rfl (.slice oa up.length oc) up rfl hown hsz wi.heap.size 1 m rfl hy (by omega) ?_)
            intro va vn vc w5 hO5a hch5 hat5
            have hO5 : w5.ownsRow w.heap.size 3 1 (.slice va vn vc) (up ++ [m]).length ((up ++ [m]).map intV) := by simpa using hO5a
            have hA6 := Lib.hid (HAS.out.append ((Fr.refl _).alloc _) hch5 hO5 (fun g hg => (hat5 g hg).imp id (fun e => by have := HWI.out; simp at e ⊢; omega)))
            obtain ⟨_, _, e5⟩ := ints_at hO5
            cases e5
            clear hO5 hO5a hch5 hat5 hown hy hsz HAS hcg4 hcg hc1 hc2
            go_wp2_with fail
            go_roundw
            case rel => exact ⟨up ++ [m], va, vc, by simp; omega, rfl, by simp, ⟨⟨Z, hA6.out⟩, HG.out.1.snoc HNI.out, ups_snoc2 HG.out.2 HNI.out HLEN.out⟩⟩
            case measure => first | (simp [intOf]; done) | (simp [intOf]; omega)
          · have hc0i : (0 : Int) < (cs.length : Int) := by omega
            have hjl : up.length % cs.length < cs.length := Nat.mod_lt _ (by omega)
            obtain ⟨hub, hcell⟩ := (show (∀ b ∈ cs, b < 256) ∧ _ from by obtain ⟨_, _, h1, _, h2, h3⟩ := HU.out; cases h1; exact ⟨h2, h3⟩)
            obtain ⟨gc, o, rfl, hgc⟩ := hcell _ hjl
            have hgc := HA.out.frm.keep hgc
            have lgc := lt_of_cell hgc
            simp only at lgc
            have h256 := hub cs[up.length % cs.length] (List.getElem_mem hjl)
            clear hcell hub
            generalize cs[up.length % cs.length] = c at hgc h256
            have hj : c % M.length < M.length := Nat.mod_lt _ hM0
            obtain ⟨m, hm⟩ : ∃ m, M[c % M.length] = m := ⟨_, rfl⟩
            have hni := HMN.out M[c % M.length] (List.getElem_mem hj)
            obtain ⟨gm, hg1, hcg⟩ := HG2.out (c % M.length) hj
            rw [hm] at hni hcg
            have hml : m < l.length := by have := hni.2.1; rw [HLEN.out] at this; exact this
            have HNI := Lib.hid hni
            subst hg1
            unfold intV at hcg
            have lg := lt_of_cell hcg
            simp only at lg
            have hgm := HSE.out gm rfl
            have hcd := HA.out.done m hni.2.1
            have hc1 := hcd.1
            have hc2 := hcd.2
            have lgd := hcd.lt
            have hng : gd ≠ gm := by have := HGD.out; omega
            have hng2 : gm ≠ gd := Ne.symm hng
            have hAS := HA.out.store hni.2.1
            have hcg4 : (wi.setCell ⟨gd, m, none⟩ (.int .i64 1)).cell? ⟨gm, (c % M.length), none⟩ = some (.int .i64 m) := (World.cell?_setCell_other wi _ _ _ (fun e => hng (congrArg Addr.block e))).trans hcg
            have hown := (hAS.fr ((Fr.refl _).alloc (.cells #[.int .i64 m] 3))).own
            have hy : ((wi.setCell ⟨gd, m, none⟩ (.int .i64 1)).alloc (.cells #[.int .i64 m] 3)).cell? ⟨wi.heap.size, 0, none⟩ = some (intV m) := (BoxAt.new' (wi.setCell ⟨gd, m, none⟩ (.int .i64 1)) #[.int .i64 m] 3 _ (by simp)).at 0 rfl
            have hsz : w.heap.size ≤ ((wi.setCell ⟨gd, m, none⟩ (.int .i64 1)).alloc (.cells #[.int .i64 m] 3)).heap.size := (hAS.frm.alloc _).size
            have HAS := Lib.hid hAS
            have HWI := Lib.hid (show (wi.setCell ⟨gd, m, none⟩ (.int .i64 1)).heap.size ≤ wi.heap.size by simp)
            clear hAS hm hni hcd HA
            go_wp2_with (at_builtin; refine wpList_appendInt (base := w.heap.size) rfl (.tmp 103) (.tmp 108) rfl (.slice oa up.length oc) up rfl hown hsz wi.heap.size 1 m rfl hy (by omega) ?_)
            intro va vn vc w5 hO5a hch5 hat5
            have hO5 : w5.ownsRow w.heap.size 3 1 (.slice va vn vc) (up ++ [m]).length ((up ++ [m]).map intV) := by simpa using hO5a
            have hA6 := Lib.hid (HAS.out.append ((Fr.refl _).alloc _) hch5 hO5 (fun g hg => (hat5 g hg).imp id (fun e => by have := HWI.out; simp at e ⊢; omega)))
            obtain ⟨_, _, e5⟩ := ints_at hO5
            cases e5
            clear hO5 hO5a hch5 hat5 hown hy hsz HAS hcg4 hcg hc1 hc2
            go_wp2_with fail
            go_roundw
            case rel => exact ⟨up ++ [m], va, vc, by simp; omega, rfl, by simp, ⟨⟨Z, hA6.out⟩, HG.out.1.snoc HNI.out, ups_snoc2 HG.out.2 HNI.out HLEN.out⟩⟩
            case measure => first | (simp [intOf]; done) | (simp [intOf]; omega)
    · have hkn : up.length = l.length := by omega
      obtain ⟨⟨Z0, HA0⟩, hgood, hupl⟩ := HO.out
      have HOO : Hid (One w wo x (eRows l) (up.take 0) (.slice oa up.length oc) up) := ⟨Z0, HA0.frm, HA0.lst, HA0.own, fun g hg => (HA0.sep g hg).1⟩
      have HLO := Lib.hid (leftOf_all (rs := eRows l) (up := up) fun i hi => all_in hupl.1 hupl.2 (by omega) (by rw [HLEN.out] at hi; exact hi))
      have HGD := Lib.hid hgood
      have hkn2 : ¬ ((up.length : Int) < (l.length : Int)) := by omega
      clear HO HA0 hgood hupl hlt hkn HMR
      go_wp2_with fail
      clear hkn2
      go_loopw [14] (fun vn wr => ∃ n : Nat, n ≤ up.length ∧ vn = .int .i64 n ∧ Hid (One w wr x (eRows l) (up.take n) (.slice oa up.length oc) up)) (fun vn _ => up.length - (intOf vn).toNat)
      case atStart => exact ⟨0, Nat.zero_le _, rfl, HOO⟩
      case round =>
        clear HOO
        obtain ⟨n, hnu, rfl, HOO⟩ := hrel
        by_cases hnt : n < up.length
        · obtain ⟨Z, HZ⟩ := HOO.out.z
          have HZ := Lib.hid HZ
          have HN := Lib.hid (next_c HZ.out.2.1.at_)
          have hni := HGD.out n hnt
          have hmem := mem_nexts.2 hni
          have htk : up.take n ++ [up[n]] = up.take (n + 1) := (List.take_succ_eq_append_getElem hnt).symm
          have HTK := Lib.hid htk
          have HNI := Lib.hid hni
          clear HOO hni htk
          go_wp2_with fail
          refine HN.out.mono ?_
          rintro e w2 ⟨v2, rfl, hO2, hf2⟩
          have HZ := Lib.hid (HZ.out.fr hf2)
          have hL20 : (nexts (eRows l) (up.take n)).length ≤ 20 := Nat.le_trans (nexts_len _ _) (by rw [HLEN.out]; exact hn)
          generalize nexts (eRows l) (up.take n) = L at hO2 hmem hL20 ⊢
          obtain ⟨va2, vc2, rfl, hlc, hg2⟩ := ints_form hO2
          obtain ⟨_, _, e1, _, hgs⟩ := ints_form HZ.out.2.2.1
          cases e1
          obtain ⟨g, rfl, hcn⟩ := hgs n hnt
          generalize up[n] = p at hmem HTK HNI hcn
          have HG2 := Lib.hid hg2
          have HCN := Lib.hid hcn
          have HMEM := Lib.hid hmem
          clear hO2 hg2 hf2 HN hgs hcn hmem
          go_wp2_with fail
          go_loopw [17, 18] (fun vf vi wr => ∃ i : Nat, i ≤ L.length ∧ vf = .bool ((L.take i).contains p) ∧ vi = .int .i64 i ∧ Hid (Fr w2 wr)) (fun _ vi _ => L.length - (intOf vi).toNat)
          case atStart => exact ⟨0, Nat.zero_le _, by simp, rfl, Fr.refl _⟩
          case round =>
            obtain ⟨i, hi, rfl, rfl, HF⟩ := hrel
            by_cases hit : i < L.length
            · have hts : (L.take (i + 1)).contains p = ((L.take i).contains p || decide (L[i] = p)) := by
                rw [Bool.eq_iff_iff, List.contains_iff_mem, Bool.or_eq_true, List.contains_iff_mem, decide_eq_true_eq, List.take_succ_eq_append_getElem hit, List.mem_append, List.mem_singleton]
                exact or_congr Iff.rfl eq_comm
              obtain ⟨g2, rfl, hci⟩ := HG2.out i hit
              have hci := HF.out.keep hci
              have hcn := HF.out.keep HCN.out
              have lgi := lt_of_cell hci
              have lgn := lt_of_cell hcn
              simp only at lgi lgn
              unfold intV at hci hcn
              generalize L[i] = q at hts hci
              have HTS := Lib.hid hts
              clear hts
              generalize (L.take i).contains p = ff at HTS ⊢
              cases ff
              · by_cases hqp : q = p
                · have hz : ((q : Int) == (p : Int)) = true := by simp [hqp]
                  have HV : Hid ((L.take (i + 1)).contains p = true) := Lib.hid (by rw [HTS.out]; simp [hqp])
                  clear HTS hqp
                  go_wp2_with fail
                  go_quiet (fail)
                  go_wp2_with fail
                  go_roundw
                  case rel => exact ⟨i + 1, by omega, by rw [HV.out], by go_num, HF.out.drewN _⟩
                  case measure => first | (simp [intOf]; done) | (simp [intOf]; omega)
                · have hz : ((q : Int) == (p : Int)) = false := by simp; omega
                  have HV : Hid ((L.take (i + 1)).contains p = false) := Lib.hid (by rw [HTS.out]; simp [hqp])
                  clear HTS hqp
                  go_wp2_with fail
                  go_quiet (fail)
                  go_wp2_with fail
                  go_roundw
                  case rel => exact ⟨i + 1, by omega, by rw [HV.out], by go_num, HF.out.drewN _⟩
                  case measure => first | (simp [intOf]; done) | (simp [intOf]; omega)
              · have HV : Hid ((L.take (i + 1)).contains p = true) := Lib.hid (by rw [HTS.out]; rfl)
                clear HTS
                go_wp2_with fail
                go_quiet (fail)
                go_wp2_with fail
                go_roundw
                case rel => exact ⟨i + 1, by omega, by rw [HV.out], by go_num, HF.out.drewN _⟩
                case measure => first | (simp [intOf]; done) | (simp [intOf]; omega)
            · obtain rfl : i = L.length := by omega
              have hfd : (L.take L.length).contains p = true := by rw [List.take_length]; simpa using HMEM.out
              rw [hfd]
              have HZ3 := Lib.hid (HZ.out.fr HF.out)
              have hcn := HF.out.keep HCN.out
              have lgn := lt_of_cell hcn
              simp only at lgn
              unfold intV at hcn
              have hli := lift16_c HZ3.out.2.1 HZ3.out.1.size (p : Int)
              unfold LiftQ at hli
              rw [liftOf_yes HNI.out, HTK.out] at hli
              have HLI := Lib.hid hli
              clear hli hfd
              go_wp2_with fail
              refine HLI.out.mono ?_
              rintro e w4 ⟨rfl, hT⟩
              have HO4 := Lib.hid (HZ3.out.turned hT).1
              clear hT HLI HZ3 hcn lgn
              go_wp2_with fail
              go_roundw
              case rel => exact ⟨n + 1, by omega, by go_num, HO4⟩
              case measure => first | (simp [intOf]; done) | (simp [intOf]; omega)
        · obtain rfl : n = up.length := by omega
          rw [List.take_length] at HOO
          have HWX := Lib.hid (whole_c HOO.out.z.choose_spec.2.1.at_)
          rw [decide_eq_true HLO.out] at HWX
          go_wp2_with fail
          refine HWX.out.mono ?_
          rintro e w12 ⟨rfl, hf12⟩
          have hf := HOO.out.z.choose_spec.1.trans hf12
          clear HOO HWX hf12
          go_wp2_with fail
          refine (HW.out _).mono ?_
          rintro e w14 ⟨rfl, hf14⟩
          go_wp2_with fail
          go_ret
          exact ⟨rfl, hf.trans hf14⟩
/-- EntriesAll: of any rows, any bytes the law returns true. -/
theorem entAll_c (l : List TRow) (v : Value) (cs : List Nat) (u : Value) (w : World) (hl : RdT w v l) (hn : l.length ≤ 3518437208780) (hu : RdU w u cs) (hcs : cs.length ≤ maxLen) :
    Calls Try.prog 3 #[v, u] w fun e w' => e = .returned (.bool true) ∧ Fr w w' := by
  by_cases h : 20 < l.length ∨ mayRows (eRows l) = false
  · exact allOff_c l v cs u w hl hn hu h
  · simp only [not_or] at h
    exact allOn_c l v cs u w hl (by omega) hu hcs (by simpa using h.2)
end Go.Proofs.Ytjomjlodmelnbaa
