/- umpirelaw06.TextScripts: the law holds. No condition but the tables' content. -/
import Derived.Test.YtfklgaeejmeipaaGreatDoorPTxtAfter
import Derived.Test.YtfklgaeejmeipaaGreatDoorPTxtAll
import Derived.Test.YtfklgaeejmeipaaGreatDoorPTxtPar
import Derived.Test.YtfklgaeejmeipaaGreatDoorPQTail
set_option linter.all false
set_option linter.unusedVariables false
set_option linter.unusedSimpArgs false
set_option linter.unnecessarySimpa false
/- umpirelaw06.TextScripts: the law holds. No condition but the tables' content. -/
namespace Go.Proofs.YtfklgaeejmeipaaGreatDoor
open Go.RowKit
attribute [local go_sem] Oper.semAt_some

theorem wpQuiet_cat {P : Program} {ops : Array Oper} {C : World → Prop} {Q : Act → Prop} {o : Oper} {rest : List Oper} {t : Array Value} {df : List Deferred} (d0 : Tmp) (hd0 : o.dst = some d0) (ty t2 : TypeId) (x y : Operand) (ho : o.op = .binOp .add ty x y t2)
    (a b : W8) (hx : Act.eval ⟨t, df⟩ x = .string ⟨a.toArray⟩) (hy : Act.eval ⟨t, df⟩ y = .string ⟨b.toArray⟩) (ha : (a.length : Int) ≤ 8388608) (hb : (b.length : Int) ≤ 8388608) (hw : Region.wanted o (yielded ops t) = true) (h : wpQuiet P ops C Q rest ⟨t.setIfInBounds d0 (.string ⟨(a ++ b).toArray⟩), df⟩) : wpQuiet P ops C Q (o :: rest) ⟨t, df⟩ :=
  wpQuiet_run (.string ⟨(a ++ b).toArray⟩) (fun w _ => by simp [execOp, ho, hx, hy, binOp, eqGuard, run_string_add_lists, ha, hb]) hw (by rw [hd0]; exact h)
theorem rdS_take {w : World} {b off cap k : Nat} {l : List W8} (hk : k ≤ l.length) (hcap : l.length ≤ cap) (hmax : cap ≤ maxLen) (hb : b < w.heap.size) (hc : ∀ j u, l[j]? = some u → w.cell? ⟨b, off + j, none⟩ = some (.string ⟨u.toArray⟩)) : RdS w (.slice (some ⟨b, off, none⟩) k cap) (l.take k) := by
  have hl : (l.take k).length = k := by simp; omega
  refine ⟨_, _, by rw [hl], by omega, by omega, .inr ⟨b, off, rfl, trivial, hb, fun j u hj => ?_⟩⟩
  unfold strCells at hj
  rw [List.getElem?_map, List.getElem?_take] at hj
  obtain ⟨y, hy, rfl⟩ := Option.map_eq_some_iff.1 hj
  split at hy
  · exact hc j y hy
  · cases hy
theorem rdS_drop {w : World} {b off cap k n : Nat} {l : List W8} (hk : k ≤ l.length) (hcap : l.length ≤ cap) (hmax : cap ≤ maxLen) (hb : b < w.heap.size) (hc : ∀ j u, l[j]? = some u → w.cell? ⟨b, off + j, none⟩ = some (.string ⟨u.toArray⟩)) (hn : n = l.length - k) : RdS w (.slice (some ⟨b, off + k, none⟩) n (cap - k)) (l.drop k) := by
  subst hn
  refine ⟨_, _, by rw [List.length_drop], by rw [List.length_drop]; omega, by omega, .inr ⟨b, off + k, rfl, trivial, hb, fun j u hj => ?_⟩⟩
  unfold strCells at hj
  rw [List.getElem?_map, List.getElem?_drop] at hj
  obtain ⟨y, hy, rfl⟩ := Option.map_eq_some_iff.1 hj
  rw [show off + k + j = off + (k + j) by omega]
  exact hc (k + j) y hy
theorem what_parts {l : List Ev} {k : Nat} (hk : k ≤ l.length) : ((afters (l.map Ev.line)).take k).flatten ++ [119, 104, 97, 116, 10] ++ ((afters (l.map Ev.line)).drop k).flatten = endsOf ((l.take k).map Ev.line ++ [119, 104, 97, 116] :: (l.drop k).map Ev.line) := by
  have e1 : ((afters (l.map Ev.line)).take k).flatten = endsOf ((l.take k).map Ev.line) := by
    unfold afters endsOf
    rw [List.take_append_of_le_length (by simpa using hk), List.flatMap_def, ← List.map_take, ← List.map_take]
  have e2 : ((afters (l.map Ev.line)).drop k).flatten = endsOf ((l.drop k).map Ev.line) := by
    unfold afters endsOf
    rw [List.drop_append_of_le_length (by simpa using hk), List.flatMap_def, ← List.map_drop, ← List.map_drop]
    simp
  rw [e1, e2, endsOf_app, endsOf_cons]
  simp
theorem Ev.val_list (x : Ev) (t r : Value) : x.val t r = .agg (x.cells t r).toList.toArray := rfl
theorem Ev.cells_info (x : Ev) (t r : Value) : (Tryz.prog.info? 32).map (·.size) = some (x.cells t r).toList.length := Tryz.infoEv
set_option maxRecDepth 100000 in
set_option maxHeartbeats 8000000 in
theorem scripts06_law (l : List Ev) (m : Nat) (v : Value) (w : World) (hE : EnvT w) (hl : RdE w v l) (hok : ∀ x ∈ l, x.Ok) (hm : m < 256) : Calls Tryz.prog 8 #[v, .int .u8 m] w fun e w' => e = .returned (.bool true) ∧ Fr w w' := by
  have HAL := Lib.hid (all06_c l v w hl)
  have HWK := Lib.hid (fun W (f : Fr w W) => works06_c W (hE.keep f))
  have HWR := Lib.hid (fun W (f : Fr w W) (hn : l.length ≤ 1000) => Write_txt l v W (hE.keep f) (hl.keep f) hok hn)
  have HEN := Lib.hid hE
  obtain ⟨a, cap, rfl, hcap, hmax, _⟩ := id hl
  unfold maxLen at hmax
  have HL := Lib.hid hl
  have HOK := Lib.hid hok
  clear hl hE hok
  go_enter Tryz.func8, Tryz.ntmps8
  go_wp2_with fail
  refine HAL.out.mono ?_
  rintro e w1 ⟨b, rfl, hb20, f1⟩
  have F1 := Lib.hid f1
  clear f1 HAL
  cases b
  · go_wp2_with fail
    refine (HWK.out _ F1.out).mono ?_
    rintro e w2 ⟨rfl, f2⟩
    have F2 := Lib.hid (F1.out.trans f2)
    clear f2
    go_wp2_with fail
    go_ret
    exact ⟨rfl, F2.out⟩
  have h20 := hb20 rfl
  clear hb20
  have HWC := Lib.hid (HWR.out w1 F1.out (by omega))
  clear HWR
  obtain ⟨sw, nw, HSW⟩ : ∃ a, ∃ n : Int, Hid ((writeT l).1 = a ∧ ((writeT l).2 : Int) = n) := ⟨_, _, Lib.hid ⟨rfl, rfl⟩⟩
  unfold StrRet at HWC
  rw [HSW.out.1, HSW.out.2] at HWC
  go_wp2_with fail
  refine HWC.out.mono ?_
  rintro e w2 ⟨rfl, f2⟩
  have F2 := Lib.hid (F1.out.trans f2)
  clear f2 HWC
  by_cases hall : l.all (·.may) = true
  case neg =>
    have hsw := HSW.out
    rw [show writeT l = ([], 4) by unfold writeT; rw [if_neg hall]] at hsw
    obtain ⟨h1, h2⟩ : [] = sw ∧ (4 : Int) = nw := hsw
    subst h1 h2
    clear hall HSW
    go_wp2_with fail
    refine (HWK.out _ F2.out).mono ?_
    rintro e w3 ⟨rfl, f3⟩
    have F3 := Lib.hid (F2.out.trans f3)
    clear f3
    go_wp2_with fail
    go_ret
    exact ⟨rfl, F3.out⟩
  have hgood : ∀ x ∈ l, x.Ok ∧ x.may = true := fun x hx => ⟨HOK.out x hx, List.all_eq_true.1 hall x hx⟩
  have hsw := HSW.out
  rw [show writeT l = (endsOf (l.map Ev.line), 0) by unfold writeT; rw [if_pos hall]] at hsw
  obtain ⟨h1, h2⟩ : endsOf (l.map Ev.line) = sw ∧ (0 : Int) = nw := hsw
  subst h2
  have hel := ends_len (fun x hx => (hgood x hx).1) fun x hx => (hgood x hx).2
  have hlb : ∀ t ∈ l.map Ev.line, t.length ≤ 20000 := fun t ht => by
    obtain ⟨x, hx, rfl⟩ := List.mem_map.1 ht
    have := line_short (hgood x hx).1 (hgood x hx).2
    omega
  have hjl : (joinS 10 (l.map Ev.line)).length ≤ 300000 := by
    by_cases h : l.map Ev.line = []
    · rw [h]; simp [joinS]
    · have := congrArg List.length (ends_join h)
      rw [List.length_append] at this
      omega
  have HR1 : Hid (∀ W, Fr w W → Calls Tryz.prog 21 #[.string ⟨(endsOf (l.map Ev.line)).toArray⟩] W fun e w' => ∃ a c, e = .returned (.tuple #[.slice a l.length c, .int .i64 l.length, .int .i64 0]) ∧ RdE w' (.slice a l.length c) l ∧ l.length ≤ c ∧ c ≤ maxLen ∧ Fr W w') := Lib.hid (fun W (f : Fr w W) => readL_c (endsOf (l.map Ev.line)) l l.length 0 W (HEN.out.keep f) (by omega) (by rw [lines_ends mem_lines]; exact hlb) (read_write hgood))
  have HR2 : Hid (∀ W, Fr w W → Calls Tryz.prog 21 #[.string ⟨(joinS 10 (l.map Ev.line)).toArray⟩] W fun e w' => ∃ a c, e = .returned (.tuple #[.slice a l.length c, .int .i64 l.length, .int .i64 0]) ∧ RdE w' (.slice a l.length c) l ∧ l.length ≤ c ∧ c ≤ maxLen ∧ Fr W w') := Lib.hid (fun W (f : Fr w W) => readL_c (joinS 10 (l.map Ev.line)) l l.length 0 W (HEN.out.keep f) (by omega) (by rw [lines_join mem_lines fun w hw => by obtain ⟨x, hx, rfl⟩ := List.mem_map.1 hw; exact line_ne (hgood x hx).2]; exact hlb) (read_trim hgood))
  have HTR := Lib.hid (fun W => Tryz.strings_TrimSuffix ⟨(endsOf (l.map Ev.line)).toArray⟩ ⟨#[10]⟩ W (by rw [size_mk]; omega))
  rw [show Lib.trimSuffix (⟨(endsOf (l.map Ev.line)).toArray⟩ : ByteArray).data.toList (⟨#[10]⟩ : ByteArray).data.toList = joinS 10 (l.map Ev.line) from trim_ends _] at HTR
  have HAF := Lib.hid (fun W (f : Fr w W) => After_c (l.map Ev.line) W (HEN.out.keep f).toEnv0 mem_lines (by omega))
  have HGD := Lib.hid hgood
  have hal : (afters (l.map Ev.line)).length = l.length + 1 := by simp [afters]
  obtain ⟨kk, hkk⟩ : ∃ kk, kk = m % (l.length + 1) := ⟨_, rfl⟩
  have hkl : kk ≤ l.length := by have := Nat.mod_lt m (show 0 < l.length + 1 by omega); omega
  have HWP := Lib.hid (what_parts hkl)
  have HFL := Lib.hid (afters_flat (l.map Ev.line))
  have HRW : Hid (∀ W, Fr w W → (endsOf ((l.take kk).map Ev.line ++ [119, 104, 97, 116] :: (l.drop kk).map Ev.line)).length ≤ 500000 → (∀ t ∈ linesOf (endsOf ((l.take kk).map Ev.line ++ [119, 104, 97, 116] :: (l.drop kk).map Ev.line)), t.length ≤ 20000) → readT (endsOf ((l.take kk).map Ev.line ++ [119, 104, 97, 116] :: (l.drop kk).map Ev.line)) = ([], kk + 1, 4) → Calls Tryz.prog 21 #[.string ⟨(endsOf ((l.take kk).map Ev.line ++ [119, 104, 97, 116] :: (l.drop kk).map Ev.line)).toArray⟩] W fun e w' => e = .returned (.tuple #[.slice none 0 0, .int .i64 ((kk + 1 : Nat) : Int), .int .i64 4]) ∧ Fr W w') := Lib.hid (fun W (f : Fr w W) h1 h2 h3 => readN_c (endsOf ((l.take kk).map Ev.line ++ [119, 104, 97, 116] :: (l.drop kk).map Ev.line)) (kk + 1) 4 W (HEN.out.keep f) h1 h2 h3 (by omega))
  have HRE := Lib.hid (read_what hgood kk hkl)
  have HLE := Lib.hid (lines_ends (ws := (l.take kk).map Ev.line ++ [119, 104, 97, 116] :: (l.drop kk).map Ev.line) fun w hw => by
    rcases List.mem_append.1 hw with hw | hw
    · exact mem_lines w hw
    · rcases List.mem_cons.1 hw with rfl | hw
      · decide
      · exact mem_lines w hw)
  have HLB := Lib.hid hlb
  rw [← HWP.out] at HRW HRE HLE
  clear HSW hall hgood hlb HWP
  rw [← h1]
  clear h1
  generalize endsOf (l.map Ev.line) = S at HR1 HTR HAF hel HFL ⊢
  generalize joinS 10 (l.map Ev.line) = J at HR2 HTR hjl
  have hSz := size_mk S
  go_wp2_with fail
  refine (HR1.out _ F2.out).mono ?_
  rintro e w3 ⟨a1, c1, rfl, hr1, hc1, hm1, f3⟩
  have F3 := Lib.hid (F2.out.trans f3)
  have HQ1 := Lib.hid hr1
  clear f3 hr1 HR1
  go_wp2_with fail
  refine (HTR.out _).mono ?_
  rintro e w4 ⟨rfl, rfl⟩
  go_wp2_with fail
  refine (HR2.out _ F3.out).mono ?_
  rintro e w5 ⟨a2, c2, rfl, hr2, hc2, hm2, f5⟩
  have F5 := Lib.hid (F3.out.trans f5)
  have HQ1 := Lib.hid (RdE.keep HQ1.out f5)
  have HQ2 := Lib.hid hr2
  unfold maxLen at hm1 hm2
  clear f5 hr2 HR2 HTR F3
  go_wp2_with fail
  obtain ⟨W5, hW5⟩ : ∃ W5, W5 = w5 := ⟨_, rfl⟩
  subst hW5
  go_loopw [13] (fun i wr => ∃ j : Nat, j ≤ l.length ∧ i = .int .i64 j ∧ Fr W5 wr) (fun i _ => l.length - (intOf i).toNat)
  case atStart => exact ⟨0, Nat.zero_le _, rfl, by first | exact Fr.refl _ | exact (Fr.refl _).drew⟩
  case round =>
    obtain ⟨j, hj, rfl, hf⟩ := hrel
    have HF := Lib.hid hf
    by_cases hlt : j < l.length
    · obtain ⟨b1, o1, t1, r1, rfl, hb1, hx1, ht1, hr1⟩ := RdE.at (RdE.keep HQ1.out hf) hlt
      obtain ⟨b2, o2, t2, r2, rfl, hb2, hx2, ht2, hr2⟩ := RdE.at (RdE.keep HQ2.out hf) hlt
      obtain ⟨b3, o3, t3, r3, rfl, hb3, hx3, ht3, hr3⟩ := RdE.at (RdE.keep HL.out (F5.out.trans hf)) hlt
      generalize l[j] = x at hx1 ht1 hr1 hx2 ht2 hr2 hx3 ht3 hr3
      have hk1 : j < c1 := by omega
      have hk2 : j < c2 := by omega
      have hk3 : j < cap := by omega
      have HS1 := Lib.hid (fun (z : FrW wr) => same_c (x.val t1 r1) (x.val t3 r3) x x z.val ⟨t1, r1, rfl, ht1.keep z.fr, hr1.keep z.fr⟩ ⟨t3, r3, rfl, ht3.keep z.fr, hr3.keep z.fr⟩)
      have HS2 := Lib.hid (fun (z : FrW wr) => same_c (x.val t2 r2) (x.val t3 r3) x x z.val ⟨t2, r2, rfl, ht2.keep z.fr, hr2.keep z.fr⟩ ⟨t3, r3, rfl, ht3.keep z.fr, hr3.keep z.fr⟩)
      rw [show decide (x = x) = true by simp, x.val_list t1 r1, x.val_list t3 r3] at HS1
      rw [show decide (x = x) = true by simp, x.val_list t2 r2, x.val_list t3 r3] at HS2
      have hi1 := x.cells_info t1 r1
      have hi2 := x.cells_info t2 r2
      have hi3 := x.cells_info t3 r3
      generalize (x.cells t1 r1).toList = L1 at hx1 HS1 hi1
      generalize (x.cells t2 r2).toList = L2 at hx2 HS2 hi2
      generalize (x.cells t3 r3).toList = L3 at hx3 HS1 HS2 hi3
      have he1 := FrW.range hx1 hb1
      have he2 := FrW.range hx2 hb2
      have he3 := FrW.range hx3 hb3
      have hl1 : ∀ z : FrW wr, b1 < z.val.heap.size := fun z => Nat.lt_of_lt_of_le hb1 z.fr.size
      have hl2 : ∀ z : FrW wr, b2 < z.val.heap.size := fun z => Nat.lt_of_lt_of_le hb2 z.fr.size
      have hl3 : ∀ z : FrW wr, b3 < z.val.heap.size := fun z => Nat.lt_of_lt_of_le hb3 z.fr.size
      clear hx1 hx2 hx3 ht1 hr1 ht2 hr2 ht3 hr3 hf
      go_wp2_with fail
      refine wp_region_fr (by kernel_rfl) (by kernel_rfl) ?_
      repeat (first
        | ((with_reducible refine wpQuiet_here (.load 32 (.tmp 84)) rfl ?_); refine wpQuiet_load_midD 85 rfl 32 (.tmp 84) rfl b1 (o1 + j * 19) rfl _ _ he1 Tryz.underlying32 rfl hi1 rfl ?_; simp only [List.setIfInBounds_toArray, List.set_cons_succ, List.set_cons_zero])
        | ((with_reducible refine wpQuiet_here (.load 32 (.tmp 88)) rfl ?_); refine wpQuiet_load_midD 89 rfl 32 (.tmp 88) rfl b3 (o3 + j * 19) rfl _ _ he3 Tryz.underlying32 rfl hi3 rfl ?_; simp only [List.setIfInBounds_toArray, List.set_cons_succ, List.set_cons_zero])
        | ((with_reducible refine wpQuiet_here (.load 32 (.tmp 95)) rfl ?_); refine wpQuiet_load_midD 96 rfl 32 (.tmp 95) rfl b2 (o2 + j * 19) rfl _ _ he2 Tryz.underlying32 rfl hi2 rfl ?_; simp only [List.setIfInBounds_toArray, List.set_cons_succ, List.set_cons_zero])
        | ((with_reducible refine wpQuiet_here (.load 32 (.tmp 99)) rfl ?_); refine wpQuiet_load_midD 100 rfl 32 (.tmp 99) rfl b3 (o3 + j * 19) rfl _ _ he3 Tryz.underlying32 rfl hi3 rfl ?_; simp only [List.setIfInBounds_toArray, List.set_cons_succ, List.set_cons_zero])
        | go_big_quiet_step ((first | (go_at_call_of 16 (Value.agg L1.toArray); exact frq (HS1.out _)) | (go_at_call_of 16 (Value.agg L2.toArray); exact frq (HS2.out _)))))
      refine wpQuiet_nil ?_
      rintro w7 ⟨⟨_, f7⟩, rfl⟩
      have F7 := Lib.hid (HF.out.trans f7)
      clear f7 he1 he2 he3 hl1 hl2 hl3 HS1 HS2
      go_wp2_with fail
      go_roundw
      case rel => exact ⟨j + 1, by omega, by go_num, F7.out⟩
      case measure => simp [intOf]; omega
    · have FR := Lib.hid (F5.out.trans hf)
      clear hf
      have HAC := Lib.hid (HAF.out wr FR.out)
      have hkz : (m : Int) % ((l.length : Int) + 1) = (kk : Int) := by rw [hkk]; push_cast; rfl
      have hal' := hal
      clear HAF HQ1 HQ2 hal
      generalize afters (l.map Ev.line) = A at HAC HRW HRE HLE HFL hal'
      clear hkk
      go_wp2_with fail
      refine HAC.out.mono ?_
      rintro e w7 ⟨v7, rfl, hrow⟩
      have FR7 := Lib.hid (FR.out.trans hrow.frm)
      obtain ⟨b7, o7, c7, rfl, hc7, hm7, hb7, hcell7⟩ := hrow.rd.at (k := 0) (by omega)
      unfold maxLen at hm7
      rw [hal', hkz]
      rw [hal'] at hc7
      have hp1 : RdS w7 (.slice (some ⟨b7, o7, none⟩) kk c7) (A.take kk) := rdS_take (by omega) (by omega) (by unfold maxLen; omega) hb7 hcell7
      have hp2 : RdS w7 (.slice (some ⟨b7, o7 + kk, none⟩) (l.length + 1 - kk) (c7 - kk)) (A.drop kk) := rdS_drop (by omega) (by omega) (by unfold maxLen; omega) hb7 hcell7 (by omega)
      have hfl := congrArg List.length HFL.out
      rw [← List.take_append_drop kk A, List.flatten_append, List.length_append] at hfl
      have HJ1 := Lib.hid (fun z : FrW w7 => JoinE_c (.slice (some ⟨b7, o7, none⟩) kk c7) (A.take kk) z.val (hp1.keep z.fr) (by omega) (by simp; omega))
      have HJ2 := Lib.hid (fun z : FrW w7 => JoinE_c (.slice (some ⟨b7, o7 + kk, none⟩) (l.length + 1 - kk) (c7 - kk)) (A.drop kk) z.val (hp2.keep z.fr) (by omega) (by simp; omega))
      have hlen : ((A.take kk).flatten ++ [119, 104, 97, 116, 10] ++ (A.drop kk).flatten).length ≤ 500000 := by rw [List.length_append, List.length_append]; simp only [List.length_cons, List.length_nil]; omega
      have hlin : ∀ t ∈ linesOf ((A.take kk).flatten ++ [119, 104, 97, 116, 10] ++ (A.drop kk).flatten), t.length ≤ 20000 := by
        rw [HLE.out]
        intro t ht
        rcases List.mem_append.1 ht with ht | ht
        · exact HLB.out t (List.map_subset _ (List.take_subset _ _) ht)
        · rcases List.mem_cons.1 ht with rfl | ht
          · simp
          · exact HLB.out t (List.map_subset _ (List.drop_subset _ _) ht)
      have HRX := Lib.hid (fun z : FrW w7 => HRW.out z.val (FR7.out.trans z.fr) hlen hlin HRE.out)
      rw [show (A.take kk).flatten ++ [119, 104, 97, 116, 10] ++ (A.drop kk).flatten = (A.take kk).flatten ++ 119 :: 104 :: 97 :: 116 :: 10 :: (A.drop kk).flatten by simp] at HRX
      rw [show ((kk + 1 : Nat) : Int) = (kk : Int) + 1 by omega] at HRX
      clear hrow HAC HRW HRE HLE HLB hlen hlin
      go_wp2_with fail
      refine wp_region_fr (by kernel_rfl) (by kernel_rfl) ?_
      have hca : (((A.take kk).flatten.length : Nat) : Int) ≤ 8388608 := by omega
      have hcb : (((A.drop kk).flatten.length : Nat) : Int) ≤ 8388608 := by omega
      have hcc : ((((A.take kk).flatten ++ [119, 104, 97, 116, 10]).length : Nat) : Int) ≤ 8388608 := by rw [List.length_append]; simp only [List.length_cons, List.length_nil]; omega
      repeat (go_big_quiet_step (first | (go_at_call_of 27 (Value.slice (some { block := b7, off := o7 }) kk c7); exact frq (HJ1.out _)) | fail))
      (with_reducible refine wpQuiet_here (.binOp .add 9 (.tmp 116) (.const (.string ⟨#[119, 104, 97, 116, 10]⟩)) 9) rfl ?_)
      refine wpQuiet_cat 117 rfl 9 9 (.tmp 116) _ rfl (A.take kk).flatten [119, 104, 97, 116, 10] rfl rfl hca (by decide) rfl ?_
      simp only [List.setIfInBounds_toArray, List.set_cons_succ, List.set_cons_zero]
      repeat (go_big_quiet_step (fail))
      go_big_quiet_step ((go_at_call 27; with_reducible exact frq (HJ2.out _)))
      (with_reducible refine wpQuiet_here (.binOp .add 9 (.tmp 117) (.tmp 121) 9) rfl ?_)
      refine wpQuiet_cat 122 rfl 9 9 (.tmp 117) (.tmp 121) rfl ((A.take kk).flatten ++ [119, 104, 97, 116, 10]) (A.drop kk).flatten rfl rfl hcc hcb rfl ?_
      simp only [List.setIfInBounds_toArray, List.set_cons_succ, List.set_cons_zero]
      go_big_quiet_step ((go_at_call 21; with_reducible exact frq (HRX.out _)))
      repeat (go_big_quiet_step (fail))
      refine wpQuiet_nil ?_
      rintro w8 ⟨⟨_, f8⟩, rfl⟩
      have F8 := Lib.hid (FR7.out.trans f8)
      clear f8
      go_wp2_with fail
      refine (HWK.out _ F8.out).mono ?_
      rintro e w9 ⟨rfl, f9⟩
      have F9 := Lib.hid (F8.out.trans f9)
      clear f9
      go_wp2_with fail
      go_ret
      exact ⟨rfl, F9.out⟩
end Go.Proofs.YtfklgaeejmeipaaGreatDoor
