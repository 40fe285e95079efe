/- text.Read answers what readT says. Of any text whose lines are at most 20000 bytes; the tables' content. -/
import Derived.Test.YtfklgaeejmeipaaGreatDoorPEvCheck
import Derived.Test.YtfklgaeejmeipaaGreatDoorPTxtLen
import Derived.Test.YtfklgaeejmeipaaGreatDoorPTxtPar
import Derived.Great.BuildSlice
import Derived.OwnWalk
import Derived.Test.YtfklgaeejmeipaaGreatDoorPTxtRefQ7
set_option linter.all false
set_option linter.unusedVariables false
set_option linter.unusedSimpArgs false
set_option linter.unnecessarySimpa false
/- text.Read answers what readT says. Of any text whose lines are at most 20000 bytes; the tables' content. -/
namespace Go.Proofs.YtfklgaeejmeipaaGreatDoor
open Go.RowKit
attribute [local go_sem] Oper.semAt_some

theorem fr_setCells {a : World} (b : Nat) (hb : a.heap.size ≤ b) : ∀ (vs : List Value) (o : Nat) (w : World), Fr a w → Fr a (w.setCells b o vs)
  | [], _, _, h => h
  | v :: r, o, w, h => fr_setCells b hb r (o + 1) _ (h.setCell (p := ⟨b, o, none⟩) hb v)
theorem size_setCellsT (b : Nat) : ∀ (vs : List Value) (o : Nat) (w : World), (w.setCells b o vs).heap.size = w.heap.size
  | [], _, _ => rfl
  | v :: r, o, w => by rw [World.setCells, size_setCellsT b r]; simp
/-- Lines without the last, empty one. -/
theorem del_last {w0 W : World} {a : Option Addr} {c : Nat} {wl : List W8} (h : RowS w0 W (.slice a wl.length c) wl) (hn : wl ≠ []) :
    Calls Tryz.prog 62 #[.slice a wl.length c, .int .i64 ((wl.length - 1 : Nat) : Int), .int .i64 wl.length] W fun e w' => e = .returned (.slice a (wl.length - 1) c) ∧ RdS w' (.slice a (wl.length - 1) c) wl.dropLast ∧ Fr w0 w' := by
  have hpos : 0 < wl.length := List.length_pos_iff.2 hn
  obtain ⟨b, off, cap, he, hcap, hmax, hb, hc⟩ := h.rd.at (k := 0) hpos
  obtain ⟨rfl, _, rfl⟩ := Value.slice.inj he
  have hown := h.own
  obtain ⟨_, h2⟩ := hown
  rcases h2 with ⟨h2, _⟩ | ⟨g, cap', cur, h2, hg, hh, _⟩
  · cases h2
  · cases h2
    have hfz : ∀ j, W.frozen? ⟨b, 0 + j, none⟩ = false := fun j => Lib.frozen_of_heap hh (0 + j)
    have hfc := Tryz.slices_Delete_string_cells b 0 wl.length c (wl.length - 1) wl.length (fun i => ⟨(wl.getD i []).toArray⟩) W hcap hmax (by omega) (Nat.le_refl _) (fun i hi => hc i _ (by simp [List.getD_eq_getElem?_getD, hi])) (fun j _ => hfz j)
    rw [show wl.length - (wl.length - (wl.length - 1)) = wl.length - 1 by omega] at hfc
    refine hfc.mono ?_
    rintro e w' ⟨rfl, q, rfl⟩
    have hst : Lib.strsOf (fun i => (⟨(wl.getD i []).toArray⟩ : ByteArray)) wl.length = wl := by
      unfold Lib.strsOf
      refine List.ext_getElem (by simp) fun i h1 h2 => ?_
      simp [List.getD_eq_getElem?_getD, h2]
    rw [hst]
    refine ⟨rfl, ?_, fr_setCells b hg _ _ _ (h.frm.drewN q)⟩
    refine ⟨_, c, by rw [List.length_dropLast], by rw [List.length_dropLast]; omega, hmax, .inr ⟨b, 0, rfl, trivial, by rw [size_setCellsT]; exact hb, fun j u hj => ?_⟩⟩
    have hj2 : j < wl.length - 1 := by
      have := (List.getElem?_eq_some_iff.1 hj).1
      simpa [strCells] using this
    have hlen : ((wl.take (wl.length - 1) ++ wl.drop wl.length ++ List.replicate (wl.length - (wl.length - 1)) []).map encStr).length = wl.length := by simp
    rw [World.cell?_setCells_in b _ 0 _ (fun i hi => by
      rw [hlen] at hi
      have := hc i wl[i] (by simp [hi])
      rw [show (W.drewN q).cell? ⟨b, 0 + i, none⟩ = W.cell? ⟨b, 0 + i, none⟩ from rfl, this]; rfl) j (by rw [hlen]; omega)]
    have hu : u = .string ⟨wl[j].toArray⟩ := by
      unfold strCells at hj
      rw [List.getElem?_map, List.getElem?_eq_getElem (by rw [List.length_dropLast]; omega)] at hj
      simp [List.getElem_dropLast] at hj
      exact hj.symm
    rw [hu]
    congr 1
    rw [List.getElem_map, List.getElem_append_left (by simp; omega), List.getElem_append_left (by simp; omega), List.getElem_take]
/-- What Read leaves: the events, the line, the error. -/
def ReadRet (w : World) (y : List Ev × Nat × Nat) (e : Ending) (w' : World) : Prop := ∃ v, e = .returned (.tuple #[v, .int .i64 y.2.1, .int .i64 y.2.2]) ∧ RdE w' v y.1 ∧ Fr w w'
theorem Tryz.infoEvT : (Tryz.prog.info? 32).map (fun i => (i.zero, i.size)) = some (some (Ev.zero.val nil0 nil0), 19) := by kernel_rfl
/-- A slice literal of one event. -/
theorem wpList_buildEvT {ops : Array Oper} {rest : List Oper} {o : Oper} {a : Act} {w : World} {Q : Exit → Act → World → Prop} (parts : Array (Nat × Operand)) (ho : o.op = .buildSlice 49 1 parts) (y : Ev) (t r : Value)
    (hev : (parts.map fun (i, x) => (i, a.eval x)).toList = [(0, y.val t r)]) (hw : Region.wanted o (yielded ops a.tmps) = true)
    (h : ∀ w', Fr w w' → BoxAt w' w.heap.size (y.cells t r) 32 → wpList Tryz.prog ops Q rest (a.put o.dst (.slice (some ⟨w.heap.size, 0, none⟩) 1 1)) w') : wpList Tryz.prog ops Q (o :: rest) a w := by
  refine wpList_step fun K hK => ?_
  simp only [hw, if_true]
  have hi := Tryz.infoEvT
  cases hie : Tryz.prog.info? 32 with
  | none => rw [hie] at hi; cases hi
  | some ie =>
    rw [hie] at hi
    simp only [Option.map_some, Option.some.injEq, Prod.mk.injEq] at hi
    obtain ⟨hz, hs⟩ := hi
    refine Go.wp_buildSlice 49 32 1 parts ho (y.cells t r) ie _ Tryz.underlying49 hie hz (by rw [hs]; omega) (by rw [hs]; omega) ?_ (hK _ _ (h _ ((Fr.refl w).alloc _) (BoxAt.new w _ _)))
    rw [hev, hs]
    exact (Great.fill_whole (s := 19) (by omega) [y.val t r] _ (fun v hv => by obtain rfl := List.mem_singleton.1 hv; rfl) (by simp)).trans rfl
set_option maxRecDepth 100000 in
set_option maxHeartbeats 4000000 in
theorem Read_txt (s : W8) (w : World) (hE : EnvT w) (hs : s.length ≤ 500000) (hsh : ∀ t ∈ linesOf s, t.length ≤ 20000) : Calls Tryz.prog 21 #[.string ⟨s.toArray⟩] w (ReadRet w (readT s)) := by
  have HEN := Lib.hid hE
  have HSP := Lib.hid (SplitC_c 10 s w hE.toEnv0 (by omega))
  have hwl := splitS_ne 10 s
  have hwn := splitS_len 10 s
  have hwc : s.count 10 ≤ s.length := List.count_le_length
  have HLA := Lib.hid (fun (h : (splitS 10 s).getLast? = some []) => show linesOf s = (splitS 10 s).dropLast by unfold linesOf; rw [if_pos h])
  have HLB := Lib.hid (fun (h : ¬ (splitS 10 s).getLast? = some []) => show linesOf s = splitS 10 s by unfold linesOf; rw [if_neg h])
  have HY0 : Hid (readFrom (linesOf s) 0 [] = readT s) := Lib.hid rfl
  have HSH0 := Lib.hid hsh
  generalize linesOf s = LL at HLA HLB HY0 HSH0
  generalize readT s = Y at HY0 ⊢
  generalize splitS 10 s = wl at HSP hwl hwn HLA HLB
  have hwb : wl.length ≤ 1000000 := by omega
  have hpos : 0 < wl.length := List.length_pos_iff.2 hwl
  clear hE hsh hwn hwc hs
  go_enter Tryz.func21, Tryz.ntmps21
  go_wp2_with fail
  refine HSP.out.mono ?_
  rintro e w1 ⟨v1, rfl, hrow⟩
  have HROW := Lib.hid hrow
  obtain ⟨b0, off0, cap0, rfl, hcap0, hmax0, hb0, hc0⟩ := hrow.rd.at (k := wl.length - 1) (by omega)
  unfold maxLen at hmax0
  have hlast : wl.getLast? = some wl[wl.length - 1] := by rw [List.getLast?_eq_getElem?]; simp [hpos]
  have cl := hc0 (wl.length - 1) wl[wl.length - 1] (by simp [hpos])
  rw [hlast] at HLA HLB
  have hsub : ((wl.length : Int) - 1) = ((wl.length - 1 : Nat) : Int) := by omega
  generalize hzz : wl[wl.length - 1] = z at cl HLA HLB
  clear hlast hrow hc0 hzz
  by_cases hz : z = []
  · have hLL := HLA.out (by rw [hz])
    subst hz
    subst hLL
    have HDL := Lib.hid (del_last HROW.out hwl)
    clear HLA HLB HSP hwl
    go_wp2_with fail
    refine HDL.out.mono ?_
    rintro e w2 ⟨rfl, hrd, f2⟩
    have hLN : RdS w2 (.slice (some ⟨b0, off0, none⟩) (wl.length - 1) cap0) wl.dropLast := hrd
    have HFW := Lib.hid f2
    clear hrd f2 HDL
    obtain ⟨W1, hW1⟩ : ∃ W1, W1 = w2 := ⟨_, rfl⟩
    have hdl : wl.dropLast.length = wl.length - 1 := List.length_dropLast
    rw [← hdl] at hLN ⊢
    generalize wl.dropLast = LL at HY0 HSH0 hLN hdl ⊢
    have hLLn : LL.length ≤ 1000000 := by omega
    clear hdl hsub HROW cl hpos hwb
    subst hW1
    have HYL : Hid (readFrom (LL.drop 0) 0 [] = Y) := by rw [List.drop_zero]; exact HY0
    have HSH := HSH0
    have HLN := Lib.hid hLN
    have hnl : LL.length ≤ 1000000 := by omega
    obtain ⟨la, lc, hlv, hlc, hlm⟩ := HLN.out.form
    obtain ⟨rfl, _, rfl⟩ := Value.slice.inj hlv
    unfold maxLen at hlm
    clear hLN
    go_wp2_with fail
    go_loopw [2, 28] (fun o i wr => ∃ (k : Nat) (acc : List Ev), k ≤ LL.length ∧ i = .int .i64 k ∧ acc.length ≤ k ∧ Fr W1 wr ∧ OwX W1 wr o acc ∧ Hid (readFrom (LL.drop k) k acc = Y)) (fun _ i _ => LL.length - (intOf i).toNat)
    case atStart => exact ⟨0, [], Nat.zero_le _, rfl, Nat.le_refl _, by first | exact Fr.refl _ | exact (Fr.refl _).drew, OwX.nil _ _, HYL⟩
    case round =>
      clear HYL
      obtain ⟨k, acc, hk, rfl, hak, hf, hown, HYK⟩ := hrel
      have HF := Lib.hid hf
      have HO := Lib.hid hown
      by_cases hlt : k < LL.length
      · obtain ⟨b1, o1, cap1, he1, _, _, hb1, hc1⟩ := RdS.at (HLN.out.keep hf) hlt
        obtain ⟨hq1, _, hq2⟩ := Value.slice.inj he1
        obtain ⟨hq3, hq4⟩ : b1 = b0 ∧ o1 = off0 := by simp at hq1; exact ⟨hq1.1.symm, hq1.2.symm⟩
        subst hq3 hq4 hq2
        have c1 := hc1 k LL[k] (by simp [hlt])
        have hsh := HSH.out LL[k] (List.getElem_mem hlt)
        have hyk := HYK.out
        rw [List.drop_eq_getElem_cons hlt, readFrom] at hyk
        have HYN := Lib.hid hyk
        generalize LL[k] = t at c1 hsh HYN
        have HP := Lib.hid (Parse_txt t wr (HEN.out.keep (HFW.out.trans hf)) hsh)
        have hk1 : k < cap0 := by omega
        clear hc1 he1 hyk hf hown HYK
        rcases parseLn_cases t with ⟨x, okx, mx, lx, hx⟩ | hx
        · rw [hx] at HP HYN
          simp only [if_true] at HYN
          clear okx mx lx hx
          go_wp2_with fail
          refine HP.out.mono ?_
          rintro e w2 k2
          obtain ⟨ta, tn, tc, ra, rn, rc, rfl, ht2, hr2, f2⟩ := k2.at
          simp only at ht2 hr2
          have HT2 := Lib.hid (ht2.mono fun b (hz : wr.heap.size ≤ b) => show u2.ownBlock ≠ some b from fun e => by have := (HO.out.lt b e).2; omega)
          have HR2 := Lib.hid (hr2.mono fun b (hz : wr.heap.size ≤ b) => show u2.ownBlock ≠ some b from fun e => by have := (HO.out.lt b e).2; omega)
          have F2 := Lib.hid ((HF.out.trans f2).alloc (.cells (x.cells (.slice ta tn tc) (.slice ra rn rc)) 32))
          have HO2 := Lib.hid (HO.out.fr (f2.alloc (.cells (x.cells (.slice ta tn tc) (.slice ra rn rc)) 32)))
          have hN2 := BoxAt.new w2 (x.cells (.slice ta tn tc) (.slice ra rn rc)) 32
          clear k2 ht2 hr2 f2 HO HP
          unfold Ev.val
          go_wp2_with (first | ((with_reducible refine wpList_here (.store 32 (.tmp 8) (.tmp 36)) rfl ?_); refine wpList_store_new 32 (.tmp 8) (.tmp 36) rfl _ (x.cells (.slice ta tn tc) (.slice ra rn rc)) _ rfl rfl rfl Tryz.infoEv rfl (Ev.oneCell x ta ra tn tc rn rc) rfl rfl ?_) | ((with_reducible refine wpList_here (.load 32 (.tmp 8)) rfl ?_); refine wpList_load_box 32 (.tmp 8) rfl _ rfl (x.cells (.slice ta tn tc) (.slice ra rn rc)) hN2 _ Tryz.underlying32 rfl Tryz.infoEv rfl ?_) | (refine wpList_buildEvT _ rfl x (.slice ta tn tc) (.slice ra rn rc) ?hev rfl ?_))
          case hev => rfl
          intro w3 hf3 hB3
          have F3 := Lib.hid (F2.out.trans hf3)
          have HO3 := Lib.hid (HO2.out.fr hf3)
          have HT3 := Lib.hid ((HT2.out.fr ((Fr.refl w2).alloc (.cells (x.cells (.slice ta tn tc) (.slice ra rn rc)) 32))).fr hf3)
          have HR3 := Lib.hid ((HR2.out.fr ((Fr.refl w2).alloc (.cells (x.cells (.slice ta tn tc) (.slice ra rn rc)) 32))).fr hf3)
          have HB3 := Lib.hid hB3
          clear hf3 hB3 hN2 F2 HO2 HT2 HR2
          go_wp2_with (at_builtin; refine wpList_appendX rfl (.tmp 43) (.tmp 45) rfl u2 acc rfl HO3.out F3.out _ 1 x (.slice ta tn tc) (.slice ra rn rc) rfl (fun j u hj => by rw [Nat.zero_add, BoxAt.cell HB3.out]; simpa using hj) HT3.out HR3.out (by omega) ?_)
          intro v5 w5 hO5 hf5
          have HO5 := Lib.hid hO5
          have F5 := Lib.hid hf5
          clear hO5 hf5
          go_wp2_with fail
          go_roundw
          case rel => exact ⟨k + 1, acc ++ [x], by omega, by go_num, by simp; omega, F5.out, HO5.out, HYN⟩
          case measure => simp [intOf]; omega
        · rw [hx] at HP HYN
          have hY : Y = ([], k + 1, 4) := by rw [← HYN.out]; rfl
          subst hY
          clear hx HYN
          obtain ⟨z, hz⟩ : ∃ z, z = Ev.zero := ⟨_, rfl⟩
          rw [← hz] at HP
          clear hz
          go_wp2_with fail
          refine HP.out.mono ?_
          rintro e w2 k2
          obtain ⟨ta, tn, tc, ra, rn, rc, rfl, _, _, f2⟩ := k2.at
          have F2 := Lib.hid ((HFW.out.trans (HF.out.trans f2)).alloc (.cells (z.cells (.slice ta tn tc) (.slice ra rn rc)) 32))
          clear k2 f2 HP
          unfold Ev.val
          go_wp2_with ((with_reducible refine wpList_here (.store 32 (.tmp 8) (.tmp 36)) rfl ?_); refine wpList_store_new 32 (.tmp 8) (.tmp 36) rfl _ (z.cells (.slice ta tn tc) (.slice ra rn rc)) _ rfl rfl rfl Tryz.infoEv rfl (Ev.oneCell z ta ra tn tc rn rc) rfl rfl ?_)
          go_ret3
          exact ⟨.slice none 0 0, by simp, ⟨none, 0, rfl, Nat.le_refl _, by decide, .inl rfl⟩, F2.out⟩
      · have hkl : LL.drop k = [] := List.drop_eq_nil_of_le (by omega)
        have hyk := HYK.out
        rw [hkl, readFrom] at hyk
        subst hyk
        have hkk : k = LL.length := by omega
        have HKK := Lib.hid hkk
        clear hkl HYK hf hown hkk
        go_wp2_with fail
        go_ret3
        exact ⟨u2, by rw [HKK.out]; rfl, HO.out.rd, HFW.out.trans HF.out⟩
  · have hLL := HLB.out (by simpa using hz)
    subst hLL
    have n1 : (z == []) = false := by simpa using hz
    have hLN := HROW.out.rd
    have HFW := Lib.hid HROW.out.frm
    clear HLA HLB HSP hwl hz HROW
    obtain ⟨W1, hW1⟩ : ∃ W1, W1 = w1 := ⟨_, rfl⟩
    subst hW1
    have HYL : Hid (readFrom (LL.drop 0) 0 [] = Y) := by rw [List.drop_zero]; exact HY0
    have HSH := HSH0
    have HLN := Lib.hid hLN
    have hnl : LL.length ≤ 1000000 := by omega
    obtain ⟨la, lc, hlv, hlc, hlm⟩ := HLN.out.form
    obtain ⟨rfl, _, rfl⟩ := Value.slice.inj hlv
    unfold maxLen at hlm
    clear hLN
    go_wp2_with fail
    go_loopw [2, 28] (fun o i wr => ∃ (k : Nat) (acc : List Ev), k ≤ LL.length ∧ i = .int .i64 k ∧ acc.length ≤ k ∧ Fr W1 wr ∧ OwX W1 wr o acc ∧ Hid (readFrom (LL.drop k) k acc = Y)) (fun _ i _ => LL.length - (intOf i).toNat)
    case atStart => exact ⟨0, [], Nat.zero_le _, rfl, Nat.le_refl _, by first | exact Fr.refl _ | exact (Fr.refl _).drew, OwX.nil _ _, HYL⟩
    case round =>
      clear HYL
      obtain ⟨k, acc, hk, rfl, hak, hf, hown, HYK⟩ := hrel
      have HF := Lib.hid hf
      have HO := Lib.hid hown
      by_cases hlt : k < LL.length
      · obtain ⟨b1, o1, cap1, he1, _, _, hb1, hc1⟩ := RdS.at (HLN.out.keep hf) hlt
        obtain ⟨hq1, _, hq2⟩ := Value.slice.inj he1
        obtain ⟨hq3, hq4⟩ : b1 = b0 ∧ o1 = off0 := by simp at hq1; exact ⟨hq1.1.symm, hq1.2.symm⟩
        subst hq3 hq4 hq2
        have c1 := hc1 k LL[k] (by simp [hlt])
        have hsh := HSH.out LL[k] (List.getElem_mem hlt)
        have hyk := HYK.out
        rw [List.drop_eq_getElem_cons hlt, readFrom] at hyk
        have HYN := Lib.hid hyk
        generalize LL[k] = t at c1 hsh HYN
        have HP := Lib.hid (Parse_txt t wr (HEN.out.keep (HFW.out.trans hf)) hsh)
        have hk1 : k < cap0 := by omega
        clear hc1 he1 hyk hf hown HYK
        rcases parseLn_cases t with ⟨x, okx, mx, lx, hx⟩ | hx
        · rw [hx] at HP HYN
          simp only [if_true] at HYN
          clear okx mx lx hx
          go_wp2_with fail
          refine HP.out.mono ?_
          rintro e w2 k2
          obtain ⟨ta, tn, tc, ra, rn, rc, rfl, ht2, hr2, f2⟩ := k2.at
          simp only at ht2 hr2
          have HT2 := Lib.hid (ht2.mono fun b (hz : wr.heap.size ≤ b) => show u2.ownBlock ≠ some b from fun e => by have := (HO.out.lt b e).2; omega)
          have HR2 := Lib.hid (hr2.mono fun b (hz : wr.heap.size ≤ b) => show u2.ownBlock ≠ some b from fun e => by have := (HO.out.lt b e).2; omega)
          have F2 := Lib.hid ((HF.out.trans f2).alloc (.cells (x.cells (.slice ta tn tc) (.slice ra rn rc)) 32))
          have HO2 := Lib.hid (HO.out.fr (f2.alloc (.cells (x.cells (.slice ta tn tc) (.slice ra rn rc)) 32)))
          have hN2 := BoxAt.new w2 (x.cells (.slice ta tn tc) (.slice ra rn rc)) 32
          clear k2 ht2 hr2 f2 HO HP
          unfold Ev.val
          go_wp2_with (first | ((with_reducible refine wpList_here (.store 32 (.tmp 8) (.tmp 36)) rfl ?_); refine wpList_store_new 32 (.tmp 8) (.tmp 36) rfl _ (x.cells (.slice ta tn tc) (.slice ra rn rc)) _ rfl rfl rfl Tryz.infoEv rfl (Ev.oneCell x ta ra tn tc rn rc) rfl rfl ?_) | ((with_reducible refine wpList_here (.load 32 (.tmp 8)) rfl ?_); refine wpList_load_box 32 (.tmp 8) rfl _ rfl (x.cells (.slice ta tn tc) (.slice ra rn rc)) hN2 _ Tryz.underlying32 rfl Tryz.infoEv rfl ?_) | (refine wpList_buildEvT _ rfl x (.slice ta tn tc) (.slice ra rn rc) ?hev rfl ?_))
          case hev => rfl
          intro w3 hf3 hB3
          have F3 := Lib.hid (F2.out.trans hf3)
          have HO3 := Lib.hid (HO2.out.fr hf3)
          have HT3 := Lib.hid ((HT2.out.fr ((Fr.refl w2).alloc (.cells (x.cells (.slice ta tn tc) (.slice ra rn rc)) 32))).fr hf3)
          have HR3 := Lib.hid ((HR2.out.fr ((Fr.refl w2).alloc (.cells (x.cells (.slice ta tn tc) (.slice ra rn rc)) 32))).fr hf3)
          have HB3 := Lib.hid hB3
          clear hf3 hB3 hN2 F2 HO2 HT2 HR2
          go_wp2_with (at_builtin; refine wpList_appendX rfl (.tmp 43) (.tmp 45) rfl u2 acc rfl HO3.out F3.out _ 1 x (.slice ta tn tc) (.slice ra rn rc) rfl (fun j u hj => by rw [Nat.zero_add, BoxAt.cell HB3.out]; simpa using hj) HT3.out HR3.out (by omega) ?_)
          intro v5 w5 hO5 hf5
          have HO5 := Lib.hid hO5
          have F5 := Lib.hid hf5
          clear hO5 hf5
          go_wp2_with fail
          go_roundw
          case rel => exact ⟨k + 1, acc ++ [x], by omega, by go_num, by simp; omega, F5.out, HO5.out, HYN⟩
          case measure => simp [intOf]; omega
        · rw [hx] at HP HYN
          have hY : Y = ([], k + 1, 4) := by rw [← HYN.out]; rfl
          subst hY
          clear hx HYN
          obtain ⟨z, hz⟩ : ∃ z, z = Ev.zero := ⟨_, rfl⟩
          rw [← hz] at HP
          clear hz
          go_wp2_with fail
          refine HP.out.mono ?_
          rintro e w2 k2
          obtain ⟨ta, tn, tc, ra, rn, rc, rfl, _, _, f2⟩ := k2.at
          have F2 := Lib.hid ((HFW.out.trans (HF.out.trans f2)).alloc (.cells (z.cells (.slice ta tn tc) (.slice ra rn rc)) 32))
          clear k2 f2 HP
          unfold Ev.val
          go_wp2_with ((with_reducible refine wpList_here (.store 32 (.tmp 8) (.tmp 36)) rfl ?_); refine wpList_store_new 32 (.tmp 8) (.tmp 36) rfl _ (z.cells (.slice ta tn tc) (.slice ra rn rc)) _ rfl rfl rfl Tryz.infoEv rfl (Ev.oneCell z ta ra tn tc rn rc) rfl rfl ?_)
          go_ret3
          exact ⟨.slice none 0 0, by simp, ⟨none, 0, rfl, Nat.le_refl _, by decide, .inl rfl⟩, F2.out⟩
      · have hkl : LL.drop k = [] := List.drop_eq_nil_of_le (by omega)
        have hyk := HYK.out
        rw [hkl, readFrom] at hyk
        subst hyk
        have hkk : k = LL.length := by omega
        have HKK := Lib.hid hkk
        clear hkl HYK hf hown hkk
        go_wp2_with fail
        go_ret3
        exact ⟨u2, by rw [HKK.out]; rfl, HO.out.rd, HFW.out.trans HF.out⟩
end Go.Proofs.YtfklgaeejmeipaaGreatDoor

/- The document's Read answers what readT says. Of any text whose lines are at most 20000 bytes. Printed by gen_refread.py. -/
namespace Go.Proofs.YtfklgaeejmeipaaGreatDoor
open Go.RowKit
attribute [local go_sem] Oper.semAt_some

theorem rdS_pre {w : World} {b off cap : Nat} {l : List W8} (h : RdS w (.slice (some ⟨b, off, none⟩) l.length cap) l) : RdS w (.slice (some ⟨b, off, none⟩) (l.length - 1) cap) l.dropLast := by
  obtain ⟨a', cap', he, h1, h2, h3⟩ := h
  obtain ⟨rfl, _, rfl⟩ := Value.slice.inj he
  refine ⟨_, _, by rw [List.length_dropLast], by rw [List.length_dropLast]; omega, h2, ?_⟩
  rcases h3 with h3 | ⟨b', o', he', hz, hb, hc⟩
  · left
    have : l = [] := by have := congrArg List.length h3; simp [strCells] at this; exact this
    rw [this]; rfl
  · refine .inr ⟨b', o', he', hz, hb, fun j u hj => hc j u ?_⟩
    unfold strCells at hj ⊢
    rw [List.getElem?_map] at hj ⊢
    obtain ⟨y, hy, rfl⟩ := Option.map_eq_some_iff.1 hj
    rw [List.getElem?_dropLast] at hy
    split at hy
    · rw [hy]; rfl
    · cases hy
set_option maxRecDepth 100000 in
set_option maxHeartbeats 4000000 in
theorem rRead6_c (s : W8) (w : World) (hs : s.length ≤ 500000) (hsh : ∀ t ∈ linesOf s, t.length ≤ 20000) : Calls Tryz.prog 22 #[.string ⟨s.toArray⟩] w (ReadRet w (readT s)) := by
  have HSP : Hid (Calls Tryz.prog 46 #[.string ⟨s.toArray⟩, .int .u8 10] w fun e w' => ∃ v, e = .returned v ∧ RowS w w' v (splitS 10 s)) := Lib.hid (cut06_c s 10 w (by omega))
  have hwl := splitS_ne 10 s
  have hwn := splitS_len 10 s
  have hwc : s.count 10 ≤ s.length := List.count_le_length
  have HLA := Lib.hid (fun (h : (splitS 10 s).getLast? = some []) => show linesOf s = (splitS 10 s).dropLast by unfold linesOf; rw [if_pos h])
  have HLB := Lib.hid (fun (h : ¬ (splitS 10 s).getLast? = some []) => show linesOf s = splitS 10 s by unfold linesOf; rw [if_neg h])
  have HY0 : Hid (readFrom (linesOf s) 0 [] = readT s) := Lib.hid rfl
  have HSH0 := Lib.hid hsh
  generalize linesOf s = LL at HLA HLB HY0 HSH0
  generalize readT s = Y at HY0 ⊢
  generalize splitS 10 s = wl at HSP hwl hwn HLA HLB
  have hwb : wl.length ≤ 1000000 := by omega
  have hpos : 0 < wl.length := List.length_pos_iff.2 hwl
  clear hsh hwn hwc hs
  go_enter Tryz.func22, Tryz.ntmps22
  go_wp2_with fail
  refine HSP.out.mono ?_
  rintro e w1 ⟨v1, rfl, hrow⟩
  have HROW := Lib.hid hrow
  obtain ⟨b0, off0, cap0, rfl, hcap0, hmax0, hb0, hc0⟩ := hrow.rd.at (k := wl.length - 1) (by omega)
  unfold maxLen at hmax0
  have hlast : wl.getLast? = some wl[wl.length - 1] := by rw [List.getLast?_eq_getElem?]; simp [hpos]
  have cl := hc0 (wl.length - 1) wl[wl.length - 1] (by simp [hpos])
  rw [hlast] at HLA HLB
  have hsub : ((wl.length : Int) - 1) = ((wl.length - 1 : Nat) : Int) := by omega
  generalize hzz : wl[wl.length - 1] = z at cl HLA HLB
  clear hlast hrow hc0 hzz
  by_cases hz : z = []
  · have hLL := HLA.out (by rw [hz])
    subst hz
    have hnn : wl.length - 1 = LL.length := by rw [hLL, List.length_dropLast]
    have hlt1 : LL.length < wl.length := by omega
    have hLN := rdS_pre HROW.out.rd
    rw [hnn, ← hLL] at hLN
    rw [hnn] at cl hsub
    have HFW := Lib.hid HROW.out.frm
    have hcl : LL.length ≤ cap0 := by omega
    clear HLA HLB HSP hwl hLL HROW hnn
    obtain ⟨W1, hW1⟩ : ∃ W1, W1 = w1 := ⟨_, rfl⟩
    subst hW1
    have HYL : Hid (readFrom (LL.drop 0) 0 [] = Y) := by rw [List.drop_zero]; exact HY0
    have HSH := HSH0
    have HLN := Lib.hid hLN
    have hnl : LL.length ≤ 1000000 := by omega
    obtain ⟨la, lc, hlv, hlc, hlm⟩ := HLN.out.form
    obtain ⟨rfl, _, rfl⟩ := Value.slice.inj hlv
    unfold maxLen at hlm
    clear hLN
    go_wp2_with fail
    go_loopw [6, 7] (fun o i wr => ∃ (k : Nat) (acc : List Ev), k ≤ LL.length ∧ i = .int .i64 k ∧ acc.length ≤ k ∧ Fr W1 wr ∧ OwX W1 wr o acc ∧ Hid (readFrom (LL.drop k) k acc = Y)) (fun _ i _ => LL.length - (intOf i).toNat)
    case atStart => exact ⟨0, [], Nat.zero_le _, rfl, Nat.le_refl _, by first | exact Fr.refl _ | exact (Fr.refl _).drew, OwX.nil _ _, HYL⟩
    case round =>
      clear HYL
      obtain ⟨k, acc, hk, rfl, hak, hf, hown, HYK⟩ := hrel
      have HF := Lib.hid hf
      have HO := Lib.hid hown
      by_cases hlt : k < LL.length
      · obtain ⟨b1, o1, cap1, he1, _, _, hb1, hc1⟩ := RdS.at (HLN.out.keep hf) hlt
        obtain ⟨hq1, _, hq2⟩ := Value.slice.inj he1
        obtain ⟨hq3, hq4⟩ : b1 = b0 ∧ o1 = off0 := by simp at hq1; exact ⟨hq1.1.symm, hq1.2.symm⟩
        subst hq3 hq4 hq2
        have c1 := hc1 k LL[k] (by simp [hlt])
        have hsh := HSH.out LL[k] (List.getElem_mem hlt)
        have hyk := HYK.out
        rw [List.drop_eq_getElem_cons hlt, readFrom] at hyk
        have HYN := Lib.hid hyk
        generalize LL[k] = t at c1 hsh HYN
        have HP := Lib.hid (rParse6_c t wr hsh)
        have hk1 : k < cap0 := by omega
        clear hc1 he1 hyk hf hown HYK
        rcases parseLn_cases t with ⟨x, okx, mx, lx, hx⟩ | hx
        · rw [hx] at HP HYN
          simp only [if_true] at HYN
          clear okx mx lx hx
          go_wp2_with fail
          refine HP.out.mono ?_
          rintro e w2 k2
          obtain ⟨ta, tn, tc, ra, rn, rc, rfl, ht2, hr2, f2⟩ := k2.at
          simp only at ht2 hr2
          have HT2 := Lib.hid (ht2.mono fun b (hz : wr.heap.size ≤ b) => show u6.ownBlock ≠ some b from fun e => by have := (HO.out.lt b e).2; omega)
          have HR2 := Lib.hid (hr2.mono fun b (hz : wr.heap.size ≤ b) => show u6.ownBlock ≠ some b from fun e => by have := (HO.out.lt b e).2; omega)
          have F2 := Lib.hid ((HF.out.trans f2).alloc (.cells (x.cells (.slice ta tn tc) (.slice ra rn rc)) 32))
          have HO2 := Lib.hid (HO.out.fr (f2.alloc (.cells (x.cells (.slice ta tn tc) (.slice ra rn rc)) 32)))
          have hN2 := BoxAt.new w2 (x.cells (.slice ta tn tc) (.slice ra rn rc)) 32
          clear k2 ht2 hr2 f2 HO HP
          unfold Ev.val
          go_wp2_with (first | ((with_reducible refine wpList_here (.store 32 (.tmp 8) (.tmp 36)) rfl ?_); refine wpList_store_new 32 (.tmp 8) (.tmp 36) rfl _ (x.cells (.slice ta tn tc) (.slice ra rn rc)) _ rfl rfl rfl Tryz.infoEv rfl (Ev.oneCell x ta ra tn tc rn rc) rfl rfl ?_) | ((with_reducible refine wpList_here (.load 32 (.tmp 8)) rfl ?_); refine wpList_load_box 32 (.tmp 8) rfl _ rfl (x.cells (.slice ta tn tc) (.slice ra rn rc)) hN2 _ Tryz.underlying32 rfl Tryz.infoEv rfl ?_) | (refine wpList_buildEvT _ rfl x (.slice ta tn tc) (.slice ra rn rc) ?hev rfl ?_))
          case hev => rfl
          intro w3 hf3 hB3
          have F3 := Lib.hid (F2.out.trans hf3)
          have HO3 := Lib.hid (HO2.out.fr hf3)
          have HT3 := Lib.hid ((HT2.out.fr ((Fr.refl w2).alloc (.cells (x.cells (.slice ta tn tc) (.slice ra rn rc)) 32))).fr hf3)
          have HR3 := Lib.hid ((HR2.out.fr ((Fr.refl w2).alloc (.cells (x.cells (.slice ta tn tc) (.slice ra rn rc)) 32))).fr hf3)
          have HB3 := Lib.hid hB3
          clear hf3 hB3 hN2 F2 HO2 HT2 HR2
          go_wp2_with (at_builtin; refine wpList_appendX rfl (.tmp 42) (.tmp 44) rfl u6 acc rfl HO3.out F3.out _ 1 x (.slice ta tn tc) (.slice ra rn rc) rfl (fun j u hj => by rw [Nat.zero_add, BoxAt.cell HB3.out]; simpa using hj) HT3.out HR3.out (by omega) ?_)
          intro v5 w5 hO5 hf5
          have HO5 := Lib.hid hO5
          have F5 := Lib.hid hf5
          clear hO5 hf5
          go_wp2_with fail
          go_roundw
          case rel => exact ⟨k + 1, acc ++ [x], by omega, by go_num, by simp; omega, F5.out, HO5.out, HYN⟩
          case measure => simp [intOf]; omega
        · rw [hx] at HP HYN
          have hY : Y = ([], k + 1, 4) := by rw [← HYN.out]; rfl
          subst hY
          clear hx HYN
          obtain ⟨z, hz⟩ : ∃ z, z = Ev.zero := ⟨_, rfl⟩
          rw [← hz] at HP
          clear hz
          go_wp2_with fail
          refine HP.out.mono ?_
          rintro e w2 k2
          obtain ⟨ta, tn, tc, ra, rn, rc, rfl, _, _, f2⟩ := k2.at
          have F2 := Lib.hid ((HFW.out.trans (HF.out.trans f2)).alloc (.cells (z.cells (.slice ta tn tc) (.slice ra rn rc)) 32))
          clear k2 f2 HP
          unfold Ev.val
          go_wp2_with ((with_reducible refine wpList_here (.store 32 (.tmp 8) (.tmp 36)) rfl ?_); refine wpList_store_new 32 (.tmp 8) (.tmp 36) rfl _ (z.cells (.slice ta tn tc) (.slice ra rn rc)) _ rfl rfl rfl Tryz.infoEv rfl (Ev.oneCell z ta ra tn tc rn rc) rfl rfl ?_)
          go_ret3
          exact ⟨.slice none 0 0, by simp, ⟨none, 0, rfl, Nat.le_refl _, by decide, .inl rfl⟩, F2.out⟩
      · have hkl : LL.drop k = [] := List.drop_eq_nil_of_le (by omega)
        have hyk := HYK.out
        rw [hkl, readFrom] at hyk
        subst hyk
        have hkk : k = LL.length := by omega
        have HKK := Lib.hid hkk
        clear hkl HYK hf hown hkk
        go_wp2_with fail
        go_ret3
        exact ⟨u6, by rw [HKK.out]; rfl, HO.out.rd, HFW.out.trans HF.out⟩
  · have hLL := HLB.out (by simpa using hz)
    subst hLL
    have n1 : (z == []) = false := by simpa using hz
    have hLN := HROW.out.rd
    have HFW := Lib.hid HROW.out.frm
    clear HLA HLB HSP hwl hz HROW
    obtain ⟨W1, hW1⟩ : ∃ W1, W1 = w1 := ⟨_, rfl⟩
    subst hW1
    have HYL : Hid (readFrom (LL.drop 0) 0 [] = Y) := by rw [List.drop_zero]; exact HY0
    have HSH := HSH0
    have HLN := Lib.hid hLN
    have hnl : LL.length ≤ 1000000 := by omega
    obtain ⟨la, lc, hlv, hlc, hlm⟩ := HLN.out.form
    obtain ⟨rfl, _, rfl⟩ := Value.slice.inj hlv
    unfold maxLen at hlm
    clear hLN
    go_wp2_with fail
    go_loopw [6, 7] (fun o i wr => ∃ (k : Nat) (acc : List Ev), k ≤ LL.length ∧ i = .int .i64 k ∧ acc.length ≤ k ∧ Fr W1 wr ∧ OwX W1 wr o acc ∧ Hid (readFrom (LL.drop k) k acc = Y)) (fun _ i _ => LL.length - (intOf i).toNat)
    case atStart => exact ⟨0, [], Nat.zero_le _, rfl, Nat.le_refl _, by first | exact Fr.refl _ | exact (Fr.refl _).drew, OwX.nil _ _, HYL⟩
    case round =>
      clear HYL
      obtain ⟨k, acc, hk, rfl, hak, hf, hown, HYK⟩ := hrel
      have HF := Lib.hid hf
      have HO := Lib.hid hown
      by_cases hlt : k < LL.length
      · obtain ⟨b1, o1, cap1, he1, _, _, hb1, hc1⟩ := RdS.at (HLN.out.keep hf) hlt
        obtain ⟨hq1, _, hq2⟩ := Value.slice.inj he1
        obtain ⟨hq3, hq4⟩ : b1 = b0 ∧ o1 = off0 := by simp at hq1; exact ⟨hq1.1.symm, hq1.2.symm⟩
        subst hq3 hq4 hq2
        have c1 := hc1 k LL[k] (by simp [hlt])
        have hsh := HSH.out LL[k] (List.getElem_mem hlt)
        have hyk := HYK.out
        rw [List.drop_eq_getElem_cons hlt, readFrom] at hyk
        have HYN := Lib.hid hyk
        generalize LL[k] = t at c1 hsh HYN
        have HP := Lib.hid (rParse6_c t wr hsh)
        have hk1 : k < cap0 := by omega
        clear hc1 he1 hyk hf hown HYK
        rcases parseLn_cases t with ⟨x, okx, mx, lx, hx⟩ | hx
        · rw [hx] at HP HYN
          simp only [if_true] at HYN
          clear okx mx lx hx
          go_wp2_with fail
          refine HP.out.mono ?_
          rintro e w2 k2
          obtain ⟨ta, tn, tc, ra, rn, rc, rfl, ht2, hr2, f2⟩ := k2.at
          simp only at ht2 hr2
          have HT2 := Lib.hid (ht2.mono fun b (hz : wr.heap.size ≤ b) => show u6.ownBlock ≠ some b from fun e => by have := (HO.out.lt b e).2; omega)
          have HR2 := Lib.hid (hr2.mono fun b (hz : wr.heap.size ≤ b) => show u6.ownBlock ≠ some b from fun e => by have := (HO.out.lt b e).2; omega)
          have F2 := Lib.hid ((HF.out.trans f2).alloc (.cells (x.cells (.slice ta tn tc) (.slice ra rn rc)) 32))
          have HO2 := Lib.hid (HO.out.fr (f2.alloc (.cells (x.cells (.slice ta tn tc) (.slice ra rn rc)) 32)))
          have hN2 := BoxAt.new w2 (x.cells (.slice ta tn tc) (.slice ra rn rc)) 32
          clear k2 ht2 hr2 f2 HO HP
          unfold Ev.val
          go_wp2_with (first | ((with_reducible refine wpList_here (.store 32 (.tmp 8) (.tmp 36)) rfl ?_); refine wpList_store_new 32 (.tmp 8) (.tmp 36) rfl _ (x.cells (.slice ta tn tc) (.slice ra rn rc)) _ rfl rfl rfl Tryz.infoEv rfl (Ev.oneCell x ta ra tn tc rn rc) rfl rfl ?_) | ((with_reducible refine wpList_here (.load 32 (.tmp 8)) rfl ?_); refine wpList_load_box 32 (.tmp 8) rfl _ rfl (x.cells (.slice ta tn tc) (.slice ra rn rc)) hN2 _ Tryz.underlying32 rfl Tryz.infoEv rfl ?_) | (refine wpList_buildEvT _ rfl x (.slice ta tn tc) (.slice ra rn rc) ?hev rfl ?_))
          case hev => rfl
          intro w3 hf3 hB3
          have F3 := Lib.hid (F2.out.trans hf3)
          have HO3 := Lib.hid (HO2.out.fr hf3)
          have HT3 := Lib.hid ((HT2.out.fr ((Fr.refl w2).alloc (.cells (x.cells (.slice ta tn tc) (.slice ra rn rc)) 32))).fr hf3)
          have HR3 := Lib.hid ((HR2.out.fr ((Fr.refl w2).alloc (.cells (x.cells (.slice ta tn tc) (.slice ra rn rc)) 32))).fr hf3)
          have HB3 := Lib.hid hB3
          clear hf3 hB3 hN2 F2 HO2 HT2 HR2
          go_wp2_with (at_builtin; refine wpList_appendX rfl (.tmp 42) (.tmp 44) rfl u6 acc rfl HO3.out F3.out _ 1 x (.slice ta tn tc) (.slice ra rn rc) rfl (fun j u hj => by rw [Nat.zero_add, BoxAt.cell HB3.out]; simpa using hj) HT3.out HR3.out (by omega) ?_)
          intro v5 w5 hO5 hf5
          have HO5 := Lib.hid hO5
          have F5 := Lib.hid hf5
          clear hO5 hf5
          go_wp2_with fail
          go_roundw
          case rel => exact ⟨k + 1, acc ++ [x], by omega, by go_num, by simp; omega, F5.out, HO5.out, HYN⟩
          case measure => simp [intOf]; omega
        · rw [hx] at HP HYN
          have hY : Y = ([], k + 1, 4) := by rw [← HYN.out]; rfl
          subst hY
          clear hx HYN
          obtain ⟨z, hz⟩ : ∃ z, z = Ev.zero := ⟨_, rfl⟩
          rw [← hz] at HP
          clear hz
          go_wp2_with fail
          refine HP.out.mono ?_
          rintro e w2 k2
          obtain ⟨ta, tn, tc, ra, rn, rc, rfl, _, _, f2⟩ := k2.at
          have F2 := Lib.hid ((HFW.out.trans (HF.out.trans f2)).alloc (.cells (z.cells (.slice ta tn tc) (.slice ra rn rc)) 32))
          clear k2 f2 HP
          unfold Ev.val
          go_wp2_with ((with_reducible refine wpList_here (.store 32 (.tmp 8) (.tmp 36)) rfl ?_); refine wpList_store_new 32 (.tmp 8) (.tmp 36) rfl _ (z.cells (.slice ta tn tc) (.slice ra rn rc)) _ rfl rfl rfl Tryz.infoEv rfl (Ev.oneCell z ta ra tn tc rn rc) rfl rfl ?_)
          go_ret3
          exact ⟨.slice none 0 0, by simp, ⟨none, 0, rfl, Nat.le_refl _, by decide, .inl rfl⟩, F2.out⟩
      · have hkl : LL.drop k = [] := List.drop_eq_nil_of_le (by omega)
        have hyk := HYK.out
        rw [hkl, readFrom] at hyk
        subst hyk
        have hkk : k = LL.length := by omega
        have HKK := Lib.hid hkk
        clear hkl HYK hf hown hkk
        go_wp2_with fail
        go_ret3
        exact ⟨u6, by rw [HKK.out]; rfl, HO.out.rd, HFW.out.trans HF.out⟩
end Go.Proofs.YtfklgaeejmeipaaGreatDoor
