/- HistoryTurns. No condition but that the events can be read, and the numbers' bounds. -/
import Derived.Test.YtdjjjnoecfbjeaaDoorPHisSteps
import Derived.Deep.Cut
set_option linter.all false
set_option linter.unusedVariables false
set_option linter.unusedSimpArgs false
set_option linter.unnecessarySimpa false
/- HistoryTurns. No condition but that the events can be read, and the numbers' bounds. -/
namespace Go.Proofs.YtdjjjnoecfbjeaaDoor
open Go.RowKit
attribute [local go_sem] Oper.semAt_some

/-- A slice literal of one event. -/
theorem wpList_buildEv1 {ops : Array Oper} {rest : List Oper} {o : Oper} {a : Act} {w : World} {Q : Exit → Act → World → Prop} (parts : Array (Nat × Operand)) (ho : o.op = .buildSlice 42 1 parts) (y : Ev) (t r : Value)
    (hev : (parts.map fun (i, x) => (i, a.eval x)).toList = [(0, y.val t r)]) (hw : Region.wanted o (yielded ops a.tmps) = true)
    (h : ∀ w', Fr w w' → BoxAt w' w.heap.size (y.cells t r) 32 → wpList Tryd.prog ops Q rest (a.put o.dst (.slice (some ⟨w.heap.size, 0, none⟩) 1 1)) w') : wpList Tryd.prog ops Q (o :: rest) a w := by
  refine wpList_step fun K hK => ?_
  simp only [hw, if_true]
  have hi := Tryd.infoEvH
  cases hie : Tryd.prog.info? 32 with
  | none => rw [hie] at hi; cases hi
  | some ie =>
    rw [hie] at hi
    simp only [Option.map_some, Option.some.injEq, Prod.mk.injEq] at hi
    obtain ⟨hz, hs⟩ := hi
    refine Go.wp_buildSlice 42 32 1 parts ho (y.cells t r) ie _ Tryd.underlying42 hie hz (by rw [hs]; omega) (by rw [hs]; omega) ?_ (hK _ _ (h _ ((Fr.refl w).alloc _) (BoxAt.new w _ _)))
    rw [hev, hs]
    exact (Great.fill_whole (s := 19) (by omega) [y.val t r] _ (fun v hv => by obtain rfl := List.mem_singleton.1 hv; rfl) (by simp)).trans rfl
theorem mic_eql (x y : Mic) (W : World) : (binOp .eql 34 (.agg #[.bool x.read, .int .u8 x.key, .int .u16 x.v]) (.agg #[.bool y.read, .int .u8 y.key, .int .u16 y.v])).run Tryd.prog W = .ok (.bool (decide (x = y))) W := by
  obtain ⟨a, b, c⟩ := x
  obtain ⟨a', b', c'⟩ := y
  by_cases h1 : a = a' <;> by_cases h2 : b = b' <;> by_cases h3 : c = c' <;> simp [go_sem, Tryd.eqGuardType34, Tryd.stoodInHeld34, Tryd.underlying34, h1, h2, h3] <;> (intros; omega)
set_option maxRecDepth 100000 in
set_option maxHeartbeats 8000000 in
theorem turns_c (l : List Ev) (v : Value) (w : World) (hE : Env w) (hl : RdE w v l) (hok : ∀ e ∈ l, e.Ok) : Calls Tryd.prog 4 #[v] w fun e w' => e = .returned (.bool true) ∧ Fr w w' := by
  have hfew := few7_c l v w hl
  have haw := fun W (f : Fr w W) => awake7_c W (hE.keep f)
  obtain ⟨a, cap, rfl, hcap, hmax, _⟩ := id hl
  unfold maxLen at hmax
  have HAW := Lib.hid haw
  have HL := Lib.hid hl
  have HE := Lib.hid hE
  clear haw hl hE
  go_enter Tryd.func4, Tryd.ntmps4
  go_wp2_with fail
  refine hfew.mono ?_
  rintro e w1 ⟨b, rfl, hb, hF1⟩
  clear hfew
  cases b
  · go_wp2_with fail
    refine (HAW.out _ hF1).mono ?_
    rintro e w2 ⟨rfl, hf2⟩
    go_wp2_with fail
    go_ret
    exact ⟨rfl, hF1.trans hf2⟩
  · have hl120 := hb rfl
    clear hb
    go_wp2_with fail
    refine (new_c _).mono ?_
    rintro e w2 ⟨⟨p, bm, rfl, hp, hbm, hA⟩, hf2⟩
    have hF2 := hF1.trans hf2
    have hp0 : w.heap.size ≤ p := by have := hF1.size; omega
    have hbm0 : w.heap.size ≤ bm := by have := hF1.size; omega
    have hA0 : AutIn (fun k => (Value.slice none 0 0).ownBlock ≠ some k) w2 p bm [] := hA.inn.mono fun k _ => by simp [Value.ownBlock]
    clear hA hf2
    go_wp2_with fail
    go_loopw [4, 5] (fun v i wr => ∃ k : Nat, k ≤ l.length ∧ i = .int .i64 k ∧ Fr w wr ∧ OwE w wr v (runTo (l.take k)) ∧ AutIn (fun b => v.ownBlock ≠ some b) wr p bm (runTo (l.take k))) (fun _ i _ => l.length - (intOf i).toNat)
    case atStart => exact ⟨0, Nat.zero_le _, rfl, hF2, OwE.nil _ _, hA0⟩
    case round =>
      clear hA0 hF2
      obtain ⟨k, hk, rfl, hfr, hO, hA⟩ := hrel
      by_cases hlt : k < l.length
      · obtain ⟨b1, o1, t, r, rfl, hb1, hx0, ht0, hr0⟩ := RdE.at HL.out hlt
        have hx := rangeAt_keep hx0 (hfr.block hb1)
        have hb1r : b1 < wr.heap.size := Nat.lt_of_lt_of_le hb1 hfr.size
        have hk1 : k < cap := by omega
        have hok1 := hok _ (List.getElem_mem hlt)
        have hrt := runTo_take hlt
        have hlen1 : (runTo (l.take k)).length ≤ 1000 := by have := runTo_len (l.take k); simp at this; omega
        generalize l[k] = x at hx0 hx ht0 hr0 hok1 hrt
        generalize runTo (l.take k) = M at hO hA hrt hlen1
        obtain ⟨ta, tn, tc, rfl⟩ := ht0.slice
        obtain ⟨ra, rn, rc, rfl⟩ := hr0.slice
        have HX : Hid (EvAt wr (x.val (.slice ta tn tc) (.slice ra rn rc)) x) := ⟨_, _, rfl, ht0.keep hfr, hr0.keep hfr⟩
        have HTR : Hid (RdM w (.slice ta tn tc) x.txn ∧ RdR w (.slice ra rn rc) x.reads) := ⟨ht0, hr0⟩
        have HO := Lib.hid hO
        have HA := Lib.hid hA
        have HRT := Lib.hid hrt
        have hst := stepIn_c wr (fun k hk e => by have := (HO.out.lt k e).2; omega) HA.out (HE.out.keep hfr) HX.out hok1 (by omega)
        clear hO hA ht0 hr0 hrt
        by_cases h0 : stepWhy M x = 0
        · rw [h0, stepTo_yes h0] at hst
          have hRT : runTo (l.take (k + 1)) = M ++ [x] := by rw [HRT.out, stepTo_yes h0]
          have HS := Lib.hid hst
          have HRT2 := Lib.hid hRT
          clear hst hRT h0
          go_wp2_with ((with_reducible refine wpList_here (.load 32 (.tmp 33)) rfl ?_); refine wpList_load_midW 32 (.tmp 33) rfl b1 (o1 + k * 19) rfl (x.cells (.slice ta tn tc) (.slice ra rn rc)).toList _ hx Tryd.underlying32 rfl Tryd.infoEv rfl ?_)
          refine HS.out.mono ?_
          rintro e w3 ⟨rfl, hA3, hc3⟩
          have hf3 : Fr w w3 := Ch2.fr hfr hc3 hp0 hbm0
          have hx3 := rangeAt_keep hx0 (hf3.block hb1)
          have hO3 : OwE w w3 u4 M := HO.out.keep fun g hg => hc3.block g (HO.out.lt g hg).2 (fun e => by obtain ⟨_, _, _, _, _, _, zp, _⟩ := HA.out; exact zp (e ▸ hg)) (fun e => by obtain ⟨_, _, _, _, _, _, _, zb, _⟩ := HA.out; exact zb (e ▸ hg))
          have HO3 := Lib.hid hO3
          have HA3 := Lib.hid hA3
          clear hO3 hA3 hc3 hx
          go_wp2_with (first | ((with_reducible refine wpList_here (.load 32 (.tmp 40)) rfl ?_); refine wpList_load_midW 32 (.tmp 40) rfl b1 (o1 + k * 19) rfl (x.cells (.slice ta tn tc) (.slice ra rn rc)).toList _ hx3 Tryd.underlying32 rfl Tryd.infoEv rfl ?_) | (refine wpList_buildEv1 _ rfl x (.slice ta tn tc) (.slice ra rn rc) ?hev rfl ?_))
          case hev => rfl
          intro w4 hf4 hB4
          have hf34 := hf3.trans hf4
          have hO4 := HO3.out.fr hf4
          have hA4 := HA3.out.keep hf4.size fun k _ hk => hf4.block hk
          clear hx3
          go_wp2_with (at_builtin; refine wpList_appendEv rfl (.tmp 37) (.tmp 42) rfl u4 M rfl hO4 hf34 w3.heap.size 1 x (.slice ta tn tc) (.slice ra rn rc) rfl (fun j u hj => by rw [Nat.zero_add, hB4.cell]; simpa using hj) HTR.out.1 HTR.out.2 (by omega) ?_)
          intro v5 w5 hO5 hg5 hat5 hf5
          have hA5 := hA4.append hg5 hat5
          rw [← HRT2.out] at hO5 hA5
          have HO5 := Lib.hid hO5
          have HA5 := Lib.hid hA5
          clear hO4 hA4 hO5 hA5 hg5 hat5 hB4
          go_wp2_with fail
          go_roundw
          case rel => exact ⟨k + 1, by omega, by go_num, hf5, HO5.out, HA5.out⟩
          case measure => simp [intOf]; omega
        · have hne : ((stepWhy M x : Int) == 0) = false := by simp; omega
          have hRT : runTo (l.take (k + 1)) = M := by rw [HRT.out, stepTo_no h0]
          rw [stepTo_no h0] at hst
          generalize stepWhy M x = S at hst hne
          have HS := Lib.hid hst
          have HRT2 := Lib.hid hRT
          clear hst hRT h0
          go_wp2_with ((with_reducible refine wpList_here (.load 32 (.tmp 33)) rfl ?_); refine wpList_load_midW 32 (.tmp 33) rfl b1 (o1 + k * 19) rfl (x.cells (.slice ta tn tc) (.slice ra rn rc)).toList _ hx Tryd.underlying32 rfl Tryd.infoEv rfl ?_)
          refine HS.out.mono ?_
          rintro e w3 ⟨rfl, hA3, hc3⟩
          have hf3 : Fr w w3 := Ch2.fr hfr hc3 hp0 hbm0
          have hO3 : OwE w w3 u4 M := HO.out.keep fun g hg => hc3.block g (HO.out.lt g hg).2 (fun e => by obtain ⟨_, _, _, _, _, _, zp, _⟩ := HA.out; exact zp (e ▸ hg)) (fun e => by obtain ⟨_, _, _, _, _, _, _, zb, _⟩ := HA.out; exact zb (e ▸ hg))
          rw [← HRT2.out] at hO3 hA3
          have HO3 := Lib.hid hO3
          have HA3 := Lib.hid hA3
          clear hO3 hA3 hc3 hx
          go_wp2_with fail
          go_roundw
          case rel => exact ⟨k + 1, by omega, by go_num, hf3, HO3.out, HA3.out⟩
          case measure => simp [intOf]; omega
      · have hkk : l.take k = l := List.take_of_length_le (by omega)
        rw [hkk] at hO
        have hV := valid_run l
        have hlenL : (runTo l).length ≤ 120 := by have := runTo_len l; omega
        have hokL : ∀ e ∈ runTo l, e.Ok := fun e he => (hA.aut.all e (by rw [hkk]; exact he)).2
        generalize runTo l = L at hO hV hlenL hokL
        have hR := hO.rd hfr
        obtain ⟨c, capL, rfl, hcL, hmL, _⟩ := id hR
        obtain ⟨W1, hW1⟩ : ∃ W1, W1 = wr := ⟨wr, rfl⟩
        subst hW1
        have HR := Lib.hid hR
        have HV := Lib.hid hV
        have HFR := Lib.hid hfr
        unfold maxLen at hmL
        clear hO hA hkk hR hV HL
        go_wp2_with fail
        go_loopw [8, 9] (fun n i wr => ∃ j : Nat, j ≤ L.length ∧ i = .int .i64 j ∧ n = .int .i64 (lastId (L.take j)) ∧ Fr W1 wr ∧ BoxAt wr W1.heap.size (arrB (L.take j)) 47 ∧ BoxAt wr (W1.heap.size + 1) (arrI (L.take j)) 48) (fun _ i _ => L.length - (intOf i).toNat)
        case atStart => exact ⟨0, Nat.zero_le _, rfl, rfl, ((Fr.refl _).alloc _).alloc _, (BoxAt.new W1 (arrB []) _).alloc _, BoxAt.new' _ (arrI []) _ _ (by simp)⟩
        case round =>
          obtain ⟨j, hj, rfl, rfl, hf, hBB, hBI⟩ := hrel
          by_cases hjl : j < L.length
          · obtain ⟨b1, o1, t, r, rfl, hb1, hx0, ht0, hr0⟩ := RdE.at HR.out hjl
            have hx := rangeAt_keep hx0 (hf.block hb1)
            have hb1r : b1 < wr.heap.size := Nat.lt_of_lt_of_le hb1 hf.size
            have hj1 : j < capL := by omega
            have hok1 := hokL _ (List.getElem_mem hjl)
            have hkd := valid_kind HV.out hjl
            have hmay := stepWhy_may (HV.out j hjl)
            have hcl := Ev.may_client hmay
            have htk : L.take (j + 1) = L.take j ++ [L[j]] := List.take_succ_eq_append_getElem hjl
            have hmore := valid_more HV.out hjl
            have honce : ∀ n (hn : n < j) (m q : Mic), m ∈ L[j].txn → m.read = false → q ∈ (L[n]'(by omega)).txn → q ≠ m := fun n hn m q hm hr hq => valid_once HV.out hjl hn hm hr hq
            have hz := hBB.lt
            have hz2 := hBI.lt
            obtain ⟨ta, tn, tc, rfl⟩ := ht0.slice
            obtain ⟨ra, rn, rc, rfl⟩ := hr0.slice
            generalize hLx : L[j] = x at hx0 hx ht0 hr0 hok1 hkd hmay hcl htk hmore honce
            have hid := hok1.id
            have q0 : (x.cells (.slice ta tn tc) (.slice ra rn rc))[0]? = some (.int .u8 x.kind) := rfl
            have q1 : (x.cells (.slice ta tn tc) (.slice ra rn rc))[1]? = some (.int .u8 x.client) := rfl
            have q2 : (x.cells (.slice ta tn tc) (.slice ra rn rc))[2]? = some (.int .u16 x.id) := rfl
            have q10 : (x.cells (.slice ta tn tc) (.slice ra rn rc))[10]? = some (.slice ta tn tc) := rfl
            by_cases h0 : j = 0
            · subst h0
              have hk1 := hkd.2 rfl
              have e1 : ((x.kind : Int) == 1) = true := by simp; omega
              have e15 : ¬ (15 : Int) < x.client := by omega
              have ht1 : L.take 1 = [x] := by rw [htk]; rfl
              have HT1 := Lib.hid ht1
              have HBB := Lib.hid hBB
              have HBI := Lib.hid hBI
              clear htk hmore honce hkd ht1 hBB hBI hk1
              go_wp2_with (first | ((with_reducible refine wpList_here (.load 32 (.tmp 52)) rfl ?_); refine wpList_load_midW 32 (.tmp 52) rfl b1 (o1 + 0 * 19) rfl (x.cells (.slice ta tn tc) (.slice ra rn rc)).toList _ hx Tryd.underlying32 rfl Tryd.infoEv rfl ?_) | ((with_reducible refine wpList_here (.store 32 (.tmp 10) (.tmp 53)) rfl ?_); refine wpList_store_new 32 (.tmp 10) (.tmp 53) rfl _ (x.cells (.slice ta tn tc) (.slice ra rn rc)) _ rfl rfl rfl Tryd.infoEv rfl (Ev.oneCell x ta ra tn tc rn rc) rfl rfl ?_))
              go_roundw
              case rel =>
                refine ⟨1, by omega, by go_num, ?_, hf.alloc _, ?_, ?_⟩
                · rw [HT1.out]; rfl
                · rw [HT1.out]; exact HBB.out.alloc _
                · rw [HT1.out]; exact HBI.out.alloc _
              case measure => simp [intOf]; omega
            · have e1 : ((x.kind : Int) == 1) = false := by have : x.kind ≠ 1 := fun h => h0 (hkd.1 h); simp; omega
              have ej : ((j : Int) == 0) = false := by simp; omega
              have e15 : ¬ (15 : Int) < x.client := by omega
              have kB := hBB.at x.client (arrB_at (L.take j) hcl)
              have kI := hBI.at x.client (arrI_at (L.take j) hcl)
              have fB := hBB.free x.client
              have fI := hBI.free x.client
              have hLne := take_ne hjl h0
              have sB := arrB_snoc hLne x hcl
              have sI := arrI_snoc hLne x hcl
              have hls := lastId_snoc hLne x
              rw [← htk] at sB sI hls
              obtain ⟨hop, hcl2⟩ := hmore h0
              have HBB := Lib.hid hBB
              have HBI := Lib.hid hBI
              have HON := Lib.hid honce
              rcases (show x.kind = 2 ∨ x.kind = 5 ∨ (x.kind ≠ 2 ∧ x.kind ≠ 5) by omega) with hk | hk | hk
              · have ho : x.opens = true := kind_opens.2 (.inl hk)
                have e2 : ((x.kind : Int) == 2) = true := by simp; omega
                obtain ⟨hpn, hlt2⟩ := hop ho
                rw [hpn] at kB
                rw [ho] at sB
                have hle : ¬ (x.id : Int) ≤ lastId (L.take j) := by omega
                have hmx : lastId (L.take (j + 1)) = x.id := by omega
                clear hop hcl2 hkd hmore honce hBB hBI hLne hls hk hlt2 htk
                simp only [Option.isSome_none] at kB
                generalize lastId (L.take j) = la at hle
                go_upto_region 23 with (first | ((with_reducible refine wpList_here (.load 32 (.tmp 52)) rfl ?_); refine wpList_load_midW 32 (.tmp 52) rfl b1 (o1 + j * 19) rfl (x.cells (.slice ta tn tc) (.slice ra rn rc)).toList _ hx Tryd.underlying32 rfl Tryd.infoEv rfl ?_) | ((with_reducible refine wpList_here (.store 32 (.tmp 10) (.tmp 53)) rfl ?_); refine wpList_store_new 32 (.tmp 10) (.tmp 53) rfl _ (x.cells (.slice ta tn tc) (.slice ra rn rc)) _ rfl rfl rfl Tryd.infoEv rfl (Ev.oneCell x ta ra tn tc rn rc) rfl rfl ?_))
                refine gen_w fun W2 hW2 => ?_
                have hX2 : BoxAt W2 wr.heap.size (x.cells (.slice ta tn tc) (.slice ra rn rc)) 32 := by rw [hW2]; exact BoxAt.new _ _ _
                have hf2 : Fr wr W2 := by rw [hW2]; exact (Fr.refl _).alloc _
                clear hW2
                have kB := hf2.keep kB
                have kI := hf2.keep kI
                have r1 := hX2.at 1 q1
                have r2 := hX2.at 2 q2
                have z2 := hX2.lt
                have bB2 := HBB.out.fr hf2
                have bI2 := HBI.out.fr hf2
                have fB := bB2.free x.client
                have fI := bI2.free x.client
                have HX2 := Lib.hid hX2
                have HB2 := Lib.hid bB2
                have HI2 := Lib.hid bI2
                clear hX2 bB2 bI2 hx
                go_quiet (fail)
                go_wp2_with fail
                refine gen_w fun W3 hW3 => ?_
                have hB3 : BoxAt W3 W1.heap.size (arrB (L.take (j + 1))) 47 := by rw [hW3, ← sB]; exact ((HB2.out.drewN _).setAt x.client _).set (by simp) _
                have hI3 : BoxAt W3 (W1.heap.size + 1) (arrI (L.take (j + 1))) 48 := by rw [hW3, ← sI]; exact ((HI2.out.drewN _).set (by simp) _).setAt x.client _
                have hX3 : BoxAt W3 wr.heap.size (x.cells (.slice ta tn tc) (.slice ra rn rc)) 32 := by rw [hW3]; exact ((HX2.out.drewN _).set (by simp; omega) _).set (by simp; omega) _
                have hF3 : Fr W1 W3 := by rw [hW3]; exact (((hf.trans hf2).drewN _).setCell (by simp) _).setCell (by simp) _
                have X10 : W3.cell? ⟨wr.heap.size, 10, none⟩ = some (.slice ta tn tc) := hX3.at 10 q10
                obtain ⟨bx, hbx⟩ : ∃ bx, bx = wr.heap.size := ⟨_, rfl⟩
                rw [← hbx] at X10 ⊢
                obtain ⟨htl, htn, htm⟩ := (ht0.keep hF3).len
                subst htl
                have HT3 := Lib.hid (ht0.keep hF3)
                have HR3 := Lib.hid (HR.out.keep hF3)
                have HB3 := Lib.hid hB3
                have HI3 := Lib.hid hI3
                unfold maxLen at htm
                clear hW3 kB kI fB fI r1 r2 hX3 hB3 hI3 HX2 HB2 HI2 hf2 q0 q1 q2 q10 hbx z2 hz hz2 HBB HBI ht0 hr0 hx0 e1 ej e15
                go_loopw [12] (fun i wr => ∃ κ : Nat, κ ≤ x.txn.length ∧ i = .int .i64 κ ∧ Fr W3 wr) (fun i _ => x.txn.length - (intOf i).toNat)
                case atStart => exact ⟨0, Nat.zero_le _, rfl, Fr.refl _⟩
                case round =>
                  obtain ⟨κ, hκ, rfl, hg⟩ := hrel
                  have x10 := hg.keep X10
                  have zx := lt_of_cell x10
                  simp only at zx
                  by_cases hκl : κ < x.txn.length
                  · go_wp2_with fail
                    clear x10 zx
                    go_loopw [13] (fun i wr => ∃ ν : Nat, ν ≤ j ∧ i = .int .i64 ν ∧ Fr W3 wr) (fun i _ => j - (intOf i).toNat)
                    case atStart => exact ⟨0, Nat.zero_le _, rfl, hg⟩
                    case round =>
                      clear hg
                      obtain ⟨ν, hν, rfl, hg⟩ := hrel
                      by_cases hνj : ν < j
                      · go_wp2_with fail
                        have hνL : ν < L.length := by omega
                        go_loopw [14] (fun i wr => ∃ μ : Nat, μ ≤ (L[ν]'hνL).txn.length ∧ i = .int .i64 μ ∧ Fr W3 wr) (fun i _ => (L[ν]'hνL).txn.length - (intOf i).toNat)
                        case atStart => exact ⟨0, Nat.zero_le _, rfl, hg⟩
                        case round =>
                          clear hg
                          obtain ⟨μ, hμ, rfl, hg⟩ := hrel
                          obtain ⟨b', o', t', r', he, hb', hy, hty, hry⟩ := RdE.at (HR3.out.keep hg) hνL
                          cases he
                          obtain ⟨ta', tn', tc', rfl⟩ := hty.slice
                          obtain ⟨htl', htn', htm'⟩ := hty.len
                          subst htl'
                          have y10 : wr.cell? ⟨b1, o1 + ν * 19 + 10, none⟩ = some (.slice ta' (L[ν]'hνL).txn.length tc') := hy 10 _ rfl
                          have hν1 : ν < capL := by omega
                          have x10 := hg.keep X10
                          have zx := lt_of_cell x10
                          simp only at zx
                          unfold maxLen at htm'
                          by_cases hμl : μ < (L[ν]'hνL).txn.length
                          · have hκ2 : κ < x.txn.length := by omega
                            have hμ2 : μ < (L[ν]'hνL).txn.length := by omega
                            obtain ⟨_, _, he1, _, _, hcs1⟩ := HT3.out.keep hg
                            cases he1
                            obtain ⟨_, _, he2, _, _, hcs2⟩ := id hty
                            cases he2
                            obtain ⟨bm1, om1, rfl, hbm1, m0, m1, m2⟩ := micSl hcs1 (Fr.refl wr) hκ2
                            obtain ⟨bm2, om2, rfl, hbm2, n0, n1, n2⟩ := micSl hcs2 (Fr.refl wr) hμ2
                            have hne := HON.out ν hνj x.txn[κ] (L[ν]'hνL).txn[μ] (List.getElem_mem hκ2)
                            have hmq := List.getElem_mem hμ2
                            have hκ3 : κ < tc := by omega
                            have hμ3 : μ < tc' := by omega
                            clear hcs1 hcs2 hy hty hry
                            generalize x.txn[κ] = mx at m0 m1 m2 hne
                            generalize (L[ν]'hνL).txn[μ] = my at n0 n1 n2 hne hmq
                            have heq := fun W => mic_eql my mx W
                            obtain ⟨rd, key, mv⟩ := mx
                            obtain ⟨rd', key', mv'⟩ := my
                            simp only at m0 m1 m2 n0 n1 n2 heq
                            cases rd
                            · rw [decide_eq_false (hne rfl hmq)] at heq
                              clear hne hmq
                              go_wp2_with fail
                              go_quiet (fail)
                              go_wp2_with fail
                              go_roundw
                              case rel => exact ⟨μ + 1, by omega, by go_num, hg.drewN _⟩
                              case measure => simp [intOf]; omega
                            · clear hne hmq heq
                              go_wp2_with fail
                              go_quiet (fail)
                              go_wp2_with fail
                              go_roundw
                              case rel => exact ⟨μ + 1, by omega, by go_num, hg.drewN _⟩
                              case measure => simp [intOf]; omega
                          · go_wp2_with fail
                            go_roundw
                            case rel => exact ⟨ν + 1, by omega, by go_num, hg⟩
                            case measure => simp [intOf]; omega
                      · go_wp2_with fail
                        go_roundw
                        case rel => exact ⟨κ + 1, by omega, by go_num, hg⟩
                        case measure => simp [intOf]; omega
                  · go_wp2_with fail
                    go_roundw
                    case rel => exact ⟨j + 1, by omega, by go_num, by rw [hmx], hF3.trans hg, HB3.out.fr hg, HI3.out.fr hg⟩
                    case measure => simp [intOf]; omega
              · have ho : x.opens = true := kind_opens.2 (.inr hk)
                have e2 : ((x.kind : Int) == 2) = false := by simp; omega
                have e5 : ((x.kind : Int) == 5) = true := by simp; omega
                obtain ⟨hpn, hlt2⟩ := hop ho
                rw [hpn] at kB
                rw [ho] at sB
                have hle : ¬ (x.id : Int) ≤ lastId (L.take j) := by omega
                have hmx : lastId (L.take (j + 1)) = x.id := by omega
                clear hop hcl2 hkd hmore honce hBB hBI hLne hls hk hlt2 htk
                simp only [Option.isSome_none] at kB
                generalize lastId (L.take j) = la at hle
                go_upto_region 23 with (first | ((with_reducible refine wpList_here (.load 32 (.tmp 52)) rfl ?_); refine wpList_load_midW 32 (.tmp 52) rfl b1 (o1 + j * 19) rfl (x.cells (.slice ta tn tc) (.slice ra rn rc)).toList _ hx Tryd.underlying32 rfl Tryd.infoEv rfl ?_) | ((with_reducible refine wpList_here (.store 32 (.tmp 10) (.tmp 53)) rfl ?_); refine wpList_store_new 32 (.tmp 10) (.tmp 53) rfl _ (x.cells (.slice ta tn tc) (.slice ra rn rc)) _ rfl rfl rfl Tryd.infoEv rfl (Ev.oneCell x ta ra tn tc rn rc) rfl rfl ?_))
                refine gen_w fun W2 hW2 => ?_
                have hX2 : BoxAt W2 wr.heap.size (x.cells (.slice ta tn tc) (.slice ra rn rc)) 32 := by rw [hW2]; exact BoxAt.new _ _ _
                have hf2 : Fr wr W2 := by rw [hW2]; exact (Fr.refl _).alloc _
                clear hW2
                have kB := hf2.keep kB
                have kI := hf2.keep kI
                have r1 := hX2.at 1 q1
                have r2 := hX2.at 2 q2
                have z2 := hX2.lt
                have bB2 := HBB.out.fr hf2
                have bI2 := HBI.out.fr hf2
                have fB := bB2.free x.client
                have fI := bI2.free x.client
                have HX2 := Lib.hid hX2
                have HB2 := Lib.hid bB2
                have HI2 := Lib.hid bI2
                clear hX2 bB2 bI2 hx
                go_quiet (fail)
                go_wp2_with fail
                refine gen_w fun W3 hW3 => ?_
                have hB3 : BoxAt W3 W1.heap.size (arrB (L.take (j + 1))) 47 := by rw [hW3, ← sB]; exact ((HB2.out.drewN _).setAt x.client _).set (by simp) _
                have hI3 : BoxAt W3 (W1.heap.size + 1) (arrI (L.take (j + 1))) 48 := by rw [hW3, ← sI]; exact ((HI2.out.drewN _).set (by simp) _).setAt x.client _
                have hX3 : BoxAt W3 wr.heap.size (x.cells (.slice ta tn tc) (.slice ra rn rc)) 32 := by rw [hW3]; exact ((HX2.out.drewN _).set (by simp; omega) _).set (by simp; omega) _
                have hF3 : Fr W1 W3 := by rw [hW3]; exact (((hf.trans hf2).drewN _).setCell (by simp) _).setCell (by simp) _
                have X10 : W3.cell? ⟨wr.heap.size, 10, none⟩ = some (.slice ta tn tc) := hX3.at 10 q10
                obtain ⟨bx, hbx⟩ : ∃ bx, bx = wr.heap.size := ⟨_, rfl⟩
                rw [← hbx] at X10 ⊢
                obtain ⟨htl, htn, htm⟩ := (ht0.keep hF3).len
                subst htl
                have HT3 := Lib.hid (ht0.keep hF3)
                have HR3 := Lib.hid (HR.out.keep hF3)
                have HB3 := Lib.hid hB3
                have HI3 := Lib.hid hI3
                unfold maxLen at htm
                clear hW3 kB kI fB fI r1 r2 hX3 hB3 hI3 HX2 HB2 HI2 hf2 q0 q1 q2 q10 hbx z2 hz hz2 HBB HBI ht0 hr0 hx0 e1 ej e15
                go_loopw [12] (fun i wr => ∃ κ : Nat, κ ≤ x.txn.length ∧ i = .int .i64 κ ∧ Fr W3 wr) (fun i _ => x.txn.length - (intOf i).toNat)
                case atStart => exact ⟨0, Nat.zero_le _, rfl, Fr.refl _⟩
                case round =>
                  obtain ⟨κ, hκ, rfl, hg⟩ := hrel
                  have x10 := hg.keep X10
                  have zx := lt_of_cell x10
                  simp only at zx
                  by_cases hκl : κ < x.txn.length
                  · go_wp2_with fail
                    clear x10 zx
                    go_loopw [13] (fun i wr => ∃ ν : Nat, ν ≤ j ∧ i = .int .i64 ν ∧ Fr W3 wr) (fun i _ => j - (intOf i).toNat)
                    case atStart => exact ⟨0, Nat.zero_le _, rfl, hg⟩
                    case round =>
                      clear hg
                      obtain ⟨ν, hν, rfl, hg⟩ := hrel
                      by_cases hνj : ν < j
                      · go_wp2_with fail
                        have hνL : ν < L.length := by omega
                        go_loopw [14] (fun i wr => ∃ μ : Nat, μ ≤ (L[ν]'hνL).txn.length ∧ i = .int .i64 μ ∧ Fr W3 wr) (fun i _ => (L[ν]'hνL).txn.length - (intOf i).toNat)
                        case atStart => exact ⟨0, Nat.zero_le _, rfl, hg⟩
                        case round =>
                          clear hg
                          obtain ⟨μ, hμ, rfl, hg⟩ := hrel
                          obtain ⟨b', o', t', r', he, hb', hy, hty, hry⟩ := RdE.at (HR3.out.keep hg) hνL
                          cases he
                          obtain ⟨ta', tn', tc', rfl⟩ := hty.slice
                          obtain ⟨htl', htn', htm'⟩ := hty.len
                          subst htl'
                          have y10 : wr.cell? ⟨b1, o1 + ν * 19 + 10, none⟩ = some (.slice ta' (L[ν]'hνL).txn.length tc') := hy 10 _ rfl
                          have hν1 : ν < capL := by omega
                          have x10 := hg.keep X10
                          have zx := lt_of_cell x10
                          simp only at zx
                          unfold maxLen at htm'
                          by_cases hμl : μ < (L[ν]'hνL).txn.length
                          · have hκ2 : κ < x.txn.length := by omega
                            have hμ2 : μ < (L[ν]'hνL).txn.length := by omega
                            obtain ⟨_, _, he1, _, _, hcs1⟩ := HT3.out.keep hg
                            cases he1
                            obtain ⟨_, _, he2, _, _, hcs2⟩ := id hty
                            cases he2
                            obtain ⟨bm1, om1, rfl, hbm1, m0, m1, m2⟩ := micSl hcs1 (Fr.refl wr) hκ2
                            obtain ⟨bm2, om2, rfl, hbm2, n0, n1, n2⟩ := micSl hcs2 (Fr.refl wr) hμ2
                            have hne := HON.out ν hνj x.txn[κ] (L[ν]'hνL).txn[μ] (List.getElem_mem hκ2)
                            have hmq := List.getElem_mem hμ2
                            have hκ3 : κ < tc := by omega
                            have hμ3 : μ < tc' := by omega
                            clear hcs1 hcs2 hy hty hry
                            generalize x.txn[κ] = mx at m0 m1 m2 hne
                            generalize (L[ν]'hνL).txn[μ] = my at n0 n1 n2 hne hmq
                            have heq := fun W => mic_eql my mx W
                            obtain ⟨rd, key, mv⟩ := mx
                            obtain ⟨rd', key', mv'⟩ := my
                            simp only at m0 m1 m2 n0 n1 n2 heq
                            cases rd
                            · rw [decide_eq_false (hne rfl hmq)] at heq
                              clear hne hmq
                              go_wp2_with fail
                              go_quiet (fail)
                              go_wp2_with fail
                              go_roundw
                              case rel => exact ⟨μ + 1, by omega, by go_num, hg.drewN _⟩
                              case measure => simp [intOf]; omega
                            · clear hne hmq heq
                              go_wp2_with fail
                              go_quiet (fail)
                              go_wp2_with fail
                              go_roundw
                              case rel => exact ⟨μ + 1, by omega, by go_num, hg.drewN _⟩
                              case measure => simp [intOf]; omega
                          · go_wp2_with fail
                            go_roundw
                            case rel => exact ⟨ν + 1, by omega, by go_num, hg⟩
                            case measure => simp [intOf]; omega
                      · go_wp2_with fail
                        go_roundw
                        case rel => exact ⟨κ + 1, by omega, by go_num, hg⟩
                        case measure => simp [intOf]; omega
                  · go_wp2_with fail
                    go_roundw
                    case rel => exact ⟨j + 1, by omega, by go_num, by rw [hmx], hF3.trans hg, HB3.out.fr hg, HI3.out.fr hg⟩
                    case measure => simp [intOf]; omega
              · have ho : x.opens = false := by cases hh : x.opens with | false => rfl | true => exact absurd (kind_opens.1 hh) (by omega)
                have e2 : ((x.kind : Int) == 2) = false := by simp; omega
                have e5 : ((x.kind : Int) == 5) = false := by simp; omega
                obtain ⟨pq, hpn, hid2⟩ := hcl2 ho
                have hio := idOf_pend hpn
                rw [hpn] at kB
                rw [hio, hid2] at kI
                rw [ho] at sB
                have hle2 := lastId_le (pend_client hpn).2.2
                have hmx : lastId (L.take (j + 1)) = lastId (L.take j) := by omega
                clear hop hcl2 hkd hmore honce hBB hBI hLne hls hk htk hio hid2 hle2
                simp only [Option.isSome_some] at kB
                generalize lastId (L.take j) = la at hmx
                go_upto_region 23 with (first | ((with_reducible refine wpList_here (.load 32 (.tmp 52)) rfl ?_); refine wpList_load_midW 32 (.tmp 52) rfl b1 (o1 + j * 19) rfl (x.cells (.slice ta tn tc) (.slice ra rn rc)).toList _ hx Tryd.underlying32 rfl Tryd.infoEv rfl ?_) | ((with_reducible refine wpList_here (.store 32 (.tmp 10) (.tmp 53)) rfl ?_); refine wpList_store_new 32 (.tmp 10) (.tmp 53) rfl _ (x.cells (.slice ta tn tc) (.slice ra rn rc)) _ rfl rfl rfl Tryd.infoEv rfl (Ev.oneCell x ta ra tn tc rn rc) rfl rfl ?_))
                refine gen_w fun W2 hW2 => ?_
                have hX2 : BoxAt W2 wr.heap.size (x.cells (.slice ta tn tc) (.slice ra rn rc)) 32 := by rw [hW2]; exact BoxAt.new _ _ _
                have hf2 : Fr wr W2 := by rw [hW2]; exact (Fr.refl _).alloc _
                clear hW2
                have kB := hf2.keep kB
                have kI := hf2.keep kI
                have r1 := hX2.at 1 q1
                have r2 := hX2.at 2 q2
                have z2 := hX2.lt
                have bB2 := HBB.out.fr hf2
                have bI2 := HBI.out.fr hf2
                have fB := bB2.free x.client
                have fI := bI2.free x.client
                have HX2 := Lib.hid hX2
                have HB2 := Lib.hid bB2
                have HI2 := Lib.hid bI2
                clear hX2 bB2 bI2 hx
                go_quiet (fail)
                go_wp2_with fail
                refine gen_w fun W3 hW3 => ?_
                have hB3 : BoxAt W3 W1.heap.size (arrB (L.take (j + 1))) 47 := by rw [hW3, ← sB]; exact ((HB2.out.drewN _).setAt x.client _).set (by simp) _
                have hI3 : BoxAt W3 (W1.heap.size + 1) (arrI (L.take (j + 1))) 48 := by rw [hW3, ← sI]; exact ((HI2.out.drewN _).set (by simp) _).setAt x.client _
                have hX3 : BoxAt W3 wr.heap.size (x.cells (.slice ta tn tc) (.slice ra rn rc)) 32 := by rw [hW3]; exact ((HX2.out.drewN _).set (by simp; omega) _).set (by simp; omega) _
                have hF3 : Fr W1 W3 := by rw [hW3]; exact (((hf.trans hf2).drewN _).setCell (by simp) _).setCell (by simp) _
                have X10 : W3.cell? ⟨wr.heap.size, 10, none⟩ = some (.slice ta tn tc) := hX3.at 10 q10
                obtain ⟨bx, hbx⟩ : ∃ bx, bx = wr.heap.size := ⟨_, rfl⟩
                rw [← hbx] at X10 ⊢
                obtain ⟨htl, htn, htm⟩ := (ht0.keep hF3).len
                subst htl
                have HT3 := Lib.hid (ht0.keep hF3)
                have HR3 := Lib.hid (HR.out.keep hF3)
                have HB3 := Lib.hid hB3
                have HI3 := Lib.hid hI3
                unfold maxLen at htm
                clear hW3 kB kI fB fI r1 r2 hX3 hB3 hI3 HX2 HB2 HI2 hf2 q0 q1 q2 q10 hbx z2 hz hz2 HBB HBI ht0 hr0 hx0 e1 ej e15
                go_loopw [12] (fun i wr => ∃ κ : Nat, κ ≤ x.txn.length ∧ i = .int .i64 κ ∧ Fr W3 wr) (fun i _ => x.txn.length - (intOf i).toNat)
                case atStart => exact ⟨0, Nat.zero_le _, rfl, Fr.refl _⟩
                case round =>
                  obtain ⟨κ, hκ, rfl, hg⟩ := hrel
                  have x10 := hg.keep X10
                  have zx := lt_of_cell x10
                  simp only at zx
                  by_cases hκl : κ < x.txn.length
                  · go_wp2_with fail
                    clear x10 zx
                    go_loopw [13] (fun i wr => ∃ ν : Nat, ν ≤ j ∧ i = .int .i64 ν ∧ Fr W3 wr) (fun i _ => j - (intOf i).toNat)
                    case atStart => exact ⟨0, Nat.zero_le _, rfl, hg⟩
                    case round =>
                      clear hg
                      obtain ⟨ν, hν, rfl, hg⟩ := hrel
                      by_cases hνj : ν < j
                      · go_wp2_with fail
                        have hνL : ν < L.length := by omega
                        go_loopw [14] (fun i wr => ∃ μ : Nat, μ ≤ (L[ν]'hνL).txn.length ∧ i = .int .i64 μ ∧ Fr W3 wr) (fun i _ => (L[ν]'hνL).txn.length - (intOf i).toNat)
                        case atStart => exact ⟨0, Nat.zero_le _, rfl, hg⟩
                        case round =>
                          clear hg
                          obtain ⟨μ, hμ, rfl, hg⟩ := hrel
                          obtain ⟨b', o', t', r', he, hb', hy, hty, hry⟩ := RdE.at (HR3.out.keep hg) hνL
                          cases he
                          obtain ⟨ta', tn', tc', rfl⟩ := hty.slice
                          obtain ⟨htl', htn', htm'⟩ := hty.len
                          subst htl'
                          have y10 : wr.cell? ⟨b1, o1 + ν * 19 + 10, none⟩ = some (.slice ta' (L[ν]'hνL).txn.length tc') := hy 10 _ rfl
                          have hν1 : ν < capL := by omega
                          have x10 := hg.keep X10
                          have zx := lt_of_cell x10
                          simp only at zx
                          unfold maxLen at htm'
                          by_cases hμl : μ < (L[ν]'hνL).txn.length
                          · have hκ2 : κ < x.txn.length := by omega
                            have hμ2 : μ < (L[ν]'hνL).txn.length := by omega
                            obtain ⟨_, _, he1, _, _, hcs1⟩ := HT3.out.keep hg
                            cases he1
                            obtain ⟨_, _, he2, _, _, hcs2⟩ := id hty
                            cases he2
                            obtain ⟨bm1, om1, rfl, hbm1, m0, m1, m2⟩ := micSl hcs1 (Fr.refl wr) hκ2
                            obtain ⟨bm2, om2, rfl, hbm2, n0, n1, n2⟩ := micSl hcs2 (Fr.refl wr) hμ2
                            have hne := HON.out ν hνj x.txn[κ] (L[ν]'hνL).txn[μ] (List.getElem_mem hκ2)
                            have hmq := List.getElem_mem hμ2
                            have hκ3 : κ < tc := by omega
                            have hμ3 : μ < tc' := by omega
                            clear hcs1 hcs2 hy hty hry
                            generalize x.txn[κ] = mx at m0 m1 m2 hne
                            generalize (L[ν]'hνL).txn[μ] = my at n0 n1 n2 hne hmq
                            have heq := fun W => mic_eql my mx W
                            obtain ⟨rd, key, mv⟩ := mx
                            obtain ⟨rd', key', mv'⟩ := my
                            simp only at m0 m1 m2 n0 n1 n2 heq
                            cases rd
                            · rw [decide_eq_false (hne rfl hmq)] at heq
                              clear hne hmq
                              go_wp2_with fail
                              go_quiet (fail)
                              go_wp2_with fail
                              go_roundw
                              case rel => exact ⟨μ + 1, by omega, by go_num, hg.drewN _⟩
                              case measure => simp [intOf]; omega
                            · clear hne hmq heq
                              go_wp2_with fail
                              go_quiet (fail)
                              go_wp2_with fail
                              go_roundw
                              case rel => exact ⟨μ + 1, by omega, by go_num, hg.drewN _⟩
                              case measure => simp [intOf]; omega
                          · go_wp2_with fail
                            go_roundw
                            case rel => exact ⟨ν + 1, by omega, by go_num, hg⟩
                            case measure => simp [intOf]; omega
                      · go_wp2_with fail
                        go_roundw
                        case rel => exact ⟨κ + 1, by omega, by go_num, hg⟩
                        case measure => simp [intOf]; omega
                  · go_wp2_with fail
                    go_roundw
                    case rel => exact ⟨j + 1, by omega, by go_num, by rw [hmx], hF3.trans hg, HB3.out.fr hg, HI3.out.fr hg⟩
                    case measure => simp [intOf]; omega
          · have hkk : L.take j = L := List.take_of_length_le (by omega)
            have hall : takeAll [] L = (L.length, 0) := takeAll_valid L [] HV.out
            have hac := fun W (f : Fr W1 W) => all_c L _ W (HE.out.keep (HFR.out.trans f)) (HR.out.keep f) hokL (by omega)
            rw [hall] at hac
            have HAC := Lib.hid hac
            clear hac hall hBB hBI hkk
            go_wp2_with fail
            refine (HAC.out _ hf).mono ?_
            rintro e w6 ⟨rfl, hf6⟩
            have hF6 := (HFR.out.trans hf).trans hf6
            go_wp2_with fail
            refine (HAW.out _ hF6).mono ?_
            rintro e w7 ⟨rfl, hf7⟩
            go_wp2_with fail
            go_ret
            exact ⟨rfl, hF6.trans hf7⟩
end Go.Proofs.YtdjjjnoecfbjeaaDoor
