/- The chapter's answers are had. No condition but the tables' content. -/
import Derived.Test.YtdjjjnoecfbjeaaGreatDoorPHisStepB
import Derived.Deep.AppendLies
import Derived.Test.YtdjjjnoecfbjeaaGreatDoorPArms
set_option linter.all false
set_option linter.unusedVariables false
set_option linter.unusedSimpArgs false
set_option linter.unnecessarySimpa false
/- The chapter's answers are had. No condition but the tables' content. -/
namespace Go.Proofs.YtdjjjnoecfbjeaaGreatDoor
open Go.RowKit
attribute [local go_sem] Oper.semAt_some

theorem invOk {c i f v : Nat} (hc : c < 256) (hi : i < 65536) (hf : f < 256) (hv : v < 65536) : (invEv c i f v).Ok := by
  refine ⟨?_, ?_, ?_, ?_, ?_, ?_, ?_, ?_, ?_, ?_, ?_, ?_, ?_⟩ <;> simp [invEv, Ev.zero, OpD.zero, Cfg.zero] <;> omega
theorem retOk {c i f v : Nat} (hc : c < 256) (hi : i < 65536) (hf : f < 256) (hv : v < 65536) : (retEv c i f v).Ok := by
  refine ⟨?_, ?_, ?_, ?_, ?_, ?_, ?_, ?_, ?_, ?_, ?_, ?_, ?_⟩ <;> simp [retEv, Ev.zero, OpD.zero, Cfg.zero] <;> omega
theorem plainOk {k c i : Nat} (hk : k < 256) (hc : c < 256) (hi : i < 65536) : (plainEv k c i).Ok := by
  refine ⟨?_, ?_, ?_, ?_, ?_, ?_, ?_, ?_, ?_, ?_, ?_, ?_, ?_⟩ <;> simp [plainEv, Ev.zero, OpD.zero, Cfg.zero] <;> omega
theorem cfgOk {m : Nat} (hm : m < 256) : (cfgEv m).Ok := by
  refine ⟨?_, ?_, ?_, ?_, ?_, ?_, ?_, ?_, ?_, ?_, ?_, ?_, ?_⟩ <;> simp [cfgEv, Ev.zero, OpD.zero, Cfg.zero] <;> omega
theorem beginOk {c i : Nat} {l : List Mic} (hc : c < 256) (hi : i < 65536) (hl : ∀ m ∈ l, m.key < 256 ∧ m.v < 65536) : (beginEv c i l).Ok := by
  refine ⟨?_, ?_, ?_, ?_, ?_, ?_, ?_, ?_, ?_, ?_, hl, ?_, ?_⟩ <;> simp [beginEv, Ev.zero, OpD.zero, Cfg.zero] <;> omega
def awakeL : List Ev := [invEv 0 5 1 0, cfgEv 0, cfgEv 0, invEv 0 5 1 0, invEv 0 6 1 0, retEv 0 5 1 0]
def awakeW : List Nat := [11, 0, 11, 0, 9, 0]
theorem answers_of {l : List Ev} {want : List Nat} (h : (List.range l.length).map (fun i => (l[i]?).map (stepWhy (runTo (l.take i)))) = want.map some) : answers l want := by
  have hl : want.length = l.length := by have := congrArg List.length h; simpa using this.symm
  refine ⟨hl, fun i hi hi2 => ?_⟩
  have := congrArg (fun x => x[i]?) h
  simp [hi, hi2] at this
  exact this.symm
theorem awakeA : answers awakeL awakeW := answers_of (by kernel_rfl)
theorem RdI.new (w : World) (l : List Nat) (T : TypeId) (n : Nat) (hn : n = w.heap.size) (hl : l.length ≤ 1000) : RdI (w.alloc (.cells (l.map fun n : Nat => Value.int .i64 (n : Int)).toArray T)) (.slice (some ⟨n, 0, none⟩) l.length l.length) l := by
  subst hn
  refine ⟨_, _, rfl, Nat.le_refl _, by unfold maxLen; omega, .inr ⟨w.heap.size, 0, rfl, trivial, by simp, fun j u hj => ?_⟩⟩
  rw [Nat.zero_add, (BoxAt.new w _ T).cell]
  simpa using hj
set_option maxRecDepth 100000 in
set_option maxHeartbeats 4000000 in
theorem awake7_c (w : World) (hE : Env w) : Calls Tryz.prog 6 #[] w fun e w' => e = .returned (.bool true) ∧ Fr w w' := by
  go_enter Tryz.func6, Tryz.ntmps6
  go_wp2_with fail
  refine (invoke_c 0 5 1 0 _).mono ?_
  rintro e w1 ⟨rfl, f1⟩
  go_wp2_with fail
  refine (config_c 0 _).mono ?_
  rintro e w2 ⟨rfl, f2⟩
  go_wp2_with fail
  refine (config_c 0 _).mono ?_
  rintro e w3 ⟨rfl, f3⟩
  go_wp2_with fail
  refine (invoke_c 0 5 1 0 _).mono ?_
  rintro e w4 ⟨rfl, f4⟩
  go_wp2_with fail
  refine (invoke_c 0 6 1 0 _).mono ?_
  rintro e w5 ⟨rfl, f5⟩
  go_wp2_with fail
  refine (ret_c 0 5 1 0 _).mono ?_
  rintro e w6 ⟨rfl, f6⟩
  have hF : Fr w w6 := ((((f1.trans f2).trans f3).trans f4).trans f5).trans f6
  clear f1 f2 f3 f4 f5 f6
  go_wp2_with (refine wpList_buildEvs 6 _ rfl [(invEv 0 5 1 0, nil0, nil0), (cfgEv 0, nil0, nil0), (cfgEv 0, nil0, nil0), (invEv 0 5 1 0, nil0, nil0), (invEv 0 6 1 0, nil0, nil0), (retEv 0 5 1 0, nil0, nil0)] ?hev rfl (by decide) (by decide) ?hr rfl ?_)
  case hr =>
    intro e he
    simp at he
    rcases he with rfl | rfl | rfl | rfl | rfl <;> exact ⟨RdM.nil _, RdR.nil _⟩
  intro w7 f7 hs7 hR7
  go_wp2_with fail
  have hok : ∀ x ∈ awakeL, x.Ok := by
    intro x hx
    simp only [awakeL, List.mem_cons, List.not_mem_nil, or_false] at hx
    rcases hx with rfl | rfl | rfl | rfl | rfl | rfl
    all_goals first | exact invOk (by omega) (by omega) (by omega) (by omega) | exact cfgOk (by omega) | exact retOk (by omega) (by omega) (by omega) (by omega)
  have hI : RdI (w7.alloc (.cells (awakeW.map fun n : Nat => Value.int .i64 (n : Int)).toArray 40)) (.slice (some ⟨w6.heap.size + 1, 0, none⟩) 6 6) awakeW := RdI.new w7 awakeW _ _ hs7.symm (by decide)
  have f8 := f7.alloc (.cells (awakeW.map fun n : Nat => Value.int .i64 (n : Int)).toArray 40)
  refine (steps_c awakeL awakeW _ _ _ (hE.keep (hF.trans f8)) (hR7.keep ((Fr.refl w7).alloc _)) hI hok (by decide) awakeA).mono ?_
  rintro e w8 ⟨rfl, hf8⟩
  go_wp2_with fail
  go_ret
  exact ⟨rfl, (hF.trans f8).trans hf8⟩
end Go.Proofs.YtdjjjnoecfbjeaaGreatDoor

/- May events be gone through? No condition but that they can be read. -/
namespace Go.Proofs.YtdjjjnoecfbjeaaGreatDoor
open Go.RowKit
attribute [local go_sem] Oper.semAt_some

theorem RdM.len {w : World} {a : Option Addr} {n c : Nat} {l : List Mic} (h : RdM w (.slice a n c) l) : n = l.length ∧ n ≤ c ∧ c ≤ maxLen := by
  obtain ⟨_, _, he, h1, h2, _⟩ := h
  cases he
  exact ⟨rfl, h1, h2⟩
theorem RdR.len {w : World} {a : Option Addr} {n c : Nat} {l : List (List Nat)} (h : RdR w (.slice a n c) l) : n = l.length ∧ n ≤ c ∧ c ≤ maxLen := by
  obtain ⟨_, _, ⟨_, _, he, h1, h2, _⟩, _⟩ := h
  cases he
  exact ⟨rfl, h1, h2⟩
theorem RdR.cellAt {w : World} {a : Option Addr} {n c : Nat} {l : List (List Nat)} (h : RdR w (.slice a n c) l) {k : Nat} (hk : k < l.length) : ∃ b off d m e, a = some ⟨b, off, none⟩ ∧ b < w.heap.size ∧ w.cell? ⟨b, off + k, none⟩ = some (.slice d m e) ∧ m ≤ e ∧ e ≤ maxLen := by
  obtain ⟨vs, h1, ⟨_, _, he, _, _, hx⟩, h3⟩ := h
  cases he
  have hk2 : k < vs.length := by omega
  rcases hx with rfl | ⟨b, off, rfl, _, hb, hc⟩
  · simp at hk2
  · obtain ⟨d, e, hu, h4, h5, _⟩ := h3 k l[k] vs[k] (by simp [hk]) (by simp [hk2])
    exact ⟨b, off, d, _, e, rfl, hb, by rw [← hu]; exact hc k _ (by simp [hk2]), h4, h5⟩
/-- A bool that tells them few. -/
def FewP (w : World) (l : List Ev) (e : Ending) (w' : World) : Prop := ∃ b, e = .returned (.bool b) ∧ (b = true → l.length ≤ 120) ∧ Fr w w'
set_option maxRecDepth 100000 in
set_option maxHeartbeats 4000000 in
theorem few7_c (l : List Ev) (v : Value) (w : World) (hl : RdE w v l) : Calls Tryz.prog 5 #[v] w (FewP w l) := by
  obtain ⟨a, cap, rfl, hcap, hmax, _⟩ := id hl
  unfold maxLen at hmax
  have HL := Lib.hid hl
  clear hl
  go_enter Tryz.func5, Tryz.ntmps5
  go_wp2_with fail
  go_loopw [3] (fun i wr => ∃ k : Nat, k ≤ l.length ∧ i = .int .i64 k ∧ Fr w wr) (fun i _ => l.length - (intOf i).toNat)
  case atStart => exact ⟨0, Nat.zero_le _, rfl, Fr.refl _⟩
  case round =>
    obtain ⟨k, hk, rfl, hfr⟩ := hrel
    by_cases hlt : k < l.length
    · by_cases h130 : k < 130
      · obtain ⟨b1, o1, t, r, rfl, hb1, hx, ht, hr⟩ := RdE.at (HL.out.keep hfr) hlt
        have h130' : (k : Int) < 130 := by omega
        have hk1 : k < cap := by omega
        obtain ⟨ta, tn, tc, rfl⟩ := ht.slice
        obtain ⟨ra, rn, rc, rfl⟩ := hr.slice
        obtain ⟨ht1, ht2, ht3⟩ := ht.len
        obtain ⟨hr1, hr2, hr3⟩ := hr.len
        have c10 : wr.cell? ⟨b1, o1 + k * 19 + 10, none⟩ = some (.slice ta tn tc) := hx 10 _ rfl
        have c11 : wr.cell? ⟨b1, o1 + k * 19 + 11, none⟩ = some (.slice ra rn rc) := hx 11 _ rfl
        have HR := Lib.hid hr
        unfold maxLen at ht3 hr3
        clear hx ht hr
        by_cases h20 : 20 < tn
        · have hi : (20 : Int) < tn := by omega
          go_wp2_with fail
          go_ret
          exact ⟨false, rfl, (fun h => by cases h), hfr⟩
        · have hi : ¬ (20 : Int) < tn := by omega
          by_cases h20r : 20 < rn
          · have hj : (20 : Int) < rn := by omega
            go_wp2_with fail
            go_ret
            exact ⟨false, rfl, (fun h => by cases h), hfr⟩
          · have hj : ¬ (20 : Int) < rn := by omega
            go_wp2_with fail
            obtain ⟨W1, hW1⟩ : ∃ W1, W1 = wr := ⟨wr, rfl⟩
            subst hW1
            go_loopw [4] (fun i wr => ∃ j : Nat, j ≤ rn ∧ i = .int .i64 j ∧ Fr W1 wr) (fun i _ => rn - (intOf i).toNat)
            case atStart => exact ⟨0, Nat.zero_le _, rfl, Fr.refl _⟩
            case round =>
              obtain ⟨j, hjl, rfl, hf2⟩ := hrel
              have d11 := hf2.keep c11
              have hb2 : b1 < wr.heap.size := lt_of_cell d11
              clear c10 c11 hb1
              by_cases hjr : j < rn
              · obtain ⟨b3, o3, d, m, e, rfl, hb3, c3, hm1, hm2⟩ := (HR.out.keep hf2).cellAt (k := j) (by omega)
                unfold maxLen at hm2
                have hj1 : j < rc := by omega
                by_cases h40 : 40 < m
                · have h40' : (40 : Int) < m := by omega
                  go_wp2_with fail
                  go_ret
                  exact ⟨false, rfl, (fun h => by cases h), hfr.trans hf2⟩
                · have h40' : ¬ (40 : Int) < m := by omega
                  go_wp2_with fail
                  go_roundw
                  case rel => exact ⟨j + 1, by omega, by go_num, hf2⟩
                  case measure => simp [intOf]; omega
              · go_wp2_with fail
                go_roundw
                case rel => exact ⟨k + 1, by omega, by go_num, hfr.trans hf2⟩
                case measure => simp [intOf]; omega
      · have h130' : ¬ (k : Int) < 130 := by omega
        have hd : ¬ l.length ≤ 120 := by omega
        have hdi : ¬ (l.length : Int) ≤ 120 := by omega
        go_wp2_with fail
        go_ret
        exact ⟨_, rfl, (fun h => by simp at h <;> omega), hfr⟩
    · go_wp2_with fail
      go_ret
      exact ⟨_, rfl, (fun h => by simp at h <;> omega), hfr⟩
end Go.Proofs.YtdjjjnoecfbjeaaGreatDoor

/- A list of events that a call has made, and what is appended to it. No condition but what each says. -/
namespace Go.Proofs.YtdjjjnoecfbjeaaGreatDoor
open Go.RowKit

def evFlat (trs : List (Ev × Value × Value)) : List Value := trs.flatMap fun e => (e.1.cells e.2.1 e.2.2).toList
theorem evFlat_len (trs : List (Ev × Value × Value)) : (evFlat trs).length = trs.length * 19 := by
  induction trs with
  | nil => rfl
  | cons e l ih =>
    have h19 : (e.1.cells e.2.1 e.2.2).toList.length = 19 := rfl
    simp only [evFlat, List.flatMap_cons, List.length_append, List.length_cons] at ih ⊢
    omega
/-- A list of events of the call's own: what they lead to stood ahead. -/
def OwE (w0 w : World) (v : Value) (L : List Ev) : Prop := ∃ trs : List (Ev × Value × Value), trs.map (·.1) = L ∧ w.ownsRow w0.heap.size 39 19 v L.length (evFlat trs) ∧ ∀ e ∈ trs, RdM w0 e.2.1 e.1.txn ∧ RdR w0 e.2.2 e.1.reads
theorem OwE.nil (w0 w : World) : OwE w0 w (.slice none 0 0) [] := ⟨[], rfl, ⟨rfl, .inl ⟨rfl, rfl⟩⟩, fun e he => by cases he⟩
theorem OwE.lt {w0 w : World} {v : Value} {L : List Ev} (h : OwE w0 w v L) : ∀ k, v.ownBlock = some k → w0.heap.size ≤ k ∧ k < w.heap.size := by
  obtain ⟨trs, _, h2, _⟩ := h
  exact h2.lt
theorem ownsRow_keep {w w' : World} {base : Nat} {e : TypeId} {size n : Nat} {v : Value} {xs : List Value} (h : w.ownsRow base e size v n xs) (hb : ∀ k, v.ownBlock = some k → w'.heap[k]? = w.heap[k]?) : w'.ownsRow base e size v n xs := by
  obtain ⟨h1, h2⟩ := h
  refine ⟨h1, ?_⟩
  rcases h2 with h2 | ⟨g, cap, cur, rfl, g1, g2, g3⟩
  · exact .inl h2
  · exact .inr ⟨g, cap, cur, rfl, g1, (hb g rfl).trans g2, g3⟩
theorem OwE.keep {w0 w w' : World} {v : Value} {L : List Ev} (h : OwE w0 w v L) (hb : ∀ k, v.ownBlock = some k → w'.heap[k]? = w.heap[k]?) : OwE w0 w' v L := by
  obtain ⟨trs, h1, h2, h3⟩ := h
  exact ⟨trs, h1, ownsRow_keep h2 hb, h3⟩
theorem OwE.fr {w0 w w' : World} {v : Value} {L : List Ev} (h : OwE w0 w v L) (f : Fr w w') : OwE w0 w' v L := h.keep fun k hk => f.block (h.lt k hk).2
theorem OwE.rd {w0 w : World} {v : Value} {L : List Ev} (h : OwE w0 w v L) (f : Fr w0 w) : RdE w v L := by
  obtain ⟨trs, rfl, ⟨h1, h2⟩, h3⟩ := h
  rcases h2 with ⟨rfl, h2⟩ | ⟨g, cap, cur, rfl, g1, g2, g3, g4, g5, g6⟩
  · have : trs = [] := by simpa using h2
    subst this
    exact ⟨none, 0, rfl, Nat.le_refl _, by decide, .inl rfl⟩
  · refine ⟨_, cap, rfl, g3, g4, .inr ⟨g, 0, rfl, ?_, fun i hi => ?_⟩⟩
    · rcases Nat.lt_or_ge g w.heap.size with h | h
      · exact h
      · rw [Array.getElem?_eq_none h] at g2; cases g2
    · have hi2 : i < trs.length := by simpa using hi
      have he : (trs.map (·.1))[i] = trs[i].1 := by simp
      rw [he]
      obtain ⟨m1, m2⟩ := h3 _ (List.getElem_mem hi2)
      refine ⟨trs[i].2.1, trs[i].2.2, fun j u hj => ?_, m1.keep f, m2.keep f⟩
      have h4 := flat19 (g := fun e : Ev × Value × Value => (e.1.cells e.2.1 e.2.2).toList) (fun _ => rfl) trs i j hi2 u hj
      have h5 : (cur.toList.take ((trs.map (·.1)).length * 19))[i * 19 + j]? = some u := by rw [g6]; exact h4
      have h6 := cell_of_row w g (i * 19 + j) cur 39 (0, 0) g2
      rw [Nat.zero_add, h6]
      have hlt : i * 19 + j < (trs.map (·.1)).length * 19 := by
        have := (List.getElem?_eq_some_iff.1 h5).1
        simp only [List.length_take] at this
        omega
      rw [List.getElem?_take_of_lt hlt] at h5
      simpa using h5
theorem Tryz.infoEvB : (Tryz.prog.info? 39).map (fun i => (i.zero, i.size, i.bytes)) = some (some (Ev.zero.val nil0 nil0), 19, 104) := by kernel_rfl
theorem evFlat_one (trs : List (Ev × Value × Value)) (h : ∀ e ∈ trs, (∃ a n c, e.2.1 = .slice a n c) ∧ ∃ a n c, e.2.2 = .slice a n c) : ∀ u ∈ evFlat trs, u.oneCell' = true := by
  intro u hu
  obtain ⟨e, he, hu⟩ := List.mem_flatMap.1 hu
  obtain ⟨⟨a, n, c, h1⟩, a', n', c', h2⟩ := h e he
  rw [h1, h2] at hu
  have := Ev.oneCell e.1 a a' n c n' c'
  rw [Array.all_eq_true_iff_forall_mem] at this
  exact this u (by simpa using hu)
/-- One event is appended. -/
theorem wpList_appendEv {w0 w : World} {ops : Array Oper} {rest : List Oper} {o : Oper} {a : Act} {Q : Exit → Act → World → Prop} (hgd : o.guard = none) (s x : Operand)
    (ho : o.op = .call { callee := .builtin .append, args := #[s, x], argTypes := #[22, 22] }) (v : Value) (L : List Ev) (hs : a.eval s = v) (hown : OwE w0 w v L) (f : Fr w0 w)
    (b c : Nat) (y : Ev) (t r : Value) (hx : a.eval x = .slice (some ⟨b, 0, none⟩) 1 c) (hy : w.rangeAt b 0 (y.cells t r).toList) (ht : RdM w0 t y.txn) (hr : RdR w0 r y.reads) (hn : L.length ≤ 100000)
    (h : ∀ v' w', OwE w0 w' v' (L ++ [y]) → w.grownBy w' v.ownBlock → (∀ k, v'.ownBlock = some k → v.ownBlock = some k ∨ k = w.heap.size) → Fr w0 w' → wpList Tryz.prog ops Q rest (a.put o.dst v') w') : wpList Tryz.prog ops Q (o :: rest) a w := by
  obtain ⟨i0, hi0, hz0, hz1, hz2⟩ := info_parts Tryz.infoEvB
  obtain ⟨trs, hL, hrow, hrd⟩ := hown
  refine wpList_append_lies _ hgd s x 22 ho w0.heap.size 39 i0 _ 19 104 Tryz.underlying22 hi0 hz0 hz1 hz2 rfl (by omega) v L.length (evFlat trs) hs hrow ⟨b, 0, none⟩ 1 c (y.cells t r).toList hx rfl (fun j u hj => ?_) (fun u hu => ?_) (by omega) (by unfold maxLen; omega) (by omega) f.size w.heap.size rfl ?_
  · rw [WideShapes.add_plain]; exact hy j u hj
  · exact evFlat_one [(y, t, r)] (fun e he => by obtain rfl := List.mem_singleton.1 he; exact ⟨ht.slice, hr.slice⟩) u (by simpa [evFlat] using hu)
  · intro g cap w' hown' hgrow hat hlt
    refine h _ w' ⟨trs ++ [(y, t, r)], by simp [hL], ?_, fun e he => ?_⟩ hgrow (fun k hk => ?_) ?_
    · have : evFlat (trs ++ [(y, t, r)]) = evFlat trs ++ (y.cells t r).toList := by simp [evFlat]
      rw [this]
      simpa using hown'
    · rcases List.mem_append.1 he with he | he
      · exact hrd e he
      · obtain rfl := List.mem_singleton.1 he; exact ⟨ht, hr⟩
    · simp [Value.ownBlock] at hk
      subst hk
      exact hat
    · exact f.grown hgrow f.size fun k hk => (hrow.lt k hk).1
/-- An automaton that does not use the list's block stays. -/
theorem AutIn.append {w w' : World} {p bm : Nat} {M : List Ev} {v v' : Value} (h : AutIn (fun k => v.ownBlock ≠ some k) w p bm M) (hg : w.grownBy w' v.ownBlock) (hat : ∀ k, v'.ownBlock = some k → v.ownBlock = some k ∨ k = w.heap.size) : AutIn (fun k => v'.ownBlock ≠ some k) w' p bm M := by
  have h1 : AutIn (fun k => v.ownBlock ≠ some k ∧ k < w.heap.size) w p bm M := by
    obtain ⟨cv, pv, n, D, g1, g2, zp, zb, zc, zv⟩ := h
    refine ⟨cv, pv, n, D, g1, g2, ⟨zp, g1.box.lt⟩, ⟨zb, g1.map.own.lt⟩, ?_, fun c u hu x hx => ?_⟩
    · have hc := g1.cfg
      cases M with
      | nil => exact .inl hc
      | cons y l =>
        obtain ⟨b, hb, hB⟩ := hc
        rcases zc with zc | ⟨b', hb', hz⟩
        · exact .inl zc
        · rw [hb'] at hb; cases hb
          exact .inr ⟨_, hb', hz, hB.lt⟩
    · obtain ⟨b, t, r, k1, k2, k3, k4, k5⟩ := zv c u hu x hx
      refine ⟨b, t, r, k1, ⟨k2, k3.lt⟩, k3, ?_, k5⟩
      obtain ⟨a, cap, rfl, q1, q2, q3⟩ := k4
      refine ⟨a, cap, rfl, q1, q2, ?_⟩
      rcases q3 with q3 | ⟨b1, off, rfl, hz, hlt, hc⟩
      · exact .inl q3
      · exact .inr ⟨b1, off, rfl, ⟨hz, hlt⟩, hlt, hc⟩
  have h2 := h1.keep hg.size fun k hz hk => hg.block k hk (fun e => hz.1 e.symm)
  exact h2.mono fun k hz e => by
    rcases hat k e with h | h
    · exact hz.1 h
    · have := hz.2; omega
end Go.Proofs.YtdjjjnoecfbjeaaGreatDoor

/- umpireref07: the list of all events that were taken, and what is read in it. No condition but that it can be read, and the numbers' bounds. -/
namespace Go.Proofs.YtdjjjnoecfbjeaaGreatDoor
open Go.RowKit
attribute [local go_sem] Oper.semAt_some

/-- The document's history: its box, and the list that stands in it. -/
structure HisAt (w : World) (p : Nat) (v : Value) (L : List Ev) : Prop where
  box : BoxAt w p #[v] 27
  rd : RdE w v L
  may : ∀ x ∈ L, x.may = true ∧ x.Ok
  few : L.length ≤ 1000
theorem HisAt.fr {a w : World} {p : Nat} {v : Value} {L : List Ev} (h : HisAt a p v L) (f : Fr a w) : HisAt w p v L := ⟨h.box.fr f, h.rd.keep f, h.may, h.few⟩
theorem HisAt.at0 {w : World} {p : Nat} {v : Value} {L : List Ev} (h : HisAt w p v L) : w.cell? ⟨p, 0, none⟩ = some v := h.box.at 0 rfl
theorem HisAt.lt {w : World} {p : Nat} {v : Value} {L : List Ev} (h : HisAt w p v L) : p < w.heap.size := h.box.lt
theorem ev_opens (x : Ev) : x.opens = (decide (x.kind = 2) || decide (x.kind = 5)) := by
  unfold Ev.opens
  by_cases h2 : x.kind = 2 <;> by_cases h5 : x.kind = 5 <;> simp [h2, h5]
theorem opens7_c (x : Ev) (t r : Value) (w : World) : Calls Tryz.prog 29 #[x.val t r] w fun e w' => e = .returned (.bool x.opens) ∧ Fr w w' := by
  rw [ev_opens]
  have e2 : ((x.kind : Int) == 2) = decide (x.kind = 2) := beqN x.kind 2
  have e5 : ((x.kind : Int) == 5) = decide (x.kind = 5) := beqN x.kind 5
  generalize decide (x.kind = 2) = b2 at e2 ⊢
  generalize decide (x.kind = 5) = b5 at e5 ⊢
  unfold Ev.val
  cases b2 <;> cases b5
  all_goals
    go_enter Tryz.func29, Tryz.ntmps29
    go_wp2_with fail
    go_ret
    exact ⟨rfl, (Fr.refl _).alloc _⟩
set_option maxRecDepth 100000 in
set_option maxHeartbeats 2000000 in
theorem last7_c (L : List Ev) (v : Value) (p : Nat) (w : World) (h : HisAt w p v L) : Calls Tryz.prog 24 #[.pointer (some ⟨p, 0, none⟩)] w fun e w' => e = .returned (.int .i64 (lastId L)) ∧ Fr w w' := by
  obtain ⟨a, cap, rfl, hcap, hmax, _⟩ := id h.rd
  unfold maxLen at hmax
  have HL := Lib.hid h
  have c0 := h.at0
  clear h
  go_enter Tryz.func24, Tryz.ntmps24
  go_wp2_with fail
  go_loopw [3, 4] (fun n i wr => ∃ k : Nat, 1 ≤ k ∧ (k ≤ L.length ∨ k = 1) ∧ i = .int .i64 k ∧ n = .int .i64 (lastId (L.take k)) ∧ Fr w wr) (fun _ i _ => L.length - (intOf i).toNat)
  case atStart => exact ⟨1, Nat.le_refl _, .inr rfl, rfl, by cases L <;> rfl, Fr.refl _⟩
  case round =>
    obtain ⟨k, hk1, hk, rfl, rfl, hfr⟩ := hrel
    have d0 := hfr.keep c0
    have hpl := lt_of_cell d0
    simp only at hpl
    by_cases hlt : k < L.length
    · obtain ⟨b1, o1, t, r, rfl, hb1, hx, ht, hr⟩ := RdE.at (HL.out.rd.keep hfr) hlt
      have hkc : k < cap := by omega
      have c2 : wr.cell? ⟨b1, o1 + k * 19 + 2, none⟩ = some (.int .u16 L[k].id) := hx 2 _ rfl
      have hne : L.take k ≠ [] := by intro e; have h1 := congrArg List.length e; rw [List.length_take] at h1; simp only [List.length_nil] at h1; omega
      have hs := lastId_snoc hne L[k]
      rw [← List.take_succ_eq_append_getElem hlt] at hs
      have hid : L[k].id < 65536 := (HL.out.may _ (List.getElem_mem hlt)).2.id
      generalize L[k].id = q at c2 hs hid
      have HS := Lib.hid hs
      clear hx ht hr hs hne
      by_cases hg : lastId (L.take k) < (q : Int)
      · go_wp2_with fail
        go_roundw
        case rel => exact ⟨k + 1, by omega, .inl (by omega), by go_num, by have := HS.out; go_num, hfr⟩
        case measure => simp [intOf]; omega
      · go_wp2_with fail
        go_roundw
        case rel => exact ⟨k + 1, by omega, .inl (by omega), by go_num, by have := HS.out; go_num, hfr⟩
        case measure => simp [intOf]; omega
    · have hT : L.take k = L := List.take_of_length_le (by omega)
      rw [hT]
      go_wp2_with fail
      go_ret
      exact ⟨rfl, hfr⟩
/-- The last event of a client; none: the zero event. -/
def lastEv (L : List Ev) (c : Nat) : Ev := (lastOf L c).getD Ev.zero
/-- Of the last events there is none of that client. -/
def NoneBehind (L : List Ev) (c : Nat) (z : Int) : Prop := ∀ j : Nat, z < j → 0 < j → ∀ h : j < L.length, L[j].client ≠ c
theorem lastOf_none {L : List Ev} {c : Nat} {z : Int} (h : NoneBehind L c z) (hz : z ≤ 0) : lastOf L c = none := by
  unfold lastOf
  rw [List.find?_eq_none]
  intro x hx
  rw [List.mem_reverse] at hx
  obtain ⟨i, hi, rfl⟩ := List.getElem_of_mem hx
  simp only [List.length_drop] at hi
  have := h (1 + i) (by omega) (by omega) (by omega)
  rw [List.getElem_drop, decide_eq_true_eq]
  exact this
theorem lastOf_some {L : List Ev} {c k : Nat} (h : NoneBehind L c k) (h0 : 0 < k) (hk : k < L.length) (hc : L[k].client = c) : lastOf L c = some L[k] := by
  unfold lastOf
  have h1 : L.drop 1 = ((L.drop 1).take (k - 1)) ++ L[k] :: (L.drop (k + 1)) := by
    have h2 : (L.drop 1).drop (k - 1) = L[k] :: L.drop (k + 1) := by
      rw [List.drop_drop, show 1 + (k - 1) = k by omega, List.drop_eq_getElem_cons hk]
    rw [← h2, List.take_append_drop]
  rw [h1, List.reverse_append, List.reverse_cons, List.append_assoc, List.find?_append]
  have h3 : (L.drop (k + 1)).reverse.find? (fun x => decide (x.client = c)) = none := by
    rw [List.find?_eq_none]
    intro x hx
    rw [List.mem_reverse] at hx
    obtain ⟨i, hi, rfl⟩ := List.getElem_of_mem hx
    simp only [List.length_drop] at hi
    have := h (k + 1 + i) (by omega) (by omega) (by omega)
    rw [List.getElem_drop, decide_eq_true_eq]
    exact this
  rw [h3]
  simp [hc]
theorem pend_of {L : List Ev} {c : Nat} {x : Ev} (h : lastOf L c = some x) : (pend L c).isSome = x.opens := by
  unfold pend
  rw [h]
  cases ho : x.opens <;> simp [Option.filter, ho]
theorem pend_of_none {L : List Ev} {c : Nat} (h : lastOf L c = none) : (pend L c).isSome = false := by
  unfold pend
  rw [h]
  rfl
theorem lastEv_pend {L : List Ev} {c : Nat} {x : Ev} (h : pend L c = some x) : lastEv L c = x := by
  unfold pend at h
  unfold lastEv
  rw [(Option.filter_eq_some_iff.1 h).1]
  rfl
/-- What the document tells a client has open. -/
def PendP (w : World) (L : List Ev) (c : Nat) (e : Ending) (w' : World) : Prop := (∃ ta tn tc ra rn rc, e = .returned (.tuple #[(lastEv L c).val (.slice ta tn tc) (.slice ra rn rc), .bool (pend L c).isSome]) ∧ RdM w' (.slice ta tn tc) (lastEv L c).txn ∧ RdR w' (.slice ra rn rc) (lastEv L c).reads) ∧ Fr w w'
set_option maxRecDepth 100000 in
set_option maxHeartbeats 2000000 in
theorem pend7_c (L : List Ev) (v : Value) (p c : Nat) (w : World) (h : HisAt w p v L) : Calls Tryz.prog 26 #[.pointer (some ⟨p, 0, none⟩), .int .u8 c] w (PendP w L c) := by
  obtain ⟨a, cap, rfl, hcap, hmax, _⟩ := id h.rd
  unfold maxLen at hmax
  have hF0 := (Fr.refl w).alloc (.cells (Ev.zero.cells nil0 nil0) 39)
  have HL := Lib.hid h
  have c0 := h.at0
  have hpl := h.lt
  have h00 := hF0.keep c0
  clear h
  go_enter Tryz.func26, Tryz.ntmps26
  go_wp2_with fail
  refine gen_w fun W0 hW0 => ?_
  have hZ : BoxAt W0 w.heap.size (Ev.zero.cells nil0 nil0) 39 := by rw [hW0]; exact BoxAt.new w _ _
  have hF0' : Fr w W0 := by rw [hW0]; exact hF0
  clear hF0 h00 hW0
  go_loopw [6] (fun i wr => ∃ z : Int, -1 ≤ z ∧ z < L.length ∧ i = .int .i64 z ∧ NoneBehind L c z ∧ Fr W0 wr) (fun i _ => (intOf i + 1).toNat)
  case atStart => exact ⟨(L.length : Int) - 1, by omega, by omega, rfl, fun j h1 _ h2 => by omega, Fr.refl _⟩
  case round =>
    obtain ⟨z, hz1, hz2, rfl, hnb, hfr⟩ := hrel
    have hF := hF0'.trans hfr
    have hZr := hZ.fr hfr
    have d0 := hF.keep c0
    have hplr := lt_of_cell d0
    simp only at hplr
    have HNB := Lib.hid hnb
    have HF := Lib.hid hfr
    have HZ := Lib.hid hZr
    clear hnb hfr hZ c0 hZr
    by_cases h0 : 0 < z
    · obtain ⟨k, rfl⟩ : ∃ k : Nat, z = k := ⟨z.toNat, by omega⟩
      have hlt : k < L.length := by omega
      have hkc : k < cap := by omega
      obtain ⟨b1, o1, t, r, rfl, hb0, hx0, ht, hr⟩ := RdE.at HL.out.rd hlt
      have hx := rangeAt_keep hx0 (hF.block hb0)
      have hb1 := Nat.lt_of_lt_of_le hb0 hF.size
      clear hx0
      have c1 : wr.cell? ⟨b1, o1 + k * 19 + 1, none⟩ = some (.int .u8 L[k].client) := hx 1 _ rfl
      by_cases hc : L[k].client = c
      · have hlo := lastOf_some HNB.out (by omega) hlt hc
        have hle : lastEv L c = L[k] := by unfold lastEv; rw [hlo]; rfl
        have hpe := pend_of hlo
        generalize L[k] = y at hx ht hr c1 hc hle hpe
        have hci : ((y.client : Int) == (c : Int)) = true := by simp [hc]
        obtain ⟨ta, tn, tc, rfl⟩ := ht.slice
        obtain ⟨ra, rn, rc, rfl⟩ := hr.slice
        have HR := Lib.hid (⟨ht, hr⟩ : _ ∧ _)
        have HP := Lib.hid (⟨hle, hpe⟩ : _ ∧ _)
        clear ht hr hle hpe hlo hc
        have e0 := FrW.cell d0
        have hex := FrW.range hx hb1
        have hlt0 : ∀ z : FrW wr, p < z.val.heap.size := fun z => Nat.lt_of_lt_of_le hplr z.fr.size
        go_wp2_with fail
        clear d0 hx
        refine wp_region_frt 15 (by kernel_rfl) (by kernel_rfl) ?_
        simp only [List.take_succ_cons, List.take_zero]
        repeat (first | ((with_reducible refine wpQuiet_here (.load 39 (.tmp 32)) rfl ?_); refine wpQuiet_load_midD 33 rfl 39 (.tmp 32) rfl b1 (o1 + k * 19) rfl _ _ hex Tryz.underlying39 rfl Tryz.infoEv rfl ?_; simp only [List.setIfInBounds_toArray, List.set_cons_succ, List.set_cons_zero]) | ((with_reducible refine wpQuiet_here (.load 39 (.tmp 39)) rfl ?_); refine wpQuiet_load_midD 40 rfl 39 (.tmp 39) rfl b1 (o1 + k * 19) rfl _ _ hex Tryz.underlying39 rfl Tryz.infoEv rfl ?_; simp only [List.setIfInBounds_toArray, List.set_cons_succ, List.set_cons_zero]) | go_big_quiet_step ((go_at_call 29; exact frq (opens7_c y _ _ _))))
        refine wpQuiet_nil ?_
        rintro w5 ⟨⟨_, hf5⟩, rfl⟩
        simp only [List.drop_succ_cons, List.drop_zero]
        have hZ5 := HZ.out.fr hf5
        have hF5 := hF.trans hf5
        go_wp2_with ((with_reducible refine wpList_here (.store 39 (.tmp 4) (.tmp 33)) rfl ?_); refine wpList_store_old 39 (.tmp 4) (.tmp 33) rfl w.heap.size _ _ rfl rfl hZ5 Tryz.infoEv rfl (Ev.oneCell y ta ra tn tc rn rc) rfl rfl ?_; intro w2 hw2)
        have hF2 := hw2.fr hF5 (Nat.le_refl _)
        refine bodyPost_ret (v := .tuple #[y.val (.slice ta tn tc) (.slice ra rn rc), .bool y.opens]) (results_evb rfl _ _ w.heap.size _ _ rfl rfl hw2.box rfl) rfl ⟨?_, hF2⟩
        rw [HP.out.1, HP.out.2]
        exact ⟨ta, tn, tc, ra, rn, rc, rfl, HR.out.1.keep hF2, HR.out.2.keep hF2⟩
      · have hci : ((L[k].client : Int) == (c : Int)) = false := by simp; omega
        have hnb : NoneBehind L c ((k : Int) - 1) := fun j h1 h2 h3 => by
          by_cases hj : j = k
          · subst hj; exact hc
          · exact HNB.out j (by omega) h2 h3
        generalize L[k].client = y at c1 hci
        clear hx ht hr hc
        have HNB2 := Lib.hid hnb
        clear hnb
        go_wp2_with fail
        go_roundw
        case rel => exact ⟨(k : Int) - 1, by omega, by omega, by go_num, HNB2.out, HF.out⟩
        case measure => first | (simp [intOf]; done) | (simp [intOf]; omega)
    · have hlo := lastOf_none HNB.out (by omega)
      have hle : lastEv L c = Ev.zero := by unfold lastEv; rw [hlo]; rfl
      have hpe := pend_of_none hlo
      have HP := Lib.hid (⟨hle, hpe⟩ : _ ∧ _)
      clear hle hpe hlo
      have hZr := HZ.out
      go_wp2_with ((with_reducible refine wpList_here (.store 39 (.tmp 4) (.tmp 42)) rfl ?_); refine wpList_store_old 39 (.tmp 4) (.tmp 42) rfl w.heap.size _ (Ev.zero.cells nil0 nil0) rfl rfl hZr Tryz.infoEv rfl zero_one rfl rfl ?_; intro w2 hw2)
      refine bodyPost_ret (v := .tuple #[.agg (Ev.zero.cells nil0 nil0), .bool false]) (results_evb rfl _ _ w.heap.size _ _ rfl rfl hw2.box rfl) rfl ⟨?_, hw2.fr hF (Nat.le_refl _)⟩
      rw [HP.out.1, HP.out.2]
      exact ⟨none, 0, 0, none, 0, 0, rfl, RdM.nil _, RdR.nil _⟩
set_option maxRecDepth 100000 in
set_option maxHeartbeats 2000000 in
theorem open7_c (L : List Ev) (v : Value) (p : Nat) (w : World) (h : HisAt w p v L) : Calls Tryz.prog 22 #[.pointer (some ⟨p, 0, none⟩)] w fun e w' => e = .returned (.int .i64 (openTo L 16 : Nat)) ∧ Fr w w' := by
  have HP := Lib.hid (fun c W (f : Fr w W) => pend7_c L v p c W (h.fr f))
  clear h
  go_enter Tryz.func22, Tryz.ntmps22
  go_wp2_with fail
  go_loopw [3, 4] (fun n i wr => ∃ k : Nat, k ≤ 16 ∧ i = .int .i64 k ∧ n = .int .i64 (openTo L k : Nat) ∧ openTo L k ≤ k ∧ Fr w wr) (fun _ i _ => 16 - (intOf i).toNat)
  case atStart => exact ⟨0, by omega, rfl, rfl, Nat.le_refl _, Fr.refl _⟩
  case round =>
    obtain ⟨k, hk, rfl, rfl, hle, hfr⟩ := hrel
    by_cases hlt : k < 16
    · have hs := openTo_succ L k
      have hki : (k : Int) < 16 := by omega
      go_wp2_with fail
      refine (HP.out k wr hfr).mono ?_
      rintro e w1 ⟨⟨ta, tn, tc, ra, rn, rc, rfl, _⟩, hf⟩
      generalize lastEv L k = y
      have hf1 := hfr.trans hf
      have hf2 := hf1.trans ((Fr.refl w1).alloc (.cells (y.cells (.slice ta tn tc) (.slice ra rn rc)) 39))
      have HS := Lib.hid hs
      cases hb : (pend L k).isSome
      · have hn : openTo L (k + 1) = openTo L k := by have := HS.out; rw [hb] at this; simpa using this
        have HN := Lib.hid hn
        clear hs hn HS hf hfr hb
        go_wp2_with ((with_reducible refine wpList_here (.store 39 (.tmp 5) (.tmp 16)) rfl ?_); refine wpList_store_new 39 (.tmp 5) (.tmp 16) rfl _ (y.cells (.slice ta tn tc) (.slice ra rn rc)) _ rfl rfl rfl Tryz.infoEv rfl (Ev.oneCell y ta ra tn tc rn rc) rfl rfl ?_)
        go_roundw
        case rel => exact ⟨k + 1, by omega, by go_num, by rw [HN.out], by rw [HN.out]; omega, hf2⟩
        case measure => simp [intOf]; omega
      · have hn : openTo L (k + 1) = openTo L k + 1 := by have := HS.out; rw [hb] at this; simpa using this
        have HN := Lib.hid hn
        clear hs hn HS hf hfr hb
        go_wp2_with ((with_reducible refine wpList_here (.store 39 (.tmp 5) (.tmp 16)) rfl ?_); refine wpList_store_new 39 (.tmp 5) (.tmp 16) rfl _ (y.cells (.slice ta tn tc) (.slice ra rn rc)) _ rfl rfl rfl Tryz.infoEv rfl (Ev.oneCell y ta ra tn tc rn rc) rfl rfl ?_)
        go_roundw
        case rel => exact ⟨k + 1, by omega, by go_num, by rw [HN.out]; go_num, by rw [HN.out]; omega, hf2⟩
        case measure => simp [intOf]; omega
    · have hki : ¬ (k : Int) < 16 := by omega
      obtain rfl : k = 16 := by omega
      go_wp2_with fail
      go_ret
      exact ⟨rfl, hfr⟩
set_option maxRecDepth 100000 in
set_option maxHeartbeats 2000000 in
theorem app7_c (l : List Mic) (v : Value) (m : Mic) (n : Nat) (w : World) (h : RdM w v l) (hn : n ≤ l.length) : Calls Tryz.prog 41 #[v, m.val, .int .i64 n] w fun e w' => e = .returned (.int .i64 (cntP (l.take n) m.key m.v : Nat)) ∧ Fr w w' := by
  obtain ⟨a, cap, rfl, hcap, hmax, hx0⟩ := id h
  unfold maxLen at hmax
  have HL := Lib.hid h
  have HX := Lib.hid hx0
  clear h hx0
  unfold Mic.val
  go_enter Tryz.func41, Tryz.ntmps41
  go_wp2_with fail
  refine gen_w fun W0 hW0 => ?_
  have hB : BoxAt W0 w.heap.size #[.bool m.read, .int .u8 m.key, .int .u16 m.v] 58 := by rw [hW0]; exact BoxAt.new w _ _
  have hF0 : Fr w W0 := by rw [hW0]; exact (Fr.refl _).alloc _
  clear hW0
  go_loopw [7, 8] (fun u i wr => ∃ k : Nat, k ≤ n ∧ i = .int .i64 k ∧ u = .int .i64 (cntP (l.take k) m.key m.v : Nat) ∧ Fr W0 wr) (fun _ i _ => n - (intOf i).toNat)
  case atStart => exact ⟨0, Nat.zero_le _, rfl, rfl, Fr.refl _⟩
  case round =>
    obtain ⟨k, hk, rfl, rfl, hfr⟩ := hrel
    have hBr := hB.fr hfr
    have b1 := hBr.at 1 rfl
    have b2 := hBr.at 2 rfl
    have hlb := hBr.lt
    have hF := hF0.trans hfr
    by_cases hlt : k < n
    · have hkl : k < l.length := by omega
      have hkc : k < cap := by omega
      obtain ⟨o1, p1, rfl, _, hd1⟩ := SlAt.at (n := 0) (cap := 0) HX.out (mic_ne_nil hkl)
      obtain ⟨c0, c1, c2⟩ := micAt hF hd1 hkl
      have hs := cntP_take hkl m.key m.v
      have hle := cntP_le l k m.key m.v
      have hl1 := lt_of_cell c0
      simp only at hl1
      generalize l[k] = q at c0 c1 c2 hs
      generalize hcn : cntP (l.take k) m.key m.v = N at hs hle ⊢
      have e1 : ((q.key : Int) == (m.key : Int)) = decide (q.key = m.key) := beqN _ _
      have e2 : ((q.v : Int) == (m.v : Int)) = decide (q.v = m.v) := beqN _ _
      cases hr : q.read
      · rw [hr] at c0
        by_cases hk1 : q.key = m.key
        · rw [decide_eq_true hk1] at e1
          by_cases hv1 : q.v = m.v
          · rw [decide_eq_true hv1] at e2
            have hs' : cntP (l.take (k + 1)) m.key m.v = N + 1 := by rw [hs]; simp [hr, hk1, hv1]
            have HS := Lib.hid hs'
            clear hs hs' hr hk1 hv1
            go_wp2_with fail
            go_quiet (fail)
            go_wp2_with fail
            go_roundw
            case rel => exact ⟨k + 1, by omega, by go_num, by rw [HS.out]; go_num, hfr.drewN _⟩
            case measure => simp [intOf]; omega
          · rw [decide_eq_false hv1] at e2
            have hs' : cntP (l.take (k + 1)) m.key m.v = N := by rw [hs]; simp [hr, hk1, hv1]
            have HS := Lib.hid hs'
            clear hs hs' hr hk1 hv1
            go_wp2_with fail
            go_quiet (fail)
            go_wp2_with fail
            go_roundw
            case rel => exact ⟨k + 1, by omega, by go_num, by rw [HS.out], hfr.drewN _⟩
            case measure => simp [intOf]; omega
        · rw [decide_eq_false hk1] at e1
          have hs' : cntP (l.take (k + 1)) m.key m.v = N := by rw [hs]; simp [hr, hk1]
          have HS := Lib.hid hs'
          clear hs hs' hr hk1
          go_wp2_with fail
          go_quiet (fail)
          go_wp2_with fail
          go_roundw
          case rel => exact ⟨k + 1, by omega, by go_num, by rw [HS.out], hfr.drewN _⟩
          case measure => simp [intOf]; omega
      · rw [hr] at c0
        have hs' : cntP (l.take (k + 1)) m.key m.v = N := by rw [hs]; simp [hr]
        have HS := Lib.hid hs'
        clear hs hs' hr
        go_wp2_with fail
        go_quiet (fail)
        go_wp2_with fail
        go_roundw
        case rel => exact ⟨k + 1, by omega, by go_num, by rw [HS.out], hfr.drewN _⟩
        case measure => simp [intOf]; omega
    · obtain rfl : k = n := by omega
      go_wp2_with fail
      go_ret
      exact ⟨rfl, hF⟩
end Go.Proofs.YtdjjjnoecfbjeaaGreatDoor

/- Automatons that are none. No condition but that it is none. -/
namespace Go.Proofs.YtdjjjnoecfbjeaaGreatDoor
open Go.RowKit
attribute [local go_sem] Oper.semAt_some

end Go.Proofs.YtdjjjnoecfbjeaaGreatDoor

/- Slice literals in a drawn region: of micros, of events, of numbers. No condition but what each says. -/
namespace Go.Proofs.YtdjjjnoecfbjeaaGreatDoor
open Go.RowKit

theorem evalOf {a : Act} {t : Tmp} {v : Value} (h : a.tmps[t]? = some v) : a.eval (.tmp t) = v := by simp [Act.eval, h]
/-- A slice literal, every place written. -/
theorem run_bs {P : Program} {o : Oper} {a : Act} {w : World} (t e : TypeId) (len : Nat) (parts : Array (Nat × Operand)) (ho : o.op = .buildSlice t len parts) (vs : List Value) (hev : (parts.map fun (i, x) => (i, a.eval x)).toList = (vs.zipIdx 0).map fun x => (x.2, x.1))
    (s : Nat) (hs : 0 < s) (hvs : ∀ v ∈ vs, v.cells.size = s) (hu : P.underlying t = some (.slice e)) (hi : (P.info? e).map (fun i => (i.zero.isSome, i.size)) = some (true, s)) (hlen : len = vs.length) (hpos : 0 < len) (hsm : len * s ≤ 2 ^ 24) :
    (execOp a.eval o).run P w = .ok (.value (.slice (some ⟨w.heap.size, 0, none⟩) len len)) (w.alloc (.cells (vs.flatMap fun v => v.cells.toList).toArray e)) := by
  cases hie : P.info? e with
  | none => simp [hie] at hi
  | some ie =>
    simp only [hie, Option.map_some, Option.some.injEq, Prod.mk.injEq] at hi
    obtain ⟨hz, hsz⟩ := hi
    obtain ⟨z, hzz⟩ := Option.isSome_iff_exists.1 hz
    have h0 : ¬ len * ie.size = 0 := by rw [hsz]; have := Nat.mul_pos hpos hs; omega
    have hr := run_buildSlice w t e len (parts.map fun (i, x) => (i, a.eval x)) (vs.flatMap fun v => v.cells.toList).toArray ie z hu hie hzz (by rw [hsz]; omega) h0 (by rw [hev]; exact Great.fill_whole (s := ie.size) (by rw [hsz]; exact hs) vs _ (by rw [hsz]; exact hvs) (by simp [hlen]))
    unfold execOp
    simp only [ho, Sem.run_bind, hr, Result.andThen_ok, Sem.run_pure]
theorem mic_flat (l : List Mic) : ((l.map Mic.val).flatMap fun v => v.cells.toList) = micCells l := by
  induction l with
  | nil => rfl
  | cons m l ih => rw [List.map_cons, List.flatMap_cons, ih]; rfl
theorem rdM_new {w : World} {n : Nat} (l : List Mic) (hn : n = w.heap.size) (hl : l.length ≤ 1000) : RdM (w.alloc (.cells (micCells l).toArray 58)) (.slice (some ⟨n, 0, none⟩) l.length l.length) l := by
  subst hn
  refine ⟨_, _, rfl, Nat.le_refl _, by unfold maxLen; omega, .inr ⟨w.heap.size, 0, rfl, trivial, by simp, fun j u hj => ?_⟩⟩
  rw [Nat.zero_add, (BoxAt.new w _ _).cell]
  simpa using hj
theorem rdE_new {w : World} {n : Nat} (evs : List (Ev × Value × Value)) (hn : n = w.heap.size) (hl : evs.length ≤ 1000) (hr : ∀ e ∈ evs, RdM w e.2.1 e.1.txn ∧ RdR w e.2.2 e.1.reads) : RdE (w.alloc (.cells (evFlat evs).toArray 39)) (.slice (some ⟨n, 0, none⟩) evs.length evs.length) (evs.map (·.1)) := by
  subst hn
  refine ⟨_, evs.length, by simp, by simp, by unfold maxLen; omega, .inr ⟨w.heap.size, 0, rfl, by simp, fun i hi => ?_⟩⟩
  have hi2 : i < evs.length := by simpa using hi
  have h1 : (evs.map (·.1))[i] = evs[i].1 := by simp
  rw [h1]
  have := hr _ (List.getElem_mem hi2)
  refine ⟨evs[i].2.1, evs[i].2.2, fun j u hj => ?_, this.1.keep ((Fr.refl w).alloc _), this.2.keep ((Fr.refl w).alloc _)⟩
  have := flat19 (g := fun e : Ev × Value × Value => (e.1.cells e.2.1 e.2.2).toList) (fun _ => rfl) evs i j hi2 u hj
  rw [(BoxAt.new w _ _).cell, Nat.zero_add]
  simpa [evFlat] using this
theorem Tryz.infoMicS : (Tryz.prog.info? 58).map (fun i => (i.zero.isSome, i.size)) = some (true, 3) := by kernel_rfl
theorem Tryz.infoEvS : (Tryz.prog.info? 39).map (fun i => (i.zero.isSome, i.size)) = some (true, 19) := by kernel_rfl
theorem Tryz.infoErrS : (Tryz.prog.info? 40).map (fun i => (i.zero.isSome, i.size)) = some (true, 1) := by kernel_rfl
theorem run_bsMic {o : Oper} {a : Act} {w : World} (len : Nat) (parts : Array (Nat × Operand)) (ho : o.op = .buildSlice 34 len parts) (l : List Mic) (hev : (parts.map fun (i, x) => (i, a.eval x)).toList = ((l.map Mic.val).zipIdx 0).map fun x => (x.2, x.1)) (hlen : len = l.length) (hpos : 0 < len) (hsm : len ≤ 1000) :
    (execOp a.eval o).run Tryz.prog w = .ok (.value (.slice (some ⟨w.heap.size, 0, none⟩) len len)) (w.alloc (.cells (micCells l).toArray 58)) := by
  have := run_bs (w := w) 34 58 len parts ho (l.map Mic.val) hev 3 (by omega) (fun v hv => by obtain ⟨m, _, rfl⟩ := List.mem_map.1 hv; rfl) Tryz.underlying34 Tryz.infoMicS (by simp [hlen]) hpos (by omega)
  rw [mic_flat] at this
  exact this
theorem run_bsEv {o : Oper} {a : Act} {w : World} (len : Nat) (parts : Array (Nat × Operand)) (ho : o.op = .buildSlice 22 len parts) (evs : List (Ev × Value × Value)) (hev : (parts.map fun (i, x) => (i, a.eval x)).toList = ((evs.map fun e => e.1.val e.2.1 e.2.2).zipIdx 0).map fun x => (x.2, x.1)) (hlen : len = evs.length) (hpos : 0 < len) (hsm : len ≤ 1000) :
    (execOp a.eval o).run Tryz.prog w = .ok (.value (.slice (some ⟨w.heap.size, 0, none⟩) len len)) (w.alloc (.cells (evFlat evs).toArray 39)) := by
  have := run_bs (w := w) 22 39 len parts ho (evs.map fun e => e.1.val e.2.1 e.2.2) hev 19 (by omega) (fun v hv => by obtain ⟨m, _, rfl⟩ := List.mem_map.1 hv; rfl) Tryz.underlying22 Tryz.infoEvS (by simp [hlen]) hpos (by omega)
  rw [evs_cells] at this
  exact this
theorem run_bsInt {o : Oper} {a : Act} {w : World} (len : Nat) (parts : Array (Nat × Operand)) (ho : o.op = .buildSlice 68 len parts) (l : List Nat) (hev : (parts.map fun (i, x) => (i, a.eval x)).toList = ((l.map fun n : Nat => Value.int .i64 (n : Int)).zipIdx 0).map fun x => (x.2, x.1)) (hlen : len = l.length) (hpos : 0 < len) (hsm : len ≤ 1000) :
    (execOp a.eval o).run Tryz.prog w = .ok (.value (.slice (some ⟨w.heap.size, 0, none⟩) len len)) (w.alloc (.cells (l.map fun n : Nat => Value.int .i64 (n : Int)).toArray 40)) := by
  have h := run_bs (w := w) 68 40 len parts ho (l.map fun n : Nat => Value.int .i64 (n : Int)) hev 1 (by omega) (fun v hv => by obtain ⟨m, _, rfl⟩ := List.mem_map.1 hv; rfl) Tryz.underlying68 Tryz.infoErrS (by simp [hlen]) hpos (by omega)
  have e : ((l.map fun n : Nat => Value.int .i64 (n : Int)).flatMap fun v => v.cells.toList) = l.map fun n : Nat => Value.int .i64 (n : Int) := by
    clear hev hlen ho h
    induction l with
    | nil => rfl
    | cons m l ih => rw [List.map_cons, List.flatMap_cons, ih]; rfl
  rw [e] at h
  exact h
end Go.Proofs.YtdjjjnoecfbjeaaGreatDoor
