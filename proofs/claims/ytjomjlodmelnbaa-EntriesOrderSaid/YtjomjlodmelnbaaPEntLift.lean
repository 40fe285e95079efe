/- Layer 16: Lift. No condition but that the list lies there. -/
import Derived.Test.YtjomjlodmelnbaaPEntNewW
set_option linter.all false
set_option linter.unusedVariables false
set_option linter.unusedSimpArgs false
set_option linter.unnecessarySimpa false
/- Layer 16: Lift. No condition but that the list lies there. -/
namespace Go.Proofs.Ytjomjlodmelnbaa
open Go.RowKit Go.Sort
attribute [local go_sem] Oper.semAt_some

theorem inj_of_nodup_map {α β : Type} {f : α → β} : ∀ {l : List α}, (l.map f).Nodup → ∀ {a b : α}, a ∈ l → b ∈ l → f a = f b → a = b
  | [], _, a, b, ha, _, _ => by cases ha
  | c :: l, h, a, b, ha, hb, e => by
    rw [List.map_cons, List.nodup_cons] at h
    rcases List.mem_cons.1 ha with e1 | h1
    · rcases List.mem_cons.1 hb with e2 | h2
      · rw [e1, e2]
      · exact absurd (show f c ∈ l.map f from List.mem_map.2 ⟨b, h2, by rw [← e, e1]⟩) h.1
    · rcases List.mem_cons.1 hb with e2 | h2
      · exact absurd (show f c ∈ l.map f from List.mem_map.2 ⟨a, h1, by rw [e, e2]⟩) h.1
      · exact inj_of_nodup_map h.2 h1 h2 e
theorem nodup_len_le : ∀ {n : Nat} {l : List Nat}, l.Nodup → (∀ i ∈ l, i < n) → l.length ≤ n
  | 0, l, _, h => by
    cases l with
    | nil => simp
    | cons a l => exact absurd (h a (by simp)) (by omega)
  | n + 1, l, hd, h => by
    have h1 := nodup_len_le (n := n) (hd.erase n) (fun i hi => by
      have h2 := h i (List.mem_of_mem_erase hi)
      have h3 : i ≠ n := fun e => by rw [e] at hi; exact (hd.not_mem_erase) hi
      omega)
    have h4 := List.length_erase (a := n) (l := l)
    split at h4 <;> omega
theorem mem_rems {N T : Nat → Nat} {rs : List ERow} {up : List Nat} {b : Nat} : b ∈ rems N T rs up ↔ ∃ i ∈ up, b = N i ∨ (rs[i]?.any ERow.done = true ∧ b = T i) := by
  unfold rems
  rw [List.mem_flatMap]
  constructor
  · rintro ⟨i, hi, hb⟩
    refine ⟨i, hi, ?_⟩
    rcases List.mem_cons.1 hb with h | h
    · exact .inl h
    · split at h
      · rename_i hd; rw [List.mem_singleton] at h; exact .inr ⟨hd, h⟩
      · cases h
  · rintro ⟨i, hi, hb⟩
    refine ⟨i, hi, ?_⟩
    rcases hb with h | ⟨hd, h⟩
    · rw [h]; exact List.mem_cons_self
    · rw [if_pos hd, h]; simp
theorem ret_mem {rs : List ERow} {i : Nat} (h : rs[i]?.any ERow.done = true) : ∃ e ∈ inOrder rs, e.call = false ∧ e.row = i := by
  obtain ⟨e, he, h1, h2⟩ := hasRet_all.2 h
  rw [List.take_length] at he
  exact ⟨e, he, h1, h2⟩
theorem N_ne_T {N T : Nat → Nat} {rs : List ERow} (hd : (nodes N T rs).Nodup) {i j : Nat} (hi : i < rs.length) (hj : rs[j]?.any ERow.done = true) : N i ≠ T j := fun e => by
  obtain ⟨f, hf, h1, h2⟩ := ret_mem hj
  have := inj_of_nodup_map hd (call_mem hi) hf (by simp [nid, h1, h2, e])
  rw [← this] at h1
  cases h1
theorem T_inj {N T : Nat → Nat} {rs : List ERow} (hd : (nodes N T rs).Nodup) {i j : Nat} (hi : rs[i]?.any ERow.done = true) (hj : rs[j]?.any ERow.done = true) (e : T i = T j) : i = j := by
  obtain ⟨f, hf, h1, h2⟩ := ret_mem hi
  obtain ⟨g, hg, h3, h4⟩ := ret_mem hj
  have := inj_of_nodup_map hd hf hg (by simp [nid, h1, h2, h3, h4, e])
  rw [← h2, ← h4, this]
theorem call_left {N T : Nat → Nat} {rs : List ERow} {up : List Nat} (hd : (nodes N T rs).Nodup) (inj : ∀ i j, i < rs.length → j < rs.length → N i = N j → i = j) (hups : ∀ i ∈ up, i < rs.length) {i : Nat} (hi : i < rs.length) (hu : i ∉ up) : N i ∈ left (nodes N T rs) (rems N T rs up) := by
  refine mem_left.2 ⟨nid_call hi, fun hm => ?_⟩
  obtain ⟨j, hj, h | ⟨hdj, h⟩⟩ := mem_rems.1 hm
  · exact hu ((inj i j hi (hups j hj) h) ▸ hj)
  · exact N_ne_T hd hi hdj h
theorem ret_left {N T : Nat → Nat} {rs : List ERow} {up : List Nat} (hd : (nodes N T rs).Nodup) (hups : ∀ i ∈ up, i < rs.length) {i : Nat} (hi : i < rs.length) (hdi : rs[i]?.any ERow.done = true) (hu : i ∉ up) : T i ∈ left (nodes N T rs) (rems N T rs up ++ [N i]) := by
  refine mem_left.2 ⟨nid_ret hdi, fun hm => ?_⟩
  rcases List.mem_append.1 hm with hm | hm
  · obtain ⟨j, hj, h | ⟨hdj, h⟩⟩ := mem_rems.1 hm
    · exact N_ne_T hd (hups j hj) hdi h.symm
    · exact hu ((T_inj hd hdi hdj h) ▸ hj)
  · rw [List.mem_singleton] at hm
    exact N_ne_T hd hi hdi hm.symm
theorem rems_snoc (N T : Nat → Nat) (rs : List ERow) (up : List Nat) (i : Nat) : rems N T rs (up ++ [i]) = rems N T rs up ++ [N i] ++ (if rs[i]?.any ERow.done then [T i] else []) := by
  unfold rems
  rw [List.flatMap_append]
  simp
theorem leftOf_snoc {rs : List ERow} {up : List Nat} {i : Nat} (hi : i < rs.length) (hu : i ∉ up) : leftOf rs (up ++ [i]) + (if rs[i]?.any ERow.done then 1 else 0) = leftOf rs up := by
  unfold leftOf
  have e : ((List.range rs.length).filter fun j => rs[j]?.any ERow.done && !(up ++ [i]).contains j) = ((List.range rs.length).filter fun j => rs[j]?.any ERow.done && !up.contains j).filter fun j => j != i := by
    rw [List.filter_filter]
    refine List.filter_congr fun j _ => ?_
    rw [Bool.eq_iff_iff]
    simp
    constructor
    · rintro ⟨h1, h2, h3⟩; exact ⟨h3, h1, h2⟩
    · rintro ⟨h1, h2, h3⟩; exact ⟨h2, h3, h1⟩
  have hn : ((List.range rs.length).filter fun j => rs[j]?.any ERow.done && !up.contains j).Nodup := List.nodup_range.filter _
  have hm : i ∈ ((List.range rs.length).filter fun j => rs[j]?.any ERow.done && !up.contains j) ↔ rs[i]?.any ERow.done = true := by
    rw [List.mem_filter, List.mem_range]
    simp [hi, hu]
  rw [e, ← hn.erase_eq_filter]
  split
  · rename_i hd
    have h1 := hm.2 hd
    have := List.length_erase_of_mem h1
    have := List.length_pos_of_mem h1
    omega
  · rename_i hd
    rw [List.erase_of_not_mem (fun h => hd (hm.1 h))]
    rfl
/-- Neighbours behind two writes. -/
theorem links_wr2 {w w' : World} {S : List Nat} {nx pv : Nat → Nat} {p q u v : Nat} (h : ∀ b, b ∈ S → Cel w b 0 (Pt (pv b)) ∧ Cel w b 1 (Pt (nx b))) (k : Wr2 w w' p q (Pt u) (Pt v)) : ∀ b, b ∈ S → Cel w' b 0 (Pt (upd pv q v b)) ∧ Cel w' b 1 (Pt (upd nx p u b)) := fun b hb => by
  obtain ⟨h0, h1⟩ := h b hb
  constructor
  · by_cases e : b = q
    · subst e; rw [upd_same]; exact k.two
    · rw [upd_other _ e]; exact k.keep _ _ _ h0 (fun x => by omega) (fun x => e x.1)
  · by_cases e : b = p
    · subst e; rw [upd_same]; exact k.one
    · rw [upd_other _ e]; exact k.keep _ _ _ h1 (fun x => e x.1) (fun x => by omega)
theorem Try.infoIntB : (Try.prog.info? 3).map (fun i => (i.zero, i.size, i.bytes)) = some (some (.int .i64 0), 1, 8) := by kernel_rfl
def intV (i : Nat) : Value := .int .i64 (i : Nat)
/-- One number is appended. -/
theorem wpList_appendInt {base : Nat} {w : World} {ops : Array Oper} {rest : List Oper} {o : Oper} {a : Act} {Q : Exit → Act → World → Prop} (hgd : o.guard = none) (s x : Operand)
    (ho : o.op = .call { callee := .builtin .append, args := #[s, x], argTypes := #[27, 27] }) (v : Value) (L : List Nat) (hs : a.eval s = v) (hown : w.ownsRow base 3 1 v L.length (L.map intV)) (f : base ≤ w.heap.size)
    (b c p : Nat) (hx : a.eval x = .slice (some ⟨b, 0, none⟩) 1 c) (hy : w.cell? ⟨b, 0, none⟩ = some (intV p)) (hn : L.length ≤ 7036874417600)
    (h : ∀ va vn vc w', w'.ownsRow base 3 1 (.slice va vn vc) (L ++ [p]).length ((L ++ [p]).map intV) → Chg (fun b => v.ownBlock = some b) w w' → (∀ g, (Value.slice va vn vc).ownBlock = some g → v.ownBlock = some g ∨ g = w.heap.size) → wpList Try.prog ops Q rest (a.put o.dst (.slice va vn vc)) w') : wpList Try.prog ops Q (o :: rest) a w := by
  obtain ⟨i0, hi0, hz0, hz1, hz2⟩ := info_parts Try.infoIntB
  refine wpList_append_lies _ hgd s x 27 ho base 3 i0 _ 1 8 Try.underlying27 hi0 hz0 hz1 hz2 rfl (by omega) v L.length (L.map intV) hs hown ⟨b, 0, none⟩ 1 c [intV p] hx rfl (fun j u hj => ?_) (fun u hu => by rw [List.mem_singleton] at hu; subst hu; rfl) (by omega) (by unfold maxLen; omega) (by omega) f w.heap.size rfl ?_
  · rw [WideShapes.add_plain, Nat.zero_add]
    cases j with
    | zero => simp at hj; subst hj; exact hy
    | succ j => simp at hj
  · intro g cap w' hown' hgrow hat hlt
    refine h _ _ _ w' ?_ ?_ (fun g' he => by simp [Value.ownBlock] at he; subst he; exact hat)
    · rw [List.map_append]
      simpa using hown'
    · exact ⟨hgrow.os, hgrow.tape, hgrow.output, hgrow.size, fun k hk hne => hgrow.block k hk (fun e => hne e.symm)⟩
/-- What a walk through Lift has done. -/
structure DidLift (Z : Nat → Prop) (base : Nat) (w w' : World) (x h : Nat) (N T nx pv : Nat → Nat) (rs : List ERow) (up : List Nat) (vr vl : Value) (i : Nat) : Prop where
  links : ∀ b, b ∈ h :: nodes N T rs → Cel w' b 0 (Pt (pv b)) ∧ Cel w' b 1 (Pt (nx b))
  dance : Dance nx pv h (nodes N T rs) (rems N T rs (up ++ [i]))
  keep : ∀ b o z, Cel w b o z → 2 ≤ o → b ∈ h :: nodes N T rs → ¬ (b = N i ∧ o = 7) → Cel w' b o z
  x0 : Cel w' x 0 (Pt h)
  x1 : Cel w' x 1 vr
  x2 : Cel w' x 2 vl
  x3 : Cel w' x 3 (.int .i64 (leftOf rs (up ++ [i])))
  n7 : Cel w' (N i) 7 (.bool true)
  rows : ∀ g, vr.ownBlock = some g → w'.heap[g]? = w.heap[g]?
  lifted : w'.ownsRow base 3 1 vl (up ++ [i]).length ((up ++ [i]).map intV)
  ownl : ∀ g, vl.ownBlock = some g → Z g ∧ g ≠ x ∧ g ∉ h :: nodes N T rs ∧ vr.ownBlock ≠ some g
  hz : Fre w' h
theorem LAt.lift {Z : Nat → Prop} {base : Nat} {w w' : World} {x h : Nat} {N T nx pv nx' pv' : Nat → Nat} {rs : List ERow} {up : List Nat} {vr vl vl' : Value} {i : Nat} (L : LAt Z base w x h N T nx pv rs up vr vl) (hi : i < rs.length) (hu : i ∉ up) (D : DidLift Z base w w' x h N T nx' pv' rs up vr vl' i) : LAt Z base w' x h N T nx' pv' rs (up ++ [i]) vr vl' := by
  have hm : ∀ j, j < rs.length → N j ∈ h :: nodes N T rs := fun j hj => List.mem_cons_of_mem _ (nid_call hj)
  refine ⟨D.x0, D.x1, D.x2, D.x3, D.links, fun j hj => ?_, fun j hj hd => D.keep _ _ _ (L.ret j hj hd) (by omega) (List.mem_cons_of_mem _ (nid_ret hd)) (fun e => by omega), ownsRow_kept2 L.rows D.rows, D.lifted, D.dance, ⟨?_, fun j hj => ?_, L.ups.2.2⟩, L.inj, L.apart, L.ownr, D.ownl, L.zs, D.hz⟩
  · obtain ⟨g1, g2, g3, g4, g5⟩ := L.row j hj
    refine ⟨D.keep _ _ _ g1 (by omega) (hm j hj) (fun e => by omega), D.keep _ _ _ g2 (by omega) (hm j hj) (fun e => by omega), D.keep _ _ _ g3 (by omega) (hm j hj) (fun e => by omega), D.keep _ _ _ g4 (by omega) (hm j hj) (fun e => by omega), ?_⟩
    by_cases hji : j = i
    · subst hji
      have : (up ++ [j]).contains j = true := by simp
      rw [this]; exact D.n7
    · have : (up ++ [i]).contains j = up.contains j := by rw [Bool.eq_iff_iff]; simp [hji]
      rw [this]
      exact D.keep _ _ _ g5 (by omega) (hm j hj) (fun e => hji (L.inj j i hj hi e.1))
  · rw [List.nodup_append]
    exact ⟨L.ups.1, by simp, fun a ha b hb => by rw [List.mem_singleton] at hb; subst hb; rintro rfl; exact hu ha⟩
  · rcases List.mem_append.1 hj with hj | hj
    · exact L.ups.2.1 j hj
    · rw [List.mem_singleton] at hj; subst hj; exact hi
end Go.Proofs.Ytjomjlodmelnbaa

/- Layer 16: Lift, walked. No condition but that the list lies there. -/
namespace Go.Proofs.Ytjomjlodmelnbaa
open Go.RowKit Go.Sort
attribute [local go_sem] Oper.semAt_some

set_option maxRecDepth 100000 in
theorem liftArg_c {Z : Nat → Prop} {base : Nat} {w : World} {x : Nat} {rs : List ERow} {up : List Nat} (H : ListAt Z base w x rs up) (i : Int) (hi : i < 0 ∨ (rs.length : Int) ≤ i) :
    Calls Try.prog 12 #[Pt x, .int .i64 i] w fun e w' => e = .returned (.int .i64 2) ∧ Fr w w' := by
  obtain ⟨h, N, T, nx, pv, vr, vl, L⟩ := H
  have HA := Lib.hid (atNo_c L i hi)
  clear L hi
  go_enter Try.func12, Try.ntmps12
  go_wp2_with fail
  refine HA.out.mono ?_
  rintro e w1 ⟨rfl, hf⟩
  go_wp2_with fail
  go_ret
  exact ⟨rfl, hf⟩
set_option maxRecDepth 100000 in
theorem liftThere_c {Z : Nat → Prop} {base : Nat} {w : World} {x : Nat} {rs : List ERow} {up : List Nat} (H : ListAt Z base w x rs up) (i : Nat) (hi : i < rs.length) (hu : i ∈ up) :
    Calls Try.prog 12 #[Pt x, .int .i64 i] w fun e w' => e = .returned (.int .i64 8) ∧ Fr w w' := by
  obtain ⟨h, N, T, nx, pv, vr, vl, L⟩ := H
  have HA := Lib.hid (atYes_c L i hi)
  have c7 := (L.row i hi).2.2.2.2.1
  have l7 := (L.row i hi).2.2.2.2.lt
  rw [show up.contains i = true by simpa using hu] at c7
  clear L hi hu
  go_enter Try.func12, Try.ntmps12
  go_wp2_with fail
  refine HA.out.mono ?_
  rintro e w1 ⟨rfl, hf⟩
  have c7 := hf.keep c7
  have l7 := Nat.lt_of_lt_of_le l7 hf.size
  go_wp2_with fail
  go_ret
  exact ⟨rfl, hf⟩
/-- What Lift does to a list. -/
def LiftP (Z : Nat → Prop) (base : Nat) (w : World) (x : Nat) (rs : List ERow) (up : List Nat) (e : Ending) (w' : World) : Prop := e = .returned (.int .i64 0) ∧ ListAt Z base w' x rs up ∧ Chg Z w w'
set_option maxRecDepth 100000 in
set_option maxHeartbeats 8000000 in
theorem lift_c {Z : Nat → Prop} {base : Nat} {w : World} {x : Nat} {rs : List ERow} {up : List Nat} (H : ListAt Z base w x rs up) (hZ : ∀ k, w.heap.size ≤ k → Z k) (hb : base ≤ w.heap.size) (i : Nat) (hi : i < rs.length) (hu : i ∉ up) :
    Calls Try.prog 12 #[Pt x, .int .i64 i] w (LiftP Z base w x rs (up ++ [i])) := by
  obtain ⟨h, N, T, nx, pv, vr, vl, L⟩ := H
  have HA := Lib.hid (atYes_c L i hi)
  have hnd := (List.nodup_cons.1 L.dance.nodup).2
  have hleft := call_left hnd L.inj L.ups.2.1 hi hu
  have hm := L.dance.mem hleft
  have hne := (L.dance.adj hleft).ne (L.dance.leftNodup _)
  have D1 := L.dance.out hleft
  have hNi : N i ∈ h :: nodes N T rs := List.mem_cons_of_mem _ (nid_call hi)
  have hlf := leftOf_snoc hi hu
  have hrm := rems_snoc N T rs up i
  have hres := fun (w' : World) (nx' pv' : Nat → Nat) (vl' : Value) => LAt.lift (w' := w') (nx' := nx') (pv' := pv') (vl' := vl') L hi hu
  have hret := fun hd => ret_left (T := T) hnd L.ups.2.1 hi hd hu
  obtain ⟨aL, cL, hvl, hcL⟩ := lifted_slice L.lifted
  subst hvl
  have hupn : up.length ≤ rs.length := nodup_len_le L.ups.1 L.ups.2.1
  have hn4 := L.ups.2.2
  have HL := Lib.hid L
  have HM := Lib.hid hm
  have HNE := Lib.hid hne
  have HD1 := Lib.hid D1
  have HLF := Lib.hid hlf
  have HRM := Lib.hid hrm
  have HRES := Lib.hid hres
  have HRET := Lib.hid hret
  have HND := Lib.hid hnd
  have HZ := Lib.hid hZ
  have HU := Lib.hid hu
  have HNI := Lib.hid hNi
  have hux : up.contains i = false := by simpa using hu
  clear L hm hne D1 hlf hrm hres hret hnd hZ hu hNi hleft
  go_enter Try.func12, Try.ntmps12
  go_wp2_with fail
  refine HA.out.mono ?_
  rintro e w1 ⟨rfl, hf1⟩
  have L1 := HL.out.fr hf1
  have r7 := (L1.row i hi).2.2.2.2
  rw [hux] at r7
  have c7 := r7.1
  have l7 := r7.lt
  have HL1 := Lib.hid L1
  clear L1 r7 hux HA
  go_wp2_with fail
  refine (out_c (N i) (pv (N i)) (nx (N i)) _ _ w1 (HL1.out.links _ HNI.out).1 (HL1.out.links _ HNI.out).2 (HL1.out.links _ HM.out.1).2 (HL1.out.links _ HM.out.2).1 HNE.out.1 HNE.out.2).mono ?_
  rintro e w2 ⟨rfl, hR1⟩
  have hLK := links_wr2 (u := nx (N i)) (v := pv (N i)) HL1.out.links hR1
  have hx : ∀ b, b ∈ h :: nodes N T rs → b ≠ x := fun b hb => by
    rcases List.mem_cons.1 hb with rfl | hb
    · exact fun e => HL.out.apart.1 e.symm
    · exact HL.out.apart.2 b hb
  have kp2 : ∀ {b o z}, Cel w1 b o z → 2 ≤ o → Cel w2 b o z := fun {b o z} hc ho => hR1.keep _ _ _ hc (fun e => by omega) (fun e => by omega)
  have kx2 : ∀ {o z}, Cel w1 x o z → Cel w2 x o z := fun {o z} hc => hR1.keep _ _ _ hc (fun e => hx _ HM.out.1 e.1.symm) (fun e => hx _ HM.out.2 e.1.symm)
  have hch2 : Chg Z w w2 := (hf1.chg (S := Z)).trans (hR1.chg.mono fun b _ hb => by
    rcases hb with rfl | rfl
    · exact HL.out.zs.2 _ HM.out.1
    · exact HL.out.zs.2 _ HM.out.2)
  have hz2 : Fre w2 h := hR1.fre h (HL.out.hz.fr hf1 (HL.out.links h List.mem_cons_self).1.lt)
  have HZ2 := Lib.hid hz2
  have hrow2 : ∀ g, g < w.heap.size → g ∉ h :: nodes N T rs → g ≠ x → w2.heap[g]? = w.heap[g]? := fun g hg hn _ => (hR1.chg.block g (Nat.lt_of_lt_of_le hg hf1.size) (fun e => by
    rcases e with rfl | rfl
    · exact hn HM.out.1
    · exact hn HM.out.2)).trans (hf1.block hg)
  have q5 := kp2 (HL1.out.row i hi).2.2.1 (by omega)
  have c5 := q5.1
  have l5 := q5.lt
  have hsz2 : w.heap.size ≤ w2.heap.size := hch2.size
  have HLK := Lib.hid hLK
  have HKP := Lib.hid (⟨@kp2, @kx2⟩ : _ ∧ _)
  have HROW := Lib.hid hrow2
  have HX := Lib.hid hx
  clear hz2 hLK kp2 kx2 hrow2 hx hR1 q5 c7 l7
  unfold retV at c5
  cases hd : rs[i]?.any ERow.done
  · have e5 : w2.cell? ⟨N i, 5, none⟩ = some (.pointer none) := by rw [hd] at c5; exact c5
    have hdn : Dance (upd nx (pv (N i)) (nx (N i))) (upd pv (nx (N i)) (pv (N i))) h (nodes N T rs) (rems N T rs (up ++ [i])) := by rw [HRM.out, hd]; simpa using HD1.out
    have hlf : leftOf rs up = leftOf rs (up ++ [i]) := by have := HLF.out; rw [hd] at this; simpa using this.symm
    have HDN := Lib.hid hdn
    have HLF2 := Lib.hid hlf
    have hsz := hsz2
    clear c5 hdn hlf hd
    have hx3 : Cel w2 x 3 (.int .i64 (leftOf rs (up ++ [i]))) := by rw [← HLF2.out]; exact HKP.out.2 HL1.out.x3
    have HX3 := Lib.hid hx3
    clear hx3
    have s7 := HKP.out.1 (HL1.out.row i hi).2.2.2.2 (by omega)
    have s2 := HKP.out.2 HL1.out.x2
    have c7 := s7.1
    have f7 := s7.2
    have l7 := s7.lt
    have c2 := s2.1
    have f2 := s2.2
    have lx := s2.lt
    have t7 := s7
    have t2 := s2
    have nx7 : N i ≠ x := HX.out _ HNI.out
    have hl0 : ∀ g, (Value.slice aL up.length cL).ownBlock = some g → g < w.heap.size := fun g hg => (World.ownsRow.lt HL.out.lifted g hg).2
    have hown : (((w2).setCell ⟨N i, 7, none⟩ (.bool true)).alloc (.cells #[.int .i64 i] 3)).ownsRow base 3 1 (.slice aL up.length cL) up.length (up.map intV) := by
      refine ownsRow_kept2 HL.out.lifted fun g hg => ?_
      have h1 := hl0 g hg
      have h2 := HL.out.ownl g hg
      have e1 : (((w2).setCell ⟨N i, 7, none⟩ (.bool true)).alloc (.cells #[.int .i64 i] 3)).heap[g]? = ((w2).setCell ⟨N i, 7, none⟩ (.bool true)).heap[g]? := (((Fr.refl _).alloc _).block (by have := hsz; simp; omega))
      rw [e1]
      exact (Below.heap_setCell _ _ _ g (fun e => h2.2.2.1 (by simp only at e; rw [e]; exact HNI.out))).trans (HROW.out g h1 h2.2.2.1 h2.2.1)
    have hy : (((w2).setCell ⟨N i, 7, none⟩ (.bool true)).alloc (.cells #[.int .i64 i] 3)).cell? ⟨w2.heap.size, 0, none⟩ = some (intV i) := (BoxAt.new' ((w2).setCell ⟨N i, 7, none⟩ (.bool true)) #[.int .i64 i] 3 _ (by simp)).at 0 rfl
    have hbs : base ≤ (((w2).setCell ⟨N i, 7, none⟩ (.bool true)).alloc (.cells #[.int .i64 i] 3)).heap.size := by have := hsz; simp; omega
    go_wp2_with (at_builtin; refine wpList_appendInt (base := base) rfl (.tmp 50) (.tmp 52) rfl (.slice aL up.length cL) up rfl hown hbs w2.heap.size 1 i rfl hy (by omega) ?_)
    intro va vn vc w5 hO5 hch5 hat5
    have hszw : (((w2).setCell ⟨N i, 7, none⟩ (.bool true)).alloc (.cells #[.int .i64 i] 3)).heap.size = w2.heap.size + 1 := by simp
    have kk5 : ∀ {b o z}, Cel (w2) b o z → (Value.slice aL up.length cL).ownBlock ≠ some b → ¬ (b = N i ∧ o = 7) → Cel w5 b o z := fun {b o z} hc hn h7 => ((hc.keepSet (not_and_or' h7) _).al _).chg hch5 hn
    have hlx : (Value.slice aL up.length cL).ownBlock ≠ some x := fun e => (HL.out.ownl x e).2.1 rfl
    have hln : ∀ b, b ∈ h :: nodes N T rs → (Value.slice aL up.length cL).ownBlock ≠ some b := fun b hb e => (HL.out.ownl b e).2.2.1 hb
    have u2 := kk5 t2 hlx (fun e => nx7 e.1.symm)
    have c25 := u2.1
    have f25 := u2.2
    have lx5 := u2.lt
    obtain ⟨W6, hW6⟩ : ∃ W6, W6 = w5.setCell ⟨x, 2, none⟩ (.slice va vn vc) := ⟨_, rfl⟩
    have k6 : ∀ {b o z}, Cel (w2) b o z → (Value.slice aL up.length cL).ownBlock ≠ some b → ¬ (b = N i ∧ o = 7) → ¬ (b = x ∧ o = 2) → Cel W6 b o z := fun {b o z} hc hn h7 h2 => by rw [hW6]; exact (kk5 hc hn h7).keepSet (not_and_or' h2) _
    have hO6 : w5.ownsRow base 3 1 (.slice va vn vc) (up ++ [i]).length ((up ++ [i]).map intV) := by first | exact hO5 | simpa using hO5
    have hnew : ∀ g, (Value.slice va vn vc).ownBlock = some g → (Value.slice aL up.length cL).ownBlock = some g ∨ w.heap.size ≤ g := fun g hg => (hat5 g hg).imp id (fun e => by have := hsz; omega)
    have hD : DidLift Z base w W6 x h N T (upd nx (pv (N i)) (nx (N i))) (upd pv (nx (N i)) (pv (N i))) rs up vr (.slice va vn vc) i := by
      refine ⟨fun b hb => ⟨k6 (HLK.out b hb).1 (hln b hb) (fun e => by omega) (fun e => by omega), k6 (HLK.out b hb).2 (hln b hb) (fun e => by omega) (fun e => by omega)⟩, HDN.out, fun b o z hc ho hb h7 => k6 ((fun {b o z} (hc : Cel w b o z) (ho : 2 ≤ o) (_ : b ∈ h :: nodes N T rs) => HKP.out.1 (hc.fr hf1) ho) hc ho hb) (hln b hb) h7 (fun e => HX.out b hb e.1), k6 (HKP.out.2 HL1.out.x0) hlx (fun e => nx7 e.1.symm) (fun e => by omega), k6 (HKP.out.2 HL1.out.x1) hlx (fun e => nx7 e.1.symm) (fun e => by omega), by rw [hW6]; exact u2.set _, k6 HX3.out hlx (fun e => nx7 e.1.symm) (fun e => by omega), ?_, fun g hg => ?_, ?_, fun g hg => ?_, ?_⟩
      · rw [hW6]
        exact ((((t7.set (.bool true)).al _).chg hch5 (hln _ HNI.out)).keepSet (.inl nx7) _)
      · have hg' := HL.out.ownr g hg
        have hgl := (World.ownsRow.lt HL.out.rows g hg).2
        rw [hW6]
        refine (Below.heap_setCell _ _ _ g (fun e => hg'.2.1 (by simpa using e))).trans ?_
        refine (hch5.block g (by have := hsz; omega) (fun e => (HL.out.ownl g e).2.2.2 hg)).trans ?_
        refine (((Fr.refl _).alloc _).block (by have := hsz; simp; omega)).trans ?_
        refine (Below.heap_setCell _ _ _ g (fun e => hg'.2.2 (by simp only at e; rw [e]; exact HNI.out))).trans ?_
        exact HROW.out g hgl hg'.2.2 hg'.2.1
      · rw [hW6]
        refine ownsRow_kept2 hO6 fun g hg => Below.heap_setCell _ _ _ g fun e => ?_
        simp only at e
        rcases hnew g hg with h1 | h1
        · exact hlx (by rw [h1, e])
        · have := HL.out.x2.lt; omega
      · rcases hnew g hg with h1 | h1
        · exact HL.out.ownl g h1
        · refine ⟨HZ.out g h1, fun e => by have := HL.out.x2.lt; omega, fun hm => ?_, fun hr => by have := (World.ownsRow.lt HL.out.rows g hr).2; omega⟩
          have := (HL.out.links g hm).1.lt
          omega
      · rw [hW6]
        have hlh := (HL.out.links h List.mem_cons_self).1.lt
        exact ((((HZ2.out).set _ _).fr ((Fr.refl _).alloc _) (by have := hsz; simp; omega)).chg hch5 (by have := hsz; simp; omega) (hln h List.mem_cons_self)).set _ _
    have hCh : Chg Z w W6 := by
      rw [hW6]
      refine Chg.set ?_ (p := ⟨x, 2, none⟩) (.inr HL.out.zs.1) _
      refine Chg.trans ?_ (hch5.mono fun b _ e => (HL.out.ownl b e).1)
      exact ((hch2).set (p := ⟨N i, 7, none⟩) (.inr (HL.out.zs.2 _ HNI.out)) _).alloc _
    have hfin : ListAt Z base W6 x rs (up ++ [i]) := ⟨h, N, T, _, _, vr, _, HRES.out W6 _ _ _ hD⟩
    have HFIN := Lib.hid (⟨hfin, hCh⟩ : _ ∧ _)
    have HW6 := Lib.hid hW6
    clear hfin hCh hD hW6 k6 kk5 hO5 hO6 hch5 hat5 hnew hlx hln u2 t7 t2 hy hbs hown
    go_wp2_with fail
    rw [← HW6.out]
    go_ret
    exact ⟨rfl, HFIN.out.1, HFIN.out.2⟩
  · have e5 : w2.cell? ⟨N i, 5, none⟩ = some (Pt (T i)) := by rw [hd] at c5; exact c5
    have hret := HRET.out hd
    have hm2 := HD1.out.mem hret
    have hne2 := (HD1.out.adj hret).ne (HD1.out.leftNodup _)
    have D2 := HD1.out.out hret
    have hTi : T i ∈ h :: nodes N T rs := List.mem_cons_of_mem _ (nid_ret hd)
    have hrm2 : rems N T rs (up ++ [i]) = rems N T rs up ++ [N i] ++ [T i] := by rw [HRM.out, hd]; rfl
    have hlf2 : leftOf rs (up ++ [i]) + 1 = leftOf rs up := by have := HLF.out; rw [hd] at this; simpa using this
    have hlfn : leftOf rs up ≤ 7036874417600 := Nat.le_trans (by unfold leftOf; exact Nat.le_trans (List.length_filter_le _ _) (by simp)) hn4
    have hNT : N i ≠ T i := fun e => (N_ne_T HND.out hi hd e)
    obtain ⟨nx1, hnx1⟩ : ∃ f, f = upd nx (pv (N i)) (nx (N i)) := ⟨_, rfl⟩
    obtain ⟨pv1, hpv1⟩ : ∃ f, f = upd pv (nx (N i)) (pv (N i)) := ⟨_, rfl⟩
    have hLK := HLK.out
    rw [← hnx1, ← hpv1] at hm2 hne2 D2 hLK
    rw [← hrm2] at D2
    have HD2 := Lib.hid D2
    have HM2 := Lib.hid hm2
    have HNE2 := Lib.hid hne2
    have HTI := Lib.hid hTi
    have HLK2 := Lib.hid hLK
    obtain ⟨lf, hLF⟩ : ∃ lf, lf = leftOf rs up := ⟨_, rfl⟩
    have hx3 : Cel w2 x 3 (.int .i64 lf) := by rw [hLF]; exact HKP.out.2 HL1.out.x3
    have hlf0 : (lf : Int) - 1 = (leftOf rs (up ++ [i]) : Nat) := by omega
    have hlf1 : 1 ≤ lf := by omega
    have hlf4 : lf ≤ 7036874417600 := by omega
    have HLF0 := Lib.hid hlf0
    have HX3 := Lib.hid hx3
    clear hret hm2 hne2 D2 hTi hrm2 hlf2 hlfn hLK hnx1 hpv1 hx3 hlf0 hLF HRET HLK HD1 c5 hd HLF
    go_wp2_with fail
    refine (out_c (T i) (pv1 (T i)) (nx1 (T i)) _ _ w2 (HLK2.out _ HTI.out).1 (HLK2.out _ HTI.out).2 (HLK2.out _ HM2.out.1).2 (HLK2.out _ HM2.out.2).1 HNE2.out.1 HNE2.out.2).mono ?_
    rintro e w3 ⟨rfl, hR2⟩
    have hLK3 := links_wr2 (u := nx1 (T i)) (v := pv1 (T i)) HLK2.out hR2
    have kp3 : ∀ {b o z}, Cel w2 b o z → 2 ≤ o → Cel w3 b o z := fun {b o z} hc ho => hR2.keep _ _ _ hc (fun e => by omega) (fun e => by omega)
    have kx3 : ∀ {o z}, Cel w2 x o z → Cel w3 x o z := fun {o z} hc => hR2.keep _ _ _ hc (fun e => HX.out _ HM2.out.1 e.1.symm) (fun e => HX.out _ HM2.out.2 e.1.symm)
    have hch3 : Chg Z w w3 := hch2.trans (hR2.chg.mono fun b _ hb => by
      rcases hb with rfl | rfl
      · exact HL.out.zs.2 _ HM2.out.1
      · exact HL.out.zs.2 _ HM2.out.2)
    have hz3 : Fre w3 h := hR2.fre h HZ2.out
    have HZ3 := Lib.hid hz3
    have hrow3 : ∀ g, g < w.heap.size → g ∉ h :: nodes N T rs → g ≠ x → w3.heap[g]? = w.heap[g]? := fun g hg hn hnx => (hR2.chg.block g (Nat.lt_of_lt_of_le hg hsz2) (fun e => by
      rcases e with rfl | rfl
      · exact hn HM2.out.1
      · exact hn HM2.out.2)).trans (HROW.out g hg hn hnx)
    have s7 := kp3 (HKP.out.1 (HL1.out.row i hi).2.2.2.2 (by omega)) (by omega)
    have s2 := kx3 (HKP.out.2 HL1.out.x2)
    have s3 := kx3 HX3.out
    have s0 := kx3 (HKP.out.2 HL1.out.x0)
    have s1 := kx3 (HKP.out.2 HL1.out.x1)
    have c7 := s7.1
    have f7 := s7.2
    have l7 := s7.lt
    have c2 := s2.1
    have f2 := s2.2
    have lx := s2.lt
    have c3 := s3.1
    have f3 := s3.2
    have hxn : ∀ b, b ∈ h :: nodes N T rs → b ≠ x := HX.out
    have hLK4 : ∀ b, b ∈ h :: nodes N T rs → Cel (w3.setCell ⟨x, 3, none⟩ (.int .i64 ((lf : Int) - 1))) b 0 (Pt (upd pv1 (nx1 (T i)) (pv1 (T i)) b)) ∧ Cel (w3.setCell ⟨x, 3, none⟩ (.int .i64 ((lf : Int) - 1))) b 1 (Pt (upd nx1 (pv1 (T i)) (nx1 (T i)) b)) := fun b hb => ⟨(hLK3 b hb).1.keepSet (.inl (hxn b hb)) _, (hLK3 b hb).2.keepSet (.inl (hxn b hb)) _⟩
    have hrow4 : ∀ g, g < w.heap.size → g ∉ h :: nodes N T rs → g ≠ x → (w3.setCell ⟨x, 3, none⟩ (.int .i64 ((lf : Int) - 1))).heap[g]? = w.heap[g]? := fun g hg hn hnx => (Below.heap_setCell _ _ _ g (fun e => hnx (by simpa using e))).trans (hrow3 g hg hn hnx)
    have hch4 : Chg Z w (w3.setCell ⟨x, 3, none⟩ (.int .i64 ((lf : Int) - 1))) := hch3.set (p := ⟨x, 3, none⟩) (.inr HL.out.zs.1) _
    have hsz : w.heap.size ≤ (w3.setCell ⟨x, 3, none⟩ (.int .i64 ((lf : Int) - 1))).heap.size := hch4.size
    have hsz3 : w.heap.size ≤ w3.heap.size := hch3.size
    have kp4 : ∀ {b o z}, Cel w b o z → 2 ≤ o → b ∈ h :: nodes N T rs → Cel (w3.setCell ⟨x, 3, none⟩ (.int .i64 ((lf : Int) - 1))) b o z := fun {b o z} hc ho hb => (kp3 (HKP.out.1 (hc.fr hf1) ho) ho).keepSet (.inl (hxn b hb)) _
    have s30 : Cel (w3.setCell ⟨x, 3, none⟩ (.int .i64 ((lf : Int) - 1))) x 3 (.int .i64 (leftOf rs (up ++ [i]) : Nat)) := by rw [← HLF0.out]; exact s3.set _
    have s00 := s0.keepSet (c := x) (p := 3) (.inr (by omega)) (.int .i64 ((lf : Int) - 1))
    have s10 := s1.keepSet (c := x) (p := 3) (.inr (by omega)) (.int .i64 ((lf : Int) - 1))
    have HLK4 := Lib.hid hLK4
    have HROW4 := Lib.hid hrow4
    have HS4 := Lib.hid (⟨s30, s00, s10, s7, s2⟩ : _ ∧ _ ∧ _ ∧ _ ∧ _)
    have HKP4 := Lib.hid (⟨@kp4, trivial⟩ : _ ∧ True)
    have HCH4 := Lib.hid hch4
    clear hz3 hLK3 hLK4 hrow3 hrow4 hch3 hch4 kp3 kx3 kp4 hR2 s30 s00 s10 s0 s1 s3 s7 s2 hxn
    have t7 := HS4.out.2.2.2.1.keepSet (c := x) (p := 3) (.inl (HX.out _ HNI.out)) (.int .i64 ((lf : Int) - 1))
    have t2 := HS4.out.2.2.2.2.keepSet (c := x) (p := 3) (.inr (by omega)) (.int .i64 ((lf : Int) - 1))
    have nx7 : N i ≠ x := HX.out _ HNI.out
    have hl0 : ∀ g, (Value.slice aL up.length cL).ownBlock = some g → g < w.heap.size := fun g hg => (World.ownsRow.lt HL.out.lifted g hg).2
    have hown : (((w3.setCell ⟨x, 3, none⟩ (.int .i64 ((lf : Int) - 1))).setCell ⟨N i, 7, none⟩ (.bool true)).alloc (.cells #[.int .i64 i] 3)).ownsRow base 3 1 (.slice aL up.length cL) up.length (up.map intV) := by
      refine ownsRow_kept2 HL.out.lifted fun g hg => ?_
      have h1 := hl0 g hg
      have h2 := HL.out.ownl g hg
      have e1 : (((w3.setCell ⟨x, 3, none⟩ (.int .i64 ((lf : Int) - 1))).setCell ⟨N i, 7, none⟩ (.bool true)).alloc (.cells #[.int .i64 i] 3)).heap[g]? = ((w3.setCell ⟨x, 3, none⟩ (.int .i64 ((lf : Int) - 1))).setCell ⟨N i, 7, none⟩ (.bool true)).heap[g]? := (((Fr.refl _).alloc _).block (by have := hsz; simp; omega))
      rw [e1]
      exact (Below.heap_setCell _ _ _ g (fun e => h2.2.2.1 (by simp only at e; rw [e]; exact HNI.out))).trans (HROW4.out g h1 h2.2.2.1 h2.2.1)
    have hy : (((w3.setCell ⟨x, 3, none⟩ (.int .i64 ((lf : Int) - 1))).setCell ⟨N i, 7, none⟩ (.bool true)).alloc (.cells #[.int .i64 i] 3)).cell? ⟨w3.heap.size, 0, none⟩ = some (intV i) := (BoxAt.new' ((w3.setCell ⟨x, 3, none⟩ (.int .i64 ((lf : Int) - 1))).setCell ⟨N i, 7, none⟩ (.bool true)) #[.int .i64 i] 3 _ (by simp)).at 0 rfl
    have hbs : base ≤ (((w3.setCell ⟨x, 3, none⟩ (.int .i64 ((lf : Int) - 1))).setCell ⟨N i, 7, none⟩ (.bool true)).alloc (.cells #[.int .i64 i] 3)).heap.size := by have := hsz; simp; omega
    go_wp2_with (at_builtin; refine wpList_appendInt (base := base) rfl (.tmp 50) (.tmp 52) rfl (.slice aL up.length cL) up rfl hown hbs w3.heap.size 1 i rfl hy (by omega) ?_)
    intro va vn vc w5 hO5 hch5 hat5
    have hszw : (((w3.setCell ⟨x, 3, none⟩ (.int .i64 ((lf : Int) - 1))).setCell ⟨N i, 7, none⟩ (.bool true)).alloc (.cells #[.int .i64 i] 3)).heap.size = w3.heap.size + 1 := by simp
    have kk5 : ∀ {b o z}, Cel (w3.setCell ⟨x, 3, none⟩ (.int .i64 ((lf : Int) - 1))) b o z → (Value.slice aL up.length cL).ownBlock ≠ some b → ¬ (b = N i ∧ o = 7) → Cel w5 b o z := fun {b o z} hc hn h7 => ((hc.keepSet (not_and_or' h7) _).al _).chg hch5 hn
    have hlx : (Value.slice aL up.length cL).ownBlock ≠ some x := fun e => (HL.out.ownl x e).2.1 rfl
    have hln : ∀ b, b ∈ h :: nodes N T rs → (Value.slice aL up.length cL).ownBlock ≠ some b := fun b hb e => (HL.out.ownl b e).2.2.1 hb
    have u2 := kk5 t2 hlx (fun e => nx7 e.1.symm)
    have c25 := u2.1
    have f25 := u2.2
    have lx5 := u2.lt
    obtain ⟨W6, hW6⟩ : ∃ W6, W6 = w5.setCell ⟨x, 2, none⟩ (.slice va vn vc) := ⟨_, rfl⟩
    have k6 : ∀ {b o z}, Cel (w3.setCell ⟨x, 3, none⟩ (.int .i64 ((lf : Int) - 1))) b o z → (Value.slice aL up.length cL).ownBlock ≠ some b → ¬ (b = N i ∧ o = 7) → ¬ (b = x ∧ o = 2) → Cel W6 b o z := fun {b o z} hc hn h7 h2 => by rw [hW6]; exact (kk5 hc hn h7).keepSet (not_and_or' h2) _
    have hO6 : w5.ownsRow base 3 1 (.slice va vn vc) (up ++ [i]).length ((up ++ [i]).map intV) := by first | exact hO5 | simpa using hO5
    have hnew : ∀ g, (Value.slice va vn vc).ownBlock = some g → (Value.slice aL up.length cL).ownBlock = some g ∨ w.heap.size ≤ g := fun g hg => (hat5 g hg).imp id (fun e => by have := hsz; omega)
    have hD : DidLift Z base w W6 x h N T (upd nx1 (pv1 (T i)) (nx1 (T i))) (upd pv1 (nx1 (T i)) (pv1 (T i))) rs up vr (.slice va vn vc) i := by
      refine ⟨fun b hb => ⟨k6 (HLK4.out b hb).1 (hln b hb) (fun e => by omega) (fun e => by omega), k6 (HLK4.out b hb).2 (hln b hb) (fun e => by omega) (fun e => by omega)⟩, HD2.out, fun b o z hc ho hb h7 => k6 (HKP4.out.1 hc ho hb) (hln b hb) h7 (fun e => HX.out b hb e.1), k6 HS4.out.2.1 hlx (fun e => nx7 e.1.symm) (fun e => by omega), k6 HS4.out.2.2.1 hlx (fun e => nx7 e.1.symm) (fun e => by omega), by rw [hW6]; exact u2.set _, k6 HS4.out.1 hlx (fun e => nx7 e.1.symm) (fun e => by omega), ?_, fun g hg => ?_, ?_, fun g hg => ?_, ?_⟩
      · rw [hW6]
        exact ((((t7.set (.bool true)).al _).chg hch5 (hln _ HNI.out)).keepSet (.inl nx7) _)
      · have hg' := HL.out.ownr g hg
        have hgl := (World.ownsRow.lt HL.out.rows g hg).2
        rw [hW6]
        refine (Below.heap_setCell _ _ _ g (fun e => hg'.2.1 (by simpa using e))).trans ?_
        refine (hch5.block g (by have := hsz; omega) (fun e => (HL.out.ownl g e).2.2.2 hg)).trans ?_
        refine (((Fr.refl _).alloc _).block (by have := hsz; simp; omega)).trans ?_
        refine (Below.heap_setCell _ _ _ g (fun e => hg'.2.2 (by simp only at e; rw [e]; exact HNI.out))).trans ?_
        exact HROW4.out g hgl hg'.2.2 hg'.2.1
      · rw [hW6]
        refine ownsRow_kept2 hO6 fun g hg => Below.heap_setCell _ _ _ g fun e => ?_
        simp only at e
        rcases hnew g hg with h1 | h1
        · exact hlx (by rw [h1, e])
        · have := HL.out.x2.lt; omega
      · rcases hnew g hg with h1 | h1
        · exact HL.out.ownl g h1
        · refine ⟨HZ.out g h1, fun e => by have := HL.out.x2.lt; omega, fun hm => ?_, fun hr => by have := (World.ownsRow.lt HL.out.rows g hr).2; omega⟩
          have := (HL.out.links g hm).1.lt
          omega
      · rw [hW6]
        have hlh := (HL.out.links h List.mem_cons_self).1.lt
        exact ((((HZ3.out.set _ _).set _ _).fr ((Fr.refl _).alloc _) (by have := hsz; simp; omega)).chg hch5 (by have := hsz; simp; omega) (hln h List.mem_cons_self)).set _ _
    have hCh : Chg Z w W6 := by
      rw [hW6]
      refine Chg.set ?_ (p := ⟨x, 2, none⟩) (.inr HL.out.zs.1) _
      refine Chg.trans ?_ (hch5.mono fun b _ e => (HL.out.ownl b e).1)
      exact ((HCH4.out).set (p := ⟨N i, 7, none⟩) (.inr (HL.out.zs.2 _ HNI.out)) _).alloc _
    have hfin : ListAt Z base W6 x rs (up ++ [i]) := ⟨h, N, T, _, _, vr, _, HRES.out W6 _ _ _ hD⟩
    have HFIN := Lib.hid (⟨hfin, hCh⟩ : _ ∧ _)
    have HW6 := Lib.hid hW6
    clear hfin hCh hD hW6 k6 kk5 hO5 hO6 hch5 hat5 hnew hlx hln u2 t7 t2 hy hbs hown
    go_wp2_with fail
    rw [← HW6.out]
    go_ret
    exact ⟨rfl, HFIN.out.1, HFIN.out.2⟩
end Go.Proofs.Ytjomjlodmelnbaa

/- Layer 16: Unlift. No condition but that the list lies there. -/
namespace Go.Proofs.Ytjomjlodmelnbaa
open Go.RowKit Go.Sort
attribute [local go_sem] Oper.semAt_some

theorem Dance.backMem {nx pv : Nat → Nat} {h : Nat} {all rem : List Nat} {n : Nat} (D : Dance nx pv h all (rem ++ [n])) : (pv n ∈ h :: all ∧ nx n ∈ h :: all) ∧ pv n ≠ n ∧ nx n ≠ n := by
  obtain ⟨hn, ha⟩ := D.hist rem n [] rfl
  have hm := ha.mem
  have hs : ∀ b, b ∈ h :: left all rem → b ∈ h :: all := fun b hb => by
    rcases List.mem_cons.1 hb with h1 | h1
    · exact List.mem_cons.2 (.inl h1)
    · exact List.mem_cons_of_mem _ (mem_left.1 h1).1
  exact ⟨⟨hs _ hm.1, hs _ hm.2⟩, ha.ne (D.leftNodup _)⟩
/-- A row's beginning. -/
theorem ownsRow_first {w : World} {base g cap n : Nat} {e : TypeId} {xs ys : List Value} (h : w.ownsRow base e 1 (.slice (some ⟨g, 0, none⟩) (xs.length + n) cap) (xs.length + n) (xs ++ ys)) : w.ownsRow base e 1 (.slice (some ⟨g, 0, none⟩) xs.length cap) xs.length xs := by
  obtain ⟨h1, h2⟩ := h
  refine ⟨by omega, .inr ?_⟩
  rcases h2 with ⟨h2, _⟩ | ⟨g', cap', cur, h2, g1, g2, g3, g4, g5, g6⟩
  · cases h2
  · cases h2
    refine ⟨g, cap, cur, rfl, g1, g2, by omega, g4, g5, ?_⟩
    have : (cur.toList.take ((xs.length + n) * 1)).take (xs.length * 1) = (xs ++ ys).take (xs.length * 1) := by rw [g6]
    rw [List.take_take, Nat.min_eq_left (by omega)] at this
    rw [this, Nat.mul_one, List.take_left]
/-- What a walk through Unlift has done. -/
structure DidUn (Z : Nat → Prop) (base : Nat) (w w' : World) (x h : Nat) (N T nx pv : Nat → Nat) (rs : List ERow) (up : List Nat) (vr vl : Value) (i : Nat) : Prop where
  links : ∀ b, b ∈ h :: nodes N T rs → Cel w' b 0 (Pt (pv b)) ∧ Cel w' b 1 (Pt (nx b))
  dance : Dance nx pv h (nodes N T rs) (rems N T rs up)
  keep : ∀ b o z, Cel w b o z → 2 ≤ o → b ∈ h :: nodes N T rs → ¬ (b = N i ∧ o = 7) → Cel w' b o z
  x0 : Cel w' x 0 (Pt h)
  x1 : Cel w' x 1 vr
  x2 : Cel w' x 2 vl
  x3 : Cel w' x 3 (.int .i64 (leftOf rs up))
  n7 : Cel w' (N i) 7 (.bool false)
  rows : ∀ g, vr.ownBlock = some g → w'.heap[g]? = w.heap[g]?
  lifted : w'.ownsRow base 3 1 vl up.length (up.map intV)
  ownl : ∀ g, vl.ownBlock = some g → Z g ∧ g ≠ x ∧ g ∉ h :: nodes N T rs ∧ vr.ownBlock ≠ some g
  hz : Fre w' h
theorem ups_snoc {up : List Nat} {i n : Nat} (h : (up ++ [i]).Nodup ∧ (∀ j ∈ up ++ [i], j < n)) : i < n ∧ i ∉ up ∧ up.Nodup ∧ ∀ j ∈ up, j < n := by
  obtain ⟨h1, h2⟩ := h
  rw [List.nodup_append] at h1
  exact ⟨h2 i (by simp), fun hm => h1.2.2 i hm i (by simp) rfl, h1.1, fun j hj => h2 j (by simp [hj])⟩
theorem LAt.unlift {Z : Nat → Prop} {base : Nat} {w w' : World} {x h : Nat} {N T nx pv nx' pv' : Nat → Nat} {rs : List ERow} {up : List Nat} {vr vl vl' : Value} {i : Nat} (L : LAt Z base w x h N T nx pv rs (up ++ [i]) vr vl) (D : DidUn Z base w w' x h N T nx' pv' rs up vr vl' i) : LAt Z base w' x h N T nx' pv' rs up vr vl' := by
  have hm : ∀ j, j < rs.length → N j ∈ h :: nodes N T rs := fun j hj => List.mem_cons_of_mem _ (nid_call hj)
  obtain ⟨hi, hu, hnd, hlt⟩ := ups_snoc ⟨L.ups.1, L.ups.2.1⟩
  refine ⟨D.x0, D.x1, D.x2, D.x3, D.links, fun j hj => ?_, fun j hj hd => D.keep _ _ _ (L.ret j hj hd) (by omega) (List.mem_cons_of_mem _ (nid_ret hd)) (fun e => by omega), ownsRow_kept2 L.rows D.rows, D.lifted, D.dance, ⟨hnd, hlt, L.ups.2.2⟩, L.inj, L.apart, L.ownr, D.ownl, L.zs, D.hz⟩
  obtain ⟨g1, g2, g3, g4, g5⟩ := L.row j hj
  refine ⟨D.keep _ _ _ g1 (by omega) (hm j hj) (fun e => by omega), D.keep _ _ _ g2 (by omega) (hm j hj) (fun e => by omega), D.keep _ _ _ g3 (by omega) (hm j hj) (fun e => by omega), D.keep _ _ _ g4 (by omega) (hm j hj) (fun e => by omega), ?_⟩
  by_cases hji : j = i
  · subst hji
    have : up.contains j = false := by simpa using hu
    rw [this]; exact D.n7
  · have : up.contains j = (up ++ [i]).contains j := by rw [Bool.eq_iff_iff]; simp [hji]
    rw [this]
    exact D.keep _ _ _ g5 (by omega) (hm j hj) (fun e => hji (L.inj j i hj hi e.1))
/-- A walk through Unlift ahead of its last store. -/
structure UnB (Z : Nat → Prop) (w V : World) (x h : Nat) (N T nx pv : Nat → Nat) (rs : List ERow) (up : List Nat) (vr vl : Value) : Prop where
  links : ∀ b, b ∈ h :: nodes N T rs → Cel V b 0 (Pt (pv b)) ∧ Cel V b 1 (Pt (nx b))
  dance : Dance nx pv h (nodes N T rs) (rems N T rs up)
  keep : ∀ b o z, Cel w b o z → 2 ≤ o → b ∈ h :: nodes N T rs → Cel V b o z
  x0 : Cel V x 0 (Pt h)
  x1 : Cel V x 1 vr
  x2 : Cel V x 2 vl
  x3 : Cel V x 3 (.int .i64 (leftOf rs up))
  row : ∀ g, g < w.heap.size → g ∉ h :: nodes N T rs → g ≠ x → V.heap[g]? = w.heap[g]?
  chg : Chg Z w V
  hz : Fre V h
theorem UnB.fin {Z : Nat → Prop} {base : Nat} {w V : World} {x h : Nat} {N T nx pv nx' pv' : Nat → Nat} {rs : List ERow} {up : List Nat} {vr vl vl' : Value} {i : Nat} (L : LAt Z base w x h N T nx pv rs (up ++ [i]) vr vl) (B : UnB Z w V x h N T nx' pv' rs up vr vl') (hv : ∀ g, vl'.ownBlock = some g → vl.ownBlock = some g) (ho : w.ownsRow base 3 1 vl' up.length (up.map intV)) : ListAt Z base (V.setCell ⟨N i, 7, none⟩ (.bool false)) x rs up ∧ Chg Z w (V.setCell ⟨N i, 7, none⟩ (.bool false)) := by
  obtain ⟨hi, hu, _, _⟩ := ups_snoc ⟨L.ups.1, L.ups.2.1⟩
  have hNi : N i ∈ h :: nodes N T rs := List.mem_cons_of_mem _ (nid_call hi)
  have hx : ∀ b, b ∈ h :: nodes N T rs → b ≠ x := fun b hb => by
    rcases List.mem_cons.1 hb with rfl | hb
    · exact fun e => L.apart.1 e.symm
    · exact L.apart.2 b hb
  have h7 := B.keep _ _ _ (L.row i hi).2.2.2.2 (by omega) hNi
  refine ⟨⟨h, N, T, nx', pv', vr, vl', L.unlift ⟨fun b hb => ⟨(B.links b hb).1.keepSet (.inr (by omega)) _, (B.links b hb).2.keepSet (.inr (by omega)) _⟩, B.dance, fun b o z hc ho hb h7 => (B.keep b o z hc ho hb).keepSet (not_and_or' h7) _, B.x0.keepSet (.inr (by omega)) _, B.x1.keepSet (.inr (by omega)) _, B.x2.keepSet (.inr (by omega)) _, B.x3.keepSet (.inr (by omega)) _, h7.set _, fun g hg => ?_, ?_, fun g hg => L.ownl g (hv g hg), B.hz.set _ _⟩⟩, B.chg.set (p := ⟨N i, 7, none⟩) (.inr (L.zs.2 _ hNi)) _⟩
  · have hg' := L.ownr g hg
    exact (Below.heap_setCell _ _ _ g (fun e => hg'.2.2 (by simp only at e; rw [e]; exact hNi))).trans (B.row g (World.ownsRow.lt L.rows g hg).2 hg'.2.2 hg'.2.1)
  · refine ownsRow_kept2 ho fun g hg => ?_
    have hg' := L.ownl g (hv g hg)
    exact (Below.heap_setCell _ _ _ g (fun e => hg'.2.2.1 (by simp only at e; rw [e]; exact hNi))).trans (B.row g (World.ownsRow.lt ho g hg).2 hg'.2.2.1 hg'.2.1)
set_option maxRecDepth 100000 in
theorem unliftNone_c {Z : Nat → Prop} {base : Nat} {w : World} {x : Nat} {rs : List ERow} (H : ListAt Z base w x rs []) :
    Calls Try.prog 26 #[Pt x] w fun e w' => e = .returned (.tuple #[.int .i64 0, .int .i64 11]) ∧ Fr w w' := by
  obtain ⟨h, N, T, nx, pv, vr, vl, L⟩ := H
  have HI := Lib.hid (fun W (f : Fr w W) => is16_c (x := x) (h := h) W (L.x0.fr f).1)
  obtain ⟨a, cap, rfl, _⟩ := lifted_slice L.lifted
  have c2 := L.x2.1
  have lx := L.x2.lt
  clear L
  go_enter Try.func26, Try.ntmps26
  go_wp2_with fail
  refine (HI.out _ (Fr.refl _)).mono ?_
  rintro e w1 ⟨rfl, hf⟩
  have c2 := hf.keep c2
  have lx := Nat.lt_of_lt_of_le lx hf.size
  go_wp2_with fail
  go_ret2
  exact ⟨rfl, hf⟩
/-- What Unlift does to a list. -/
def UnP (Z : Nat → Prop) (base : Nat) (w : World) (x : Nat) (rs : List ERow) (up : List Nat) (i : Nat) (e : Ending) (w' : World) : Prop := e = .returned (.tuple #[.int .i64 i, .int .i64 0]) ∧ ListAt Z base w' x rs up ∧ Chg Z w w'
end Go.Proofs.Ytjomjlodmelnbaa

/- Layer 16: Unlift, walked. No condition but that the list lies there. -/
namespace Go.Proofs.Ytjomjlodmelnbaa
open Go.RowKit Go.Sort
attribute [local go_sem] Oper.semAt_some
set_option maxRecDepth 100000 in
set_option maxHeartbeats 8000000 in
theorem unlift_c {Z : Nat → Prop} {base : Nat} {w : World} {x : Nat} {rs : List ERow} {up : List Nat} {i : Nat} (H : ListAt Z base w x rs (up ++ [i])) :
    Calls Try.prog 26 #[Pt x] w (UnP Z base w x rs up i) := by
  obtain ⟨h, N, T, nx, pv, vr, vl, L⟩ := H
  have HI := Lib.hid (fun W (f : Fr w W) => is16_c (x := x) (h := h) W (L.x0.fr f).1)
  obtain ⟨hi, hu, hnd, hlt⟩ := ups_snoc ⟨L.ups.1, L.ups.2.1⟩
  obtain ⟨ar, cr, hvr, hcr, hrow⟩ := L.rowAt
  subst hvr
  obtain ⟨gr, har, hgr⟩ := hrow i hi
  subst har
  have hll := L.lifted
  obtain ⟨gl, cl, hvl, hgl1, hgl2⟩ := World.ownsRow.form hll (by simp)
  subst hvl
  have hcell : w.cell? ⟨gl, up.length, none⟩ = some (.int .i64 (i : Nat)) := by
    have := World.ownsRow.cells hll (g := gl) rfl up.length (.int .i64 (i : Nat)) (by simp)
    rwa [WideShapes.add_plain, Nat.zero_add] at this
  have hfirst : w.ownsRow base 3 1 (.slice (some ⟨gl, 0, none⟩) up.length cl) up.length (up.map intV) := by
    have h1 := hll
    rw [List.map_append, List.length_append] at h1
    have h2 := ownsRow_first (xs := up.map intV) (n := 1) (ys := [intV i]) (by rw [List.length_map]; exact h1)
    rwa [List.length_map] at h2
  have c2w : Cel w x 2 (.slice (some ⟨gl, 0, none⟩) (up.length + 1) cl) := by have := L.x2; rwa [List.length_append] at this
  have hrm := rems_snoc N T rs up i
  have hlf := leftOf_snoc hi hu
  have hD := L.dance
  rw [hrm] at hD
  have hNi : N i ∈ h :: nodes N T rs := List.mem_cons_of_mem _ (nid_call hi)
  have hx : ∀ b, b ∈ h :: nodes N T rs → b ≠ x := fun b hb => by
    rcases List.mem_cons.1 hb with rfl | hb
    · exact fun e => L.apart.1 e.symm
    · exact L.apart.2 b hb
  have hlx : gl ≠ x := (L.ownl gl rfl).2.1
  have hrx : gr ≠ x := (L.ownr gr rfl).2.1
  have hupn : up.length ≤ 7036874417600 := Nat.le_trans (nodup_len_le hnd hlt) L.ups.2.2
  have hclen : up.length + 1 ≤ cl := by
    rcases hll.2 with ⟨h1, _⟩ | ⟨g', cap', cur, h2, g1, g2, g3, g4, g5, g6⟩
    · cases h1
    · simp at h2 g3; omega
  obtain ⟨n, hn⟩ : ∃ n, n = up.length := ⟨_, rfl⟩
  rw [← hn] at hcell c2w hupn hclen
  have hres := fun (w' : World) (nx' pv' : Nat → Nat) (vl' : Value) => LAt.unlift (w' := w') (nx' := nx') (pv' := pv') (vl' := vl') L
  have l0 := (L.row i hi).2.2.2.2.lt
  have HL := Lib.hid L
  have HRES := Lib.hid hres
  have HD := Lib.hid hD
  have HLF := Lib.hid hlf
  have HX := Lib.hid hx
  have HNI := Lib.hid hNi
  have HFIRST := Lib.hid hfirst
  have HN := Lib.hid hn
  clear hres L hrow hll hgl1 hgl2 hfirst hrm hlf hD hNi hx hn hnd hlt hu hcr
  have c2 := c2w.1
  have f2 := c2w.2
  have lx := c2w.lt
  have lgl := lt_of_cell hcell
  simp only at lgl
  have hin : (i : Int) < (rs.length : Int) := by omega
  go_enter Try.func26, Try.ntmps26
  go_wp2_with fail
  refine (HI.out _ (Fr.refl _)).mono ?_
  rintro e w1 ⟨rfl, hf⟩
  have q2 := c2w.fr hf
  have c2 := q2.1
  have f2 := q2.2
  have lx := q2.lt
  have hcell := hf.keep hcell
  have lgl := Nat.lt_of_lt_of_le lgl hf.size
  go_wp2_with fail
  go_quiet (fail)
  go_wp2_with fail
  go_region
  refine gen_w fun W hW => ?_
  have kW : ∀ {b o z}, Cel w b o z → ¬ (b = x ∧ o = 2) → Cel W b o z := fun {b o z} hc hn => by
    rw [hW]
    exact ((hc.fr hf).drewN _).keepSet (not_and_or' hn) _
  have k2 : Cel W x 2 (.slice (some ⟨gl, 0, none⟩) n cl) := by rw [hW]; exact (q2.drewN _).set _
  have hCW : Chg (· = x) w W := by
    rw [hW]
    exact (Fr.chg (S := (· = x)) (hf.drewN _)).set (p := ⟨x, 2, none⟩) (.inr rfl) _
  have hCZ : Chg Z w W := hCW.mono fun k _ e => e ▸ HL.out.zs.1
  have kr1 := kW HL.out.x1 (fun e => by omega)
  have hgrW := hCW.keep hgr hrx
  have lgr := lt_of_cell hgrW
  simp only at lgr
  have q5 := kW (HL.out.row i hi).2.2.1 (fun e => HX.out _ HNI.out e.1)
  have c5 := q5.1
  have l5 := q5.lt
  have c1 := kr1.1
  have lx := kr1.lt
  have hLK : ∀ b, b ∈ h :: nodes N T rs → Cel W b 0 (Pt (pv b)) ∧ Cel W b 1 (Pt (nx b)) := fun b hb => ⟨kW (HL.out.links b hb).1 (fun e => by omega), kW (HL.out.links b hb).2 (fun e => by omega)⟩
  have hrow : ∀ g, g < w.heap.size → g ∉ h :: nodes N T rs → g ≠ x → W.heap[g]? = w.heap[g]? := fun g hg _ hn => hCW.block g hg hn
  have s0 := kW HL.out.x0 (fun e => by omega)
  have s3 := kW HL.out.x3 (fun e => by omega)
  have kp : ∀ {b o z}, Cel w b o z → 2 ≤ o → b ∈ h :: nodes N T rs → Cel W b o z := fun {b o z} hc ho hb => kW hc (fun e => HX.out b hb e.1)
  have q7 := kp (HL.out.row i hi).2.2.2.2 (by omega) HNI.out
  have HLK := Lib.hid hLK
  have HROW := Lib.hid hrow
  have HS := Lib.hid (⟨s0, kr1, k2, s3⟩ : _ ∧ _ ∧ _ ∧ _)
  have HKP := Lib.hid (⟨@kp, trivial⟩ : _ ∧ True)
  have HCZ := Lib.hid hCZ
  have H7 := Lib.hid q7
  have hzW : Fre W h := by rw [hW]; exact ((HL.out.hz.fr hf (HL.out.links h List.mem_cons_self).1.lt).drewN _).set _ _
  have HZW := Lib.hid hzW
  have hszw : w.heap.size ≤ W.heap.size := hCW.size
  clear hzW kW k2 hCW hCZ kr1 q5 hLK hrow s0 s3 kp hW hf hgr q2 c2w HI c2 f2 hcell lgl q7
  unfold retV at c5
  cases hd : rs[i]?.any ERow.done
  · have e5 : W.cell? ⟨N i, 5, none⟩ = some (.pointer none) := by rw [hd] at c5; exact c5
    have hD : Dance nx pv h (nodes N T rs) (rems N T rs up ++ [N i]) := by have := HD.out; rw [hd] at this; simpa using this
    have hm := hD.backMem
    have hdn := hD.back
    have hlf : leftOf rs (up ++ [i]) = leftOf rs up := by have := HLF.out; rw [hd] at this; simpa using this
    have HM := Lib.hid hm
    have HDN := Lib.hid hdn
    have HLF2 := Lib.hid hlf
    clear c5 hD hm hdn hlf hd
    go_wp2_with fail
    refine (back_c (N i) (pv (N i)) (nx (N i)) _ _ W (HLK.out _ HNI.out).1 (HLK.out _ HNI.out).2 (HLK.out _ HM.out.1.1).2 (HLK.out _ HM.out.1.2).1 HM.out.2.1 HM.out.2.2).mono ?_
    rintro e w2 ⟨rfl, hR⟩
    have kp2 : ∀ {b o z}, Cel W b o z → 2 ≤ o → Cel w2 b o z := fun {b o z} hc ho => hR.keep _ _ _ hc (fun e => by omega) (fun e => by omega)
    have kx2 : ∀ {o z}, Cel W x o z → Cel w2 x o z := fun {o z} hc => hR.keep _ _ _ hc (fun e => HX.out _ HM.out.1.1 e.1.symm) (fun e => HX.out _ HM.out.1.2 e.1.symm)
    have hB : UnB Z w w2 x h N T (upd nx (pv (N i)) (N i)) (upd pv (nx (N i)) (N i)) rs up (.slice (some ⟨gr, 0, none⟩) rs.length cr) (.slice (some ⟨gl, 0, none⟩) n cl) := by
      refine ⟨links_wr2 (u := N i) (v := N i) HLK.out hR, HDN.out, fun b o z hc ho hb => kp2 (HKP.out.1 hc ho hb) ho, kx2 HS.out.1, kx2 HS.out.2.1, kx2 HS.out.2.2.1, ?_, fun g hg hn hnx => ?_, HCZ.out.trans (hR.chg.mono fun b _ hb => ?_), hR.fre h HZW.out⟩
      · rw [← HLF2.out]; exact kx2 HS.out.2.2.2
      · refine (hR.chg.block g (Nat.lt_of_lt_of_le hg hszw) (fun e => ?_)).trans (HROW.out g hg hn hnx)
        rcases e with rfl | rfl
        · exact hn HM.out.1.1
        · exact hn HM.out.1.2
      · rcases hb with rfl | rfl
        · exact HL.out.zs.2 _ HM.out.1.1
        · exact HL.out.zs.2 _ HM.out.1.2
    have s7 := kp2 H7.out (by omega)
    have c7 := s7.1
    have f7 := s7.2
    have l7 := s7.lt
    have HF := Lib.hid (hB.fin HL.out (fun g hg => hg) (by rw [HN.out]; exact HFIRST.out))
    clear hB s7 kp2 kx2 hR
    go_wp2_with fail
    go_ret2
    exact ⟨rfl, HF.out.1, HF.out.2⟩
  · have e5 : W.cell? ⟨N i, 5, none⟩ = some (Pt (T i)) := by rw [hd] at c5; exact c5
    have hD : Dance nx pv h (nodes N T rs) (rems N T rs up ++ [N i] ++ [T i]) := by have := HD.out; rw [hd] at this; exact this
    have hTi : T i ∈ h :: nodes N T rs := List.mem_cons_of_mem _ (nid_ret hd)
    have hm := hD.backMem
    have hdn := hD.back
    have hlf : leftOf rs (up ++ [i]) + 1 = leftOf rs up := by have := HLF.out; rw [hd] at this; simpa using this
    obtain ⟨nx1, hnx1⟩ : ∃ f, f = upd nx (pv (T i)) (T i) := ⟨_, rfl⟩
    obtain ⟨pv1, hpv1⟩ : ∃ f, f = upd pv (nx (T i)) (T i) := ⟨_, rfl⟩
    rw [← hnx1, ← hpv1] at hdn
    have hm1 := hdn.backMem
    have hdn1 := hdn.back
    have HM := Lib.hid hm
    have HM1 := Lib.hid hm1
    have HDN := Lib.hid hdn1
    obtain ⟨lf, hLF⟩ : ∃ lf, lf = leftOf rs (up ++ [i]) := ⟨_, rfl⟩
    have hx3 : Cel W x 3 (.int .i64 lf) := by rw [hLF]; exact HS.out.2.2.2
    have hlf0 : (lf : Int) + 1 = (leftOf rs up : Nat) := by omega
    have hlf4 : lf ≤ 7036874417600 := by
      have h1 : leftOf rs (up ++ [i]) ≤ rs.length := by unfold leftOf; exact Nat.le_trans (List.length_filter_le _ _) (by simp)
      have h2 := HL.out.ups.2.2
      omega
    have HLF0 := Lib.hid hlf0
    have HX3 := Lib.hid hx3
    have HTI := Lib.hid hTi
    have HNX := Lib.hid (⟨hnx1, hpv1⟩ : _ ∧ _)
    clear c5 hD hm hm1 hdn hdn1 hlf hd hx3 hlf0 hLF hTi hnx1 hpv1
    go_wp2_with fail
    refine (back_c (T i) (pv (T i)) (nx (T i)) _ _ W (HLK.out _ HTI.out).1 (HLK.out _ HTI.out).2 (HLK.out _ HM.out.1.1).2 (HLK.out _ HM.out.1.2).1 HM.out.2.1 HM.out.2.2).mono ?_
    rintro e w2 ⟨rfl, hR⟩
    have kp2 : ∀ {b o z}, Cel W b o z → 2 ≤ o → Cel w2 b o z := fun {b o z} hc ho => hR.keep _ _ _ hc (fun e => by omega) (fun e => by omega)
    have kx2 : ∀ {o z}, Cel W x o z → Cel w2 x o z := fun {o z} hc => hR.keep _ _ _ hc (fun e => HX.out _ HM.out.1.1 e.1.symm) (fun e => HX.out _ HM.out.1.2 e.1.symm)
    have hLK2 := links_wr2 (u := T i) (v := T i) HLK.out hR
    have hz3 : Fre (w2.setCell ⟨x, 3, none⟩ (.int .i64 ((lf : Int) + 1))) h := (hR.fre h HZW.out).set _ _
    have HZ3 := Lib.hid hz3
    rw [← HNX.out.1, ← HNX.out.2] at hLK2
    have s3 := kx2 HX3.out
    have c3 := s3.1
    have f3 := s3.2
    have l3 := s3.lt
    have q7 := kp2 H7.out (by omega)
    have lN := q7.lt
    have hch2 : Chg Z w w2 := HCZ.out.trans (hR.chg.mono fun b _ hb => by
      rcases hb with rfl | rfl
      · exact HL.out.zs.2 _ HM.out.1.1
      · exact HL.out.zs.2 _ HM.out.1.2)
    have hrow2 : ∀ g, g < w.heap.size → g ∉ h :: nodes N T rs → g ≠ x → w2.heap[g]? = w.heap[g]? := fun g hg hn hnx => by
      refine (hR.chg.block g (Nat.lt_of_lt_of_le hg hszw) (fun e => ?_)).trans (HROW.out g hg hn hnx)
      rcases e with rfl | rfl
      · exact hn HM.out.1.1
      · exact hn HM.out.1.2
    have hLK3 : ∀ b, b ∈ h :: nodes N T rs → Cel (w2.setCell ⟨x, 3, none⟩ (.int .i64 ((lf : Int) + 1))) b 0 (Pt (pv1 b)) ∧ Cel (w2.setCell ⟨x, 3, none⟩ (.int .i64 ((lf : Int) + 1))) b 1 (Pt (nx1 b)) := fun b hb => ⟨(hLK2 b hb).1.keepSet (.inl (HX.out b hb)) _, (hLK2 b hb).2.keepSet (.inl (HX.out b hb)) _⟩
    have kp3 : ∀ {b o z}, Cel w b o z → 2 ≤ o → b ∈ h :: nodes N T rs → Cel (w2.setCell ⟨x, 3, none⟩ (.int .i64 ((lf : Int) + 1))) b o z := fun {b o z} hc ho hb => (kp2 (HKP.out.1 hc ho hb) ho).keepSet (.inl (HX.out b hb)) _
    have hrow3 : ∀ g, g < w.heap.size → g ∉ h :: nodes N T rs → g ≠ x → (w2.setCell ⟨x, 3, none⟩ (.int .i64 ((lf : Int) + 1))).heap[g]? = w.heap[g]? := fun g hg hn hnx => (Below.heap_setCell _ _ _ g (fun e => hnx (by simpa using e))).trans (hrow2 g hg hn hnx)
    have hch3 : Chg Z w (w2.setCell ⟨x, 3, none⟩ (.int .i64 ((lf : Int) + 1))) := hch2.set (p := ⟨x, 3, none⟩) (.inr HL.out.zs.1) _
    have t3 : Cel (w2.setCell ⟨x, 3, none⟩ (.int .i64 ((lf : Int) + 1))) x 3 (.int .i64 (leftOf rs up : Nat)) := by rw [← HLF0.out]; exact s3.set _
    have t0 := (kx2 HS.out.1).keepSet (c := x) (p := 3) (.inr (by omega)) (.int .i64 ((lf : Int) + 1))
    have t1 := (kx2 HS.out.2.1).keepSet (c := x) (p := 3) (.inr (by omega)) (.int .i64 ((lf : Int) + 1))
    have t2 := (kx2 HS.out.2.2.1).keepSet (c := x) (p := 3) (.inr (by omega)) (.int .i64 ((lf : Int) + 1))
    have p7 := q7.keepSet (c := x) (p := 3) (.inr (by omega)) (.int .i64 ((lf : Int) + 1))
    have hsz3 := hch3.size
    have HLK3 := Lib.hid hLK3
    have HROW3 := Lib.hid hrow3
    have HT := Lib.hid (⟨t0, t1, t2, t3, p7⟩ : _ ∧ _ ∧ _ ∧ _ ∧ _)
    have HKP3 := Lib.hid (⟨@kp3, trivial⟩ : _ ∧ True)
    have HCH3 := Lib.hid hch3
    have HSZ3 := Lib.hid hsz3
    clear hz3 hLK2 hLK3 hrow2 hrow3 hch2 hch3 t0 t1 t2 t3 p7 kp2 kp3 kx2 hsz3 s3 q7 hR
    go_wp2_with fail
    refine (back_c (N i) (pv1 (N i)) (nx1 (N i)) _ _ _ (HLK3.out _ HNI.out).1 (HLK3.out _ HNI.out).2 (HLK3.out _ HM1.out.1.1).2 (HLK3.out _ HM1.out.1.2).1 HM1.out.2.1 HM1.out.2.2).mono ?_
    rintro e w4 ⟨rfl, hR⟩
    have kp2 : ∀ {b o z}, Cel (w2.setCell ⟨x, 3, none⟩ (.int .i64 ((lf : Int) + 1))) b o z → 2 ≤ o → Cel w4 b o z := fun {b o z} hc ho => hR.keep _ _ _ hc (fun e => by omega) (fun e => by omega)
    have kx2 : ∀ {o z}, Cel (w2.setCell ⟨x, 3, none⟩ (.int .i64 ((lf : Int) + 1))) x o z → Cel w4 x o z := fun {o z} hc => hR.keep _ _ _ hc (fun e => HX.out _ HM1.out.1.1 e.1.symm) (fun e => HX.out _ HM1.out.1.2 e.1.symm)
    have hB : UnB Z w w4 x h N T (upd nx1 (pv1 (N i)) (N i)) (upd pv1 (nx1 (N i)) (N i)) rs up (.slice (some ⟨gr, 0, none⟩) rs.length cr) (.slice (some ⟨gl, 0, none⟩) n cl) := by
      refine ⟨links_wr2 (u := N i) (v := N i) HLK3.out hR, HDN.out, fun b o z hc ho hb => kp2 (HKP3.out.1 hc ho hb) ho, kx2 HT.out.1, kx2 HT.out.2.1, kx2 HT.out.2.2.1, kx2 HT.out.2.2.2.1, fun g hg hn hnx => ?_, HCH3.out.trans (hR.chg.mono fun b _ hb => ?_), hR.fre h HZ3.out⟩
      · refine (hR.chg.block g (Nat.lt_of_lt_of_le hg HSZ3.out) (fun e => ?_)).trans (HROW3.out g hg hn hnx)
        rcases e with rfl | rfl
        · exact hn HM1.out.1.1
        · exact hn HM1.out.1.2
      · rcases hb with rfl | rfl
        · exact HL.out.zs.2 _ HM1.out.1.1
        · exact HL.out.zs.2 _ HM1.out.1.2
    have s7 := kp2 HT.out.2.2.2.2 (by omega)
    have c7 := s7.1
    have f7 := s7.2
    have l7 := s7.lt
    have HF := Lib.hid (hB.fin HL.out (fun g hg => hg) (by rw [HN.out]; exact HFIRST.out))
    clear hB s7 kp2 kx2 hR c3 f3 l3 lN
    go_wp2_with fail
    go_ret2
    exact ⟨rfl, HF.out.1, HF.out.2⟩
end Go.Proofs.Ytjomjlodmelnbaa
