/- A row of numbers that is a call's own, wherever in its block it begins: it is appended to, its first one is taken off. No condition but bounds. -/
import Derived.Test.YtadognaafgndnaaPSccReachW
import Derived.Deep.LoopGhost
import Derived.WalkMore
set_option linter.all false
set_option linter.unusedVariables false
set_option linter.unusedSimpArgs false
set_option linter.unnecessarySimpa false
/- A row of numbers that is a call's own, wherever in its block it begins: it is appended to, its first one is taken off. No condition but bounds. -/
namespace Go.Proofs.Ytadognaafgndnaa
open Go.RowKit
attribute [local go_sem] Oper.semAt_some

def QAt (w : World) (base : Nat) (v : Value) (q : List Nat) : Prop :=
  (q = [] ∧ v = .slice none 0 0) ∨ ∃ b off c cur, v = .slice (some ⟨b, off, none⟩) q.length c ∧ base ≤ b ∧ BoxAt w b cur 3 ∧ off + c ≤ cur.size ∧ q.length ≤ c ∧ ∀ j (h : j < q.length), cur[off + j]? = some (intV q[j])
theorem QAt.nil (w : World) (base : Nat) : QAt w base (.slice none 0 0) [] := .inl ⟨rfl, rfl⟩
theorem QAt.kept {w w' : World} {base : Nat} {v : Value} {q : List Nat} (h : QAt w base v q) {S : Nat → Prop} (k : Chg S w w') (hS : ∀ b, v.ownBlock = some b → ¬ S b) : QAt w' base v q := by
  rcases h with h | ⟨b, off, c, cur, h1, h2, h3, h4⟩
  · exact .inl h
  · exact .inr ⟨b, off, c, cur, h1, h2, h3.chg k (hS b (by rw [h1]; rfl)), h4⟩
theorem QAt.lt {w : World} {base : Nat} {v : Value} {q : List Nat} (h : QAt w base v q) {b : Nat} (hb : v.ownBlock = some b) : base ≤ b ∧ b < w.heap.size := by
  rcases h with ⟨_, rfl⟩ | ⟨b', off, c, cur, rfl, h2, h3, _⟩
  · cases hb
  · cases hb; exact ⟨h2, h3.lt⟩
theorem QAt.form {w : World} {base : Nat} {v : Value} {q : List Nat} (h : QAt w base v q) : ∃ a c, v = .slice a q.length c ∧ q.length ≤ c ∧ ∀ i (hi : i < q.length), ∃ g o, a = some ⟨g, o, none⟩ ∧ w.cell? ⟨g, o + i, none⟩ = some (intV q[i]) := by
  rcases h with ⟨rfl, rfl⟩ | ⟨b, off, c, cur, rfl, h2, h3, h4, h5, h6⟩
  · exact ⟨none, 0, rfl, Nat.le_refl _, fun i hi => absurd hi (Nat.not_lt_zero i)⟩
  · exact ⟨_, c, rfl, h5, fun i hi => ⟨b, off, rfl, h3.at _ (h6 i hi)⟩⟩
theorem puts_chg {b : Nat} : ∀ (vs : List Value) (o : Nat) (w : World), Chg (fun k => k = b) w (w.setCells b o vs)
  | [], _, w => Chg.refl _ w
  | v :: vs, o, w => ((Chg.refl (fun k => k = b) w).set (p := ⟨b, o, none⟩) (.inr rfl) v).trans (puts_chg vs (o + 1) _)
theorem BoxAt.puts {b : Nat} {t : TypeId} : ∀ (vs : List Value) (o : Nat) {w : World} {cur : Array Value}, BoxAt w b cur t → o + vs.length ≤ cur.size →
    ∃ cur', BoxAt (w.setCells b o vs) b cur' t ∧ cur'.size = cur.size ∧ (∀ j, j < o → cur'[j]? = cur[j]?) ∧ ∀ j (h : j < vs.length), cur'[o + j]? = some vs[j]
  | [], o, w, cur, h, _ => ⟨cur, h, rfl, fun _ _ => rfl, fun j h => absurd h (Nat.not_lt_zero j)⟩
  | v :: vs, o, w, cur, h, hl => by
    rw [List.length_cons] at hl
    obtain ⟨cur', h1, h2, h3, h4⟩ := BoxAt.puts vs (o + 1) (h.put8 o v) (by rw [Array.size_setIfInBounds]; omega)
    refine ⟨cur', h1, by rw [h2, Array.size_setIfInBounds], fun j hj => ?_, fun j hj => ?_⟩
    · rw [h3 j (by omega), Array.getElem?_setIfInBounds_ne (by omega)]
    · cases j with
      | zero =>
        rw [Nat.add_zero, h3 o (by omega), Array.getElem?_setIfInBounds_self_of_lt (by omega)]; rfl
      | succ j =>
        have := h4 j (by rw [List.length_cons] at hj; omega)
        rw [show o + (j + 1) = o + 1 + j by omega, this]; rfl
set_option maxHeartbeats 1000000 in
theorem run_append_q {w : World} {base : Nat} {v : Value} {q : List Nat} (ty : TypeId) (H : QAt w base v q) (M : List Nat) (xa : Option Addr) (c : Nat) (hM : RdP w xa M) (hn : q.length + M.length ≤ 4000000) (hb : base ≤ w.heap.size) :
    ∃ va vc w', (Builtin.append_ #[25, 25] ty #[v, .slice xa M.length c]).run Try.prog w = .ok (.slice va (q ++ M).length vc) w' ∧ QAt w' base (.slice va (q ++ M).length vc) (q ++ M) ∧ Chg (fun b => v.ownBlock = some b) w w' ∧ ∀ g, (Value.slice va (q ++ M).length vc).ownBlock = some g → v.ownBlock = some g ∨ g = w.heap.size := by
  obtain ⟨i0, hi0, hz0, hz1, hz2⟩ := info_parts Try.infoIntB
  by_cases h0 : M.length = 0
  · obtain rfl : M = [] := List.eq_nil_of_length_eq_zero h0
    obtain ⟨va, vc, rfl, hvc, _⟩ := H.form
    have hsrc : Src Try.prog i0.size 25 (.slice xa 0 c) 0 [] w := by
      cases xa with
      | none => exact Src.ofNil w Try.underlying25 c
      | some ad => exact Src.ofSlice w Try.underlying25 ad 0 c [] (by simp) (fun j u hj => by simp at hj) (fun u hu => by cases hu)
    have hr := run_append_nothing (P := Try.prog) w 25 25 ty 3 i0 Try.underlying25 hi0 va q.length vc hvc (.slice xa 0 c) hsrc
    refine ⟨va, vc, w, by simpa using hr, by simpa using H, Chg.refl _ w, fun g hg => .inl (by simpa [Value.ownBlock] using hg)⟩
  · rcases hM with hM | ⟨xb, xo, rfl, hM⟩
    · rw [hM] at h0; exact absurd rfl h0
    · have hnews : ∀ j u, (M.map intV)[j]? = some u → w.cell? ((⟨xb, xo, none⟩ : Addr).add j) = some u := fun j u hj => by
        rw [WideShapes.add_plain]
        obtain ⟨hj1, hj2⟩ := List.getElem?_eq_some_iff.1 hj
        rw [List.getElem_map] at hj2
        rw [← hj2]
        exact hM j (by simpa using hj1)
      have h1 : ∀ u ∈ M.map intV, u.oneCell' = true := fun u hu => by obtain ⟨k, _, rfl⟩ := List.mem_map.1 hu; rfl
      have hl : (M.map intV).length = M.length * i0.size := by rw [hz1]; simp
      rcases H with ⟨rfl, rfl⟩ | ⟨b, off, cc, cur, rfl, hbb, hB, hoc, hqc, hcur⟩
      · have hr := run_append_nil (P := Try.prog) w 25 ty 3 i0 _ Try.underlying25 hi0 hz0 ⟨xb, xo, none⟩ M.length c (M.map intV) hl hnews (by omega) (by omega) (by rw [hz2]; omega)
        have hge := grownCap_ge w M.length 0 3
        refine ⟨_, _, _, hr, .inr ⟨w.heap.size, 0, _, _, rfl, hb, heap_alloc_new w.drew _, ?_, hge, fun j hj => ?_⟩, ?_, fun g hg => ?_⟩
        · simp only [Array.size_append, List.size_toArray, size_zeroCells, List.length_map]
          show 0 + _ ≤ _ + _ * 1
          omega
        · have hj' : j < M.length := hj
          rw [Nat.zero_add, Array.getElem?_append_left (by simpa using hj')]
          simp [hj']
        · exact ⟨rfl, rfl, rfl, by simp, fun k hk _ => heap_alloc_old w.drew _ hk⟩
        · right; simpa [Value.ownBlock] using hg.symm
      · by_cases hroom : q.length + M.length ≤ cc
        · have hsrc : Src Try.prog i0.size 25 (.slice (some ⟨xb, xo, none⟩) M.length c) M.length (M.map intV) w := Src.ofSlice w Try.underlying25 ⟨xb, xo, none⟩ M.length c (M.map intV) hl hnews h1
          have hfit : off + q.length + (M.map intV).length ≤ cur.size := by rw [List.length_map]; omega
          have hr := run_append_room_src (P := Try.prog) w 25 25 ty 3 i0 Try.underlying25 hi0 b off q.length cc _ M.length (M.map intV) hsrc hroom
            (fun j hj => by
              rw [hz1, Nat.mul_one, hB.cell]
              rw [Array.getElem?_eq_getElem (by omega)]; rfl)
            (fun j hj => hB.free _)
          rw [hz1, Nat.mul_one] at hr
          obtain ⟨cur', g1, g2, g3, g4⟩ := hB.puts (M.map intV) (off + q.length) hfit
          have e : (q ++ M).length = q.length + M.length := List.length_append
          refine ⟨some ⟨b, off, none⟩, cc, _, by rw [e]; exact hr, .inr ⟨b, off, cc, cur', rfl, hbb, g1, by rw [g2]; exact hoc, by rw [e]; exact hroom, fun j hj => ?_⟩, (puts_chg _ _ w).mono fun k _ hk => by rw [hk]; rfl, fun g hg => .inl hg⟩
          by_cases hjq : j < q.length
          · rw [g3 _ (by omega), hcur j hjq, List.getElem_append_left hjq]
          · have hjm : j - q.length < (M.map intV).length := by rw [List.length_map]; omega
            have := g4 (j - q.length) hjm
            rw [show off + q.length + (j - q.length) = off + j by omega] at this
            rw [this, List.getElem_append_right (by omega), List.getElem_map]
        · have holds : ∀ j u, (q.map intV)[j]? = some u → w.cell? ((⟨b, off, none⟩ : Addr).add j) = some u := fun j u hj => by
            rw [WideShapes.add_plain]
            obtain ⟨hj1, hj2⟩ := List.getElem?_eq_some_iff.1 hj
            rw [List.getElem_map] at hj2
            rw [← hj2]
            exact hB.at _ (hcur j (by simpa using hj1))
          have hr := run_append_grow (P := Try.prog) w 25 ty 3 i0 _ Try.underlying25 hi0 hz0 ⟨b, off, none⟩ q.length cc (q.map intV) (by rw [hz1]; simp) holds ⟨xb, xo, none⟩ M.length c (M.map intV) hl hnews (by omega) (by omega) (growslice_fits (by omega) (by rw [hz2]; omega))
          have hge := grownCap_ge w (q.length + M.length) cc 3
          have e : (q ++ M).length = q.length + M.length := List.length_append
          refine ⟨some ⟨w.heap.size, 0, none⟩, _, _, by rw [e]; exact hr, .inr ⟨w.heap.size, 0, _, _, rfl, hb, heap_alloc_new w.drew _, ?_, by rw [e]; exact hge, fun j hj => ?_⟩, ?_, fun g hg => ?_⟩
          · simp only [Array.size_append, List.size_toArray, size_zeroCells, List.length_map]
            show 0 + _ ≤ _ + _ + _ * 1
            omega
          · have hj' : j < q.length + M.length := by rw [← e]; exact hj
            rw [Nat.zero_add, Array.getElem?_append_left (by simpa using hj')]
            by_cases hjq : j < q.length
            · rw [Array.getElem?_append_left (by simpa using hjq), List.getElem_append_left hjq]
              simp [hjq]
            · rw [Array.getElem?_append_right (by simp; omega), List.getElem_append_right (by omega)]
              have : j - q.length < M.length := by omega
              simp [this]
          · exact ⟨rfl, rfl, rfl, by simp, fun k hk _ => heap_alloc_old w.drew _ hk⟩
          · right; simpa [Value.ownBlock] using hg.symm
theorem wpList_appendQ {base : Nat} {w : World} {ops : Array Oper} {rest : List Oper} {o : Oper} {a : Act} {Q : Exit → Act → World → Prop} (hgd : o.guard = none) (s x : Operand)
    (ho : o.op = .call { callee := .builtin .append, args := #[s, x], argTypes := #[25, 25] }) (v : Value) (q M : List Nat) (hs : a.eval s = v) (H : QAt w base v q) (f : base ≤ w.heap.size)
    (xa : Option Addr) (m c : Nat) (hx : a.eval x = .slice xa m c) (hm : m = M.length) (hM : RdP w xa M) (hn : q.length + M.length ≤ 4000000)
    (h : ∀ va vc w', QAt w' base (.slice va (q ++ M).length vc) (q ++ M) → Chg (fun b => v.ownBlock = some b) w w' → (∀ g, (Value.slice va (q ++ M).length vc).ownBlock = some g → v.ownBlock = some g ∨ g = w.heap.size) → wpList Try.prog ops Q rest (a.put o.dst (.slice va (q ++ M).length vc)) w') : wpList Try.prog ops Q (o :: rest) a w := by
  subst hm
  obtain ⟨va, vc, w', hr, h1, h2, h3⟩ := run_append_q o.type H M xa c hM hn f
  refine wpList_plain hgd fun K hK => ?_
  unfold Oper.wp execOp
  simp only [ho, resolve, invoke, builtin, Sem.run_bind, Sem.run_pure, Result.andThen_ok, List.map_toArray, List.map_cons, List.map_nil, hs, hx, hr]
  exact hK _ _ (h va vc w' h1 h2 h3)
/-- The first one is taken off. -/
theorem QAt.rest {w : World} {base b off c : Nat} {x : Nat} {q : List Nat} (h : QAt w base (.slice (some ⟨b, off, none⟩) (x :: q).length c) (x :: q)) : w.cell? ⟨b, off, none⟩ = some (intV x) ∧ QAt w base (.slice (some ⟨b, off + 1, none⟩) q.length (c - 1)) q ∧ (c = 1 → QAt w base (.slice (some ⟨b, off, none⟩) q.length (c - 1)) q) ∧ q.length + 1 ≤ c := by
  rcases h with ⟨h, _⟩ | ⟨b', off', c', cur, h1, h2, h3, h4, h5, h6⟩
  · cases h
  · cases h1
    rw [List.length_cons] at h5
    refine ⟨?_, .inr ⟨b, off + 1, c - 1, cur, rfl, h2, h3, by omega, by omega, fun j hj => ?_⟩, fun hc => .inr ⟨b, off, c - 1, cur, rfl, h2, h3, by omega, by omega, fun j hj => ?_⟩, h5⟩
    · have := h6 0 (by simp)
      rw [Nat.add_zero] at this
      exact h3.at _ this
    · have := h6 (j + 1) (by simpa using hj)
      rw [show off + 1 + j = off + (j + 1) by omega, this]; rfl
    · omega
end Go.Proofs.Ytadognaafgndnaa

/- umpirelaw28.reaches: its walk. No condition but the graph's bound. -/
namespace Go.Proofs.Ytadognaafgndnaa
open Go.RowKit
attribute [local go_sem] Oper.semAt_some

theorem Bfs.lt {G : List (List Nat)} (hG : MayG G) {a : Nat} {f : Nat → Bool} {q : List Nat} (H : Bfs G a f q) {m : Nat} (h : m ∈ q) : m < G.length := by
  obtain ⟨c, e, r⟩ := H.sound m (.inr h)
  have hc := (hG.edge e).2
  exact r.closed (S := fun m => m < G.length) (fun x y _ h2 => (hG.edge h2).2) hc
theorem addB_same {f : Nat → Bool} {i : Nat} : ∀ m, addB f [i] m = addB f [i] m := fun _ => rfl
def ReachesAt (w0 w : World) (B : Nat) (N : List (List Nat)) (a K : Nat) (vw : Value) : Prop := ∃ f q, Bfs N a f q ∧ unB N f + q.length ≤ K ∧ K ≤ 1000 ∧ Fr w0 w ∧ (∀ m, m < N.length → Cel w B m (zV (bitV f m))) ∧ QAt w w0.heap.size vw q ∧ vw.ownBlock ≠ some B
set_option maxRecDepth 100000 in
set_option maxHeartbeats 4000000 in
theorem reaches28_c {w : World} {v : Value} {N : List (List Nat)} {i : Nat} (hv : RdGr w v N) (hG : MayG N) (hi : i < N.length) (hn : N.length ≤ 16) (h30 : ∀ l ∈ N, l.length ≤ 30) :
    Calls Try.prog 22 #[v, .int .i64 i] w fun e w' => ∃ (B : Nat) (f : Nat → Bool), e = .returned (.slice (some ⟨B, 0, none⟩) N.length N.length) ∧ (∀ m, f m = true ↔ Rch1 N i m) ∧ (∀ m, m < N.length → w'.cell? ⟨B, m, none⟩ = some (.int .i64 (bitV f m))) ∧ Fr w w' := by
  obtain ⟨va, vc, rfl, hvc, hx⟩ := hv
  have hout : ∀ k (hk : k < N.length), outs N k = N[k] := fun k hk => by unfold outs; rw [List.getD_eq_getElem?_getD, List.getElem?_eq_getElem hk]; rfl
  have HX : Hid (∀ k, k < N.length → ∃ b o ua uc, va = some ⟨b, o, none⟩ ∧ w.cell? ⟨b, o + k, none⟩ = some (.slice ua (outs N k).length uc) ∧ (outs N k).length ≤ uc ∧ RdP w ua (outs N k) ∧ (outs N k).length ≤ 30) := Lib.hid (fun k hk => by
    obtain ⟨b, o, u, h1, h2, ⟨ua, uc, rfl, h3, h4⟩, h5⟩ := hx k hk
    rw [hout k hk]
    refine ⟨b, o, ua, uc, h1, h2, h3, ?_, h30 _ (List.getElem_mem hk)⟩
    by_cases h0 : N[k].length = 0
    · exact .inl (List.eq_nil_of_length_eq_zero h0)
    · obtain ⟨g, p, rfl, _⟩ := h4 0 (by omega)
      refine .inr ⟨g, p, rfl, fun j hj => ?_⟩
      obtain ⟨g', p', e, h6⟩ := h4 j hj
      cases e; exact h6)
  have hmk := mk_ints N.length (by omega)
  have hU : unB N (fun _ => false) + (outs N i).length ≤ 1000 := by
    have h1 := unB_le N (fun _ => false) h30
    have h2 : (outs N i).length ≤ 30 := by rw [hout i hi]; exact h30 _ (List.getElem_mem hi)
    have h3 : N.length * (30 + 1) ≤ 16 * 31 := Nat.mul_le_mul hn (by omega)
    omega
  have HG := Lib.hid hG
  have HU := Lib.hid hU
  obtain ⟨rb, ro, ua, uc, rfl, hc, huc, hrp, h30i⟩ := HX.out i hi
  have HB0 : Hid (BoxAt (w.alloc (.cells (madeCells #[.int .i64 0] N.length) 3)) w.heap.size (rowA (fun _ => false) N.length) 3) := Lib.hid (by rw [rowA_none]; exact BoxAt.new' _ _ _ _ rfl)
  have hrp1 := hrp.fr ((Fr.refl w).alloc (.cells (madeCells #[.int .i64 0] N.length) 3))
  have lc := lt_of_cell hc
  simp only at lc
  have hsz : w.heap.size ≤ (w.alloc (.cells (madeCells #[.int .i64 0] N.length) 3)).heap.size := by simp
  have hln : ([] : List Nat).length + (outs N i).length ≤ 4000000 := by simp; omega
  have hQ0 : QAt (w.alloc (.cells (madeCells #[.int .i64 0] N.length) 3)) w.heap.size (.slice none 0 0) [] := QAt.nil _ _
  clear hx hout hG hU h30 hrp
  go_enter Try.func22, Try.ntmps22
  go_wp2_with (at_builtin; refine wpList_appendQ (base := w.heap.size) rfl (.tmp 11) (.tmp 15) rfl _ [] (outs N i) rfl hQ0 hsz ua _ uc rfl rfl hrp1 hln ?_)
  intro va1 vc1 w1 hQ1 hch1 hat1
  have HF1 := Lib.hid (hch1.fr ((Fr.refl w).alloc (.cells (madeCells #[.int .i64 0] N.length) 3)) fun b hb => by cases hb)
  have HS : Hid (ReachesAt w w1 w.heap.size N i (unB N (fun _ => false) + (outs N i).length) (.slice va1 ([] ++ outs N i).length vc1)) := Lib.hid ⟨fun _ => false, outs N i, Bfs.start N i, Nat.le_refl _, HU.out, HF1.out, fun m hm => (HB0.out.chg hch1 fun h => by cases h).cel m (rowA_at _ hm), hQ1, fun e => by
    rcases hat1 _ e with h | h
    · cases h
    · simp at h⟩
  clear hc lc hrp1 hsz hln hQ0 hQ1 hch1 hat1 hmk HB0 HF1
  go_wp2_with fail
  go_loopg [6] (unB N (fun _ => false) + (outs N i).length) (fun k vw wr => Hid (ReachesAt w wr w.heap.size N i k vw))
  case atStart => exact HS
  case round =>
    have HR := Lib.hid hrel.out
    clear HS hrel
    obtain ⟨f, q, hB, hk, hK, hf, hcel, hq, hne⟩ := HR.out
    clear HR
    have HF := Lib.hid hf
    have HCL := Lib.hid hcel
    have HBF := Lib.hid hB
    have HKK := Lib.hid (And.intro hk hK)
    have HNE := Lib.hid hne
    have lB : w.heap.size < wr.heap.size := (hcel i hi).lt
    clear hk hK hne
    cases q with
    | nil =>
      obtain ⟨a0, c0, rfl, _⟩ := hq.form
      have HE : Hid ((∀ m, f m = true ↔ Rch1 N i m) ∧ ∀ m, m < N.length → wr.cell? ⟨w.heap.size, m, none⟩ = some (.int .i64 (bitV f m))) := Lib.hid ⟨fun m => HBF.out.done m, fun m hm => (hcel m hm).1⟩
      clear hB hcel hq hf HBF HCL
      go_wp2_with fail
      go_ret
      exact ⟨w.heap.size, f, rfl, HE.out.1, HE.out.2, HF.out⟩
    | cons x q =>
      have hxn := hB.lt HG.out (m := x) (by simp)
      have hob : ∃ b off c, u6 = .slice (some ⟨b, off, none⟩) (q.length + 1) c := by
        rcases hq with ⟨h, _⟩ | ⟨b, off, c, cur, h, _⟩
        · cases h
        · exact ⟨b, off, c, h⟩
      obtain ⟨b, off, c, hve⟩ := hob
      subst hve
      obtain ⟨hcx, hq1, hq2, hqc⟩ := hq.rest
      have lb := lt_of_cell hcx
      simp only at lb
      have hbne : b ≠ w.heap.size := fun e => HNE.out (by rw [e]; rfl)
      have hcm := hcel x hxn
      have cm := hcm.1
      have fm := hcm.2
      unfold intV at hcx
      obtain ⟨rb2, ro2, ua2, uc2, e2, hrow, huc2, hrp2, h30x⟩ := HX.out x hxn
      cases e2
      have hrb : rb < w.heap.size := lt_of_cell hrow
      have hrbne : rb ≠ w.heap.size := by omega
      have hrbne2 : w.heap.size ≠ rb := by omega
      have hrow := hf.keep hrow
      have lrow := lt_of_cell hrow
      simp only at lrow
      have hrp2 := hrp2.fr hf
      have hbb : w.heap.size ≤ b := (hq.lt (b := b) rfl).1
      clear hcm hq hf hcel
      by_cases hc1 : c = 1
      · have hq3 := hq2 hc1
        subst hc1
        have hq0 : q.length = 0 := by omega
        have HQ3 : Hid (QAt wr w.heap.size (.slice (some ⟨b, off, none⟩) 0 0) q) := Lib.hid (by rw [hq0] at hq3; exact hq3)
        rw [hq0]
        obtain rfl : q = [] := List.eq_nil_of_length_eq_zero hq0
        clear hq1 hq2 hq3 hq0
        cases hfx : f x
        · rw [show bitV f x = 0 by unfold bitV; rw [hfx]; rfl] at cm
          unfold zV at cm
          have HB2 := Lib.hid HBF.out.take
          have HUT := Lib.hid (unB_take hxn hfx)
          have HCL2 : Hid (∀ m, m < N.length → Cel (wr.setCell ⟨w.heap.size, x, none⟩ (.int .i64 1)) w.heap.size m (zV (bitV (addB f [x]) m))) := Lib.hid (fun m hm => by
            by_cases e : m = x
            · subst e
              rw [show bitV (addB f [m]) m = 1 by unfold bitV; rw [addB_mem (by simp)]; rfl]
              exact (HCL.out m hm).set _
            · rw [show bitV (addB f [x]) m = bitV f m by unfold bitV addB; simp [e]]
              exact (HCL.out m hm).keepSet (.inr e) _)
          have hch : Chg (fun k => k = w.heap.size) wr (wr.setCell ⟨w.heap.size, x, none⟩ (.int .i64 1)) := (Chg.refl (fun k => k = w.heap.size) wr).set (p := ⟨w.heap.size, x, none⟩) (.inr rfl) _
          have HF2 := Lib.hid (hch.fr HF.out fun k hk => by rw [hk]; exact Nat.le_refl _)
          have hQs := HQ3.out.kept hch (fun k hk e => hbne (by cases hk; exact e))
          have hsz : w.heap.size ≤ (wr.setCell ⟨w.heap.size, x, none⟩ (.int .i64 1)).heap.size := HF2.out.size
          have hrps : RdP (wr.setCell ⟨w.heap.size, x, none⟩ (.int .i64 1)) ua2 (outs N x) := by
            rcases hrp2 with h | ⟨g, p, h1, h2⟩
            · exact .inl h
            · exact .inr ⟨g, p, h1, fun j hj => HF2.out.keep (by
                have := (HX.out x hxn)
                obtain ⟨_, _, ua3, uc3, e3, hc3, _, hr3, _⟩ := this
                cases e3
                have h9 := HF.out.keep hc3
                rw [h9] at hrow
                cases hrow
                rcases hr3 with h | ⟨g', p', h1', h2'⟩
                · rw [h] at hj; exact absurd hj (Nat.not_lt_zero j)
                · rw [h1] at h1'; cases h1'; exact h2' j hj)⟩
          have hln : ([] : List Nat).length + (outs N x).length ≤ 4000000 := by
            have := HKK.out
            rw [List.length_cons] at this
            omega
          clear hfx HQ3 hch hrp2 HCL HBF
          go_wp2_with (at_builtin; refine wpList_appendQ (base := w.heap.size) rfl (.tmp 33) (.tmp 37) rfl _ [] (outs N x) rfl hQs hsz ua2 _ uc2 rfl rfl hrps hln ?_)
          intro va1 vc1 w1 hQ1 hch1 hat1
          have HN : Hid (ReachesAt w w1 w.heap.size N i (unB N (addB f [x]) + (outs N x).length) (.slice va1 (outs N x).length vc1) ∧ unB N (addB f [x]) + (outs N x).length + 1 ≤ unB N f + (x :: ([] : List Nat)).length) := Lib.hid (by
            have hbk : ∀ g, (Value.slice (some ⟨b, off, none⟩) 0 0).ownBlock = some g → g = b := fun g hg => by cases hg; rfl
            have h5 := HKK.out
            have h6 := HUT.out
            simp only [List.length_cons, List.length_nil] at h5
            refine ⟨⟨addB f [x], outs N x, HB2.out, Nat.le_refl _, by omega, hch1.fr HF2.out fun g hg => by rw [hbk g hg]; exact hbb, fun m hm => (HCL2.out m hm).chg hch1 fun e => hbne (hbk _ e).symm, hQ1, fun e => ?_⟩, by simp only [List.length_cons, List.length_nil]; omega⟩
            rcases hat1 _ e with h | h
            · exact hbne (hbk _ h).symm
            · first | omega | (simp at h; omega))
          clear hQs hsz hrps hln hQ1 hch1 hat1 HB2 HUT HCL2 HF2
          go_wp2_with fail
          go_roundg (unB N (addB f [x]) + (outs N x).length)
          case measure => have := HN.out.2; have := HKK.out.1; omega
          case rel => exact HN.out.1
        · rw [show bitV f x = 1 by unfold bitV; rw [hfx]; rfl] at cm
          unfold zV at cm
          have HN : Hid (ReachesAt w wr w.heap.size N i (unB N f + ([] : List Nat).length) (Value.slice (some ⟨b, off, none⟩) 0 0) ∧ unB N f + ([] : List Nat).length + 1 ≤ unB N f + (x :: ([] : List Nat)).length) := Lib.hid (by
            have h5 := HKK.out
            rw [List.length_cons] at h5
            exact ⟨⟨f, [], HBF.out.skip hfx, Nat.le_refl _, by omega, HF.out, HCL.out, HQ3.out, fun e => hbne (by cases e; rfl)⟩, by simp⟩)
          clear hfx HQ3 hrp2 HCL HBF HF
          go_wp2_with fail
          go_roundg (unB N f + ([] : List Nat).length)
          case measure => have := HN.out.2; have := HKK.out.1; omega
          case rel => exact HN.out.1
      · have hc2 : 1 < c := by omega
        have HQ3 := Lib.hid hq1
        clear hq1 hq2 hc1
        cases hfx : f x
        · rw [show bitV f x = 0 by unfold bitV; rw [hfx]; rfl] at cm
          unfold zV at cm
          have HB2 := Lib.hid HBF.out.take
          have HUT := Lib.hid (unB_take hxn hfx)
          have HCL2 : Hid (∀ m, m < N.length → Cel (wr.setCell ⟨w.heap.size, x, none⟩ (.int .i64 1)) w.heap.size m (zV (bitV (addB f [x]) m))) := Lib.hid (fun m hm => by
            by_cases e : m = x
            · subst e
              rw [show bitV (addB f [m]) m = 1 by unfold bitV; rw [addB_mem (by simp)]; rfl]
              exact (HCL.out m hm).set _
            · rw [show bitV (addB f [x]) m = bitV f m by unfold bitV addB; simp [e]]
              exact (HCL.out m hm).keepSet (.inr e) _)
          have hch : Chg (fun k => k = w.heap.size) wr (wr.setCell ⟨w.heap.size, x, none⟩ (.int .i64 1)) := (Chg.refl (fun k => k = w.heap.size) wr).set (p := ⟨w.heap.size, x, none⟩) (.inr rfl) _
          have HF2 := Lib.hid (hch.fr HF.out fun k hk => by rw [hk]; exact Nat.le_refl _)
          have hQs := HQ3.out.kept hch (fun k hk e => hbne (by cases hk; exact e))
          have hsz : w.heap.size ≤ (wr.setCell ⟨w.heap.size, x, none⟩ (.int .i64 1)).heap.size := HF2.out.size
          have hrps : RdP (wr.setCell ⟨w.heap.size, x, none⟩ (.int .i64 1)) ua2 (outs N x) := by
            rcases hrp2 with h | ⟨g, p, h1, h2⟩
            · exact .inl h
            · exact .inr ⟨g, p, h1, fun j hj => HF2.out.keep (by
                have := (HX.out x hxn)
                obtain ⟨_, _, ua3, uc3, e3, hc3, _, hr3, _⟩ := this
                cases e3
                have h9 := HF.out.keep hc3
                rw [h9] at hrow
                cases hrow
                rcases hr3 with h | ⟨g', p', h1', h2'⟩
                · rw [h] at hj; exact absurd hj (Nat.not_lt_zero j)
                · rw [h1] at h1'; cases h1'; exact h2' j hj)⟩
          have hln : q.length + (outs N x).length ≤ 4000000 := by
            have := HKK.out
            rw [List.length_cons] at this
            omega
          clear hfx HQ3 hch hrp2 HCL HBF
          go_wp2_with (at_builtin; refine wpList_appendQ (base := w.heap.size) rfl (.tmp 33) (.tmp 37) rfl _ q (outs N x) rfl hQs hsz ua2 _ uc2 rfl rfl hrps hln ?_)
          intro va1 vc1 w1 hQ1 hch1 hat1
          have HN : Hid (ReachesAt w w1 w.heap.size N i (unB N (addB f [x]) + (q ++ outs N x).length) (.slice va1 (q.length + (outs N x).length) vc1) ∧ unB N (addB f [x]) + (q ++ outs N x).length + 1 ≤ unB N f + (x :: q).length) := Lib.hid (by
            have hbk : ∀ g, (Value.slice (some ⟨b, off + 1, none⟩) q.length (c - 1)).ownBlock = some g → g = b := fun g hg => by cases hg; rfl
            have h5 := HKK.out
            have h6 := HUT.out
            rw [List.length_cons] at h5
            refine ⟨⟨addB f [x], q ++ outs N x, HB2.out, Nat.le_refl _, by rw [List.length_append]; omega, hch1.fr HF2.out fun g hg => by rw [hbk g hg]; exact hbb, fun m hm => (HCL2.out m hm).chg hch1 fun e => hbne (hbk _ e).symm, hQ1, fun e => ?_⟩, by rw [List.length_append, List.length_cons]; omega⟩
            rcases hat1 _ e with h | h
            · exact hbne (hbk _ h).symm
            · first | omega | (simp at h; omega))
          clear hQs hsz hrps hln hQ1 hch1 hat1 HB2 HUT HCL2 HF2
          go_wp2_with fail
          go_roundg (unB N (addB f [x]) + (q ++ outs N x).length)
          case measure => have := HN.out.2; have := HKK.out.1; omega
          case rel => exact HN.out.1
        · rw [show bitV f x = 1 by unfold bitV; rw [hfx]; rfl] at cm
          unfold zV at cm
          have HN : Hid (ReachesAt w wr w.heap.size N i (unB N f + q.length) (Value.slice (some ⟨b, off + 1, none⟩) q.length (c - 1)) ∧ unB N f + q.length + 1 ≤ unB N f + (x :: q).length) := Lib.hid (by
            have h5 := HKK.out
            rw [List.length_cons] at h5
            exact ⟨⟨f, q, HBF.out.skip hfx, Nat.le_refl _, by omega, HF.out, HCL.out, HQ3.out, fun e => hbne (by cases e; rfl)⟩, by rw [List.length_cons]; omega⟩)
          clear hfx HQ3 hrp2 HCL HBF HF
          go_wp2_with fail
          go_roundg (unB N f + q.length)
          case measure => have := HN.out.2; have := HKK.out.1; omega
          case rel => exact HN.out.1
end Go.Proofs.Ytadognaafgndnaa
