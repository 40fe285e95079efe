/- umpireref16: Lift, Unlift; the law's their. No condition but that the list lies there. -/
import Derived.Test.YtjomjlodmelnbaaPEntAllW
import Derived.Great.BuildSlice
import Derived.Great.FillDense
import Derived.Deep.AppendSrc
import Derived.Deep.Upon
set_option linter.all false
set_option linter.unusedVariables false
set_option linter.unusedSimpArgs false
set_option linter.unnecessarySimpa false
/- umpireref16: Lift, Unlift; the law's their. No condition but that the list lies there. -/
namespace Go.Proofs.Ytjomjlodmelnbaa
open Go.RowKit Go.Sort
attribute [local go_sem] Oper.semAt_some

theorem RLZ.stored {base : Nat} {w w5 : World} {y : Nat} {l : List TRow} {up up' : List Nat} {Z : Nat → Prop} {vr vu vu' : Value} (H : RLZ base w y l up Z vr vu) (hb : base ≤ w.heap.size) (k : Chg (fun b => vu.ownBlock = some b) w w5)
    (hO : w5.ownsRow base 3 1 vu' up'.length (up'.map intV)) (hat : ∀ g, vu'.ownBlock = some g → vu.ownBlock = some g ∨ w.heap.size ≤ g) (hn : up'.Nodup ∧ ∀ i ∈ up', i < l.length) : RTurned base w (w5.setCell ⟨y, 1, none⟩ vu') y l up' Z := by
  have hy : vu.ownBlock ≠ some y := fun e => (H.usep y e).2 rfl
  have hy' : vu'.ownBlock ≠ some y := fun e => by
    rcases hat y e with h | h
    · exact hy h
    · have := H.y0.lt; omega
  have ks : Chg (fun b => b = y) w5 (w5.setCell ⟨y, 1, none⟩ vu') := (Chg.refl (fun b => b = y) w5).set (p := ⟨y, 1, none⟩) (.inr rfl) _
  have kz : Chg Z w (w5.setCell ⟨y, 1, none⟩ vu') := (k.mono (fun b _ h => (H.usep b h).1)).trans (ks.mono fun b _ h => by rw [h]; exact H.zy)
  have h5 : w.heap.size ≤ w5.heap.size := k.size
  have hsz : (w5.setCell ⟨y, 1, none⟩ vu').heap.size = w5.heap.size := by simp
  refine ⟨fun b => (Z b ∨ w.heap.size ≤ b) ∧ b < w5.heap.size, ⟨vr, vu', (H.y0.chg k hy).keepSet (.inr (by omega)) _, (H.y1.chg k hy).set _, (H.rows.chg k fun g hg e => (H.rsep g hg).2.2.1 e).chg ks fun g hg e => (H.rsep g hg).2.1 e,
    ownsRow_kept2 hO fun g hg => ks.block g (World.ownsRow.lt hO g hg).2 (fun e => hy' (by rw [← e]; exact hg)), fun g hg => ?_, fun g hg => ⟨⟨(hat g hg).imp (fun h => (H.usep g h).1) id, (World.ownsRow.lt hO g hg).2⟩, fun e => hy' (by rw [← e]; exact hg)⟩,
    ⟨.inl H.zy, by have := H.y0.lt; omega⟩, fun b hb' => ?_, fun b hb' => by rw [hsz]; exact hb'.2, hn, H.few⟩, fun b hb => hb.1, kz⟩
  · have h := H.rsep g hg
    refine ⟨⟨.inl h.1, by have := h.2.2.2; omega⟩, h.2.1, fun e => ?_, by rw [hsz]; have := h.2.2.2; omega⟩
    rcases hat g e with e | e
    · exact h.2.2.1 e
    · have := h.2.2.2; omega
  · rcases hb'.1 with h | h
    · exact H.ge b h
    · omega
theorem RL.same {base : Nat} {w w' : World} {y : Nat} {l : List TRow} {up : List Nat} {Z : Nat → Prop} (H : RL base w y l up Z) (f : Fr w w') : RTurned base w w' y l up Z := ⟨Z, H.fr f, fun _ h => .inl h, f.chg⟩
def RLiftQ (base : Nat) (w : World) (y : Nat) (l : List TRow) (up : List Nat) (Z : Nat → Prop) (i : Int) (e : Ending) (w' : World) : Prop := e = .returned (.int .i64 ((liftOf (eRows l) up i).1 : Nat)) ∧ RTurned base w w' y l (liftOf (eRows l) up i).2 Z
set_option maxRecDepth 100000 in
set_option maxHeartbeats 4000000 in
theorem rLift_c {base : Nat} {w : World} {y : Nat} {l : List TRow} {up : List Nat} {Z : Nat → Prop} (H : RL base w y l up Z) (hb : base ≤ w.heap.size) (i : Int) :
    Calls Try.prog 38 #[Pt y, .int .i64 i] w (RLiftQ base w y l up Z i) := by
  have HRL := Lib.hid H
  have HSAME := Lib.hid (fun w' (f : Fr w w') => H.same f)
  have HLF := Lib.hid (rLifted_c H i)
  have hlen := eRows_len l
  obtain ⟨vr, vu, H⟩ := H
  have c0 := H.y0.1
  have ly := H.y0.lt
  have hfew := H.few
  have hun : up.length ≤ l.length := nodup_len_le H.nod.1 H.nod.2
  obtain ⟨a, cap, rfl, hcap, hmax, _⟩ := id H.rows
  obtain ⟨ua, uc, rfl, huc, _⟩ := ints_form H.ups
  unfold maxLen at hmax
  have HH := Lib.hid H
  clear H
  unfold RLiftQ liftOf
  rw [hlen]
  by_cases h1 : 0 ≤ i ∧ i < (l.length : Int)
  · rw [if_pos h1]
    obtain ⟨h1, h2⟩ := h1
    have h1i : ¬ i < 0 := by omega
    have h2i : ¬ i ≥ (l.length : Int) := by omega
    by_cases h3 : i.toNat ∈ up
    · rw [if_pos h3]
      have hu : upI up i = true := by unfold upI; simp [h1, h3]
      rw [hu] at HLF
      clear h3 hu
      go_enter Try.func38, Try.ntmps38
      go_wp2_with fail
      refine HLF.out.mono ?_
      rintro e w1 ⟨rfl, hf1⟩
      go_wp2_with fail
      go_ret
      exact ⟨rfl, HSAME.out _ hf1⟩
    · rw [if_neg h3]
      have hu : upI up i = false := by unfold upI; simp [h3]
      rw [hu] at HLF
      have H3 := Lib.hid h3
      clear h3 hu
      obtain ⟨k, rfl⟩ : ∃ k : Nat, i = k := ⟨i.toNat, by omega⟩
      rw [Int.toNat_natCast] at H3 ⊢
      go_enter Try.func38, Try.ntmps38
      go_wp2_with fail
      refine HLF.out.mono ?_
      rintro e w1 ⟨rfl, hf1⟩
      have H1 := HH.out.fr hf1
      have c1 := H1.y1.1
      have ly1 := H1.y1.lt
      have hown : (w1.alloc (.cells #[.int .i64 k] 3)).ownsRow base 3 1 (.slice ua up.length uc) up.length (up.map intV) := World.ownsRow.alloc H1.ups _
      have hy : (w1.alloc (.cells #[.int .i64 k] 3)).cell? ⟨w1.heap.size, 0, none⟩ = some (intV k) := (BoxAt.new' w1 #[.int .i64 k] 3 _ (by simp)).at 0 rfl
      have hsz : base ≤ (w1.alloc (.cells #[.int .i64 k] 3)).heap.size := Nat.le_trans hb (hf1.alloc _).size
      have hnew : (⟨w1.heap.size, 0, none⟩ : Addr) ≠ ⟨y, 1, none⟩ := fun e => by have := congrArg Addr.block e; simp at this; omega
      have HH1 := Lib.hid H1
      have HF1 := Lib.hid hf1
      clear H1 hf1 HLF c0
      go_wp2_with (at_builtin; refine wpList_appendInt (base := base) rfl (.tmp 23) (.tmp 25) rfl (.slice ua up.length uc) up rfl hown hsz w1.heap.size 1 k rfl hy (by omega) ?_)
      intro va vn vc w5 hO5a hch5 hat5
      have hO5 : w5.ownsRow base 3 1 (.slice va vn vc) (up ++ [k]).length ((up ++ [k]).map intV) := by simpa using hO5a
      have hk5 : Chg (fun b => (Value.slice ua up.length uc).ownBlock = some b) w w5 := ((HF1.out.alloc _).chg).trans hch5
      have hy5 := (HH.out.y1.chg hk5 fun e => (HH.out.usep y e).2 rfl)
      have c5 := hy5.1
      have f5 := hy5.2
      have l5 := hy5.lt
      have hF := HF1.out.size
      have HT := Lib.hid (HH.out.stored hb hk5 hO5 (fun g hg => (hat5 g hg).imp id (fun e => by omega)) ⟨List.nodup_append.2 ⟨HH.out.nod.1, by simp, fun a ha c hc => by rw [List.mem_singleton] at hc; subst hc; rintro rfl; exact H3.out ha⟩, fun j hj => by
        rcases List.mem_append.1 hj with hj | hj
        · exact HH.out.nod.2 j hj
        · rw [List.mem_singleton] at hj; subst hj; omega⟩)
      clear hO5 hO5a hch5 hat5 hown hy hsz hk5 hy5
      go_wp2_with fail
      go_ret
      exact ⟨rfl, HT.out⟩
  · rw [if_neg h1]
    by_cases h2 : i < 0
    · clear h1
      go_enter Try.func38, Try.ntmps38
      go_wp2_with fail
      go_ret
      exact ⟨rfl, HSAME.out _ (Fr.refl _)⟩
    · have h3 : i ≥ (l.length : Int) := by omega
      clear h1
      go_enter Try.func38, Try.ntmps38
      go_wp2_with fail
      go_ret
      exact ⟨rfl, HSAME.out _ (Fr.refl _)⟩
def RUnQ (base : Nat) (w : World) (y : Nat) (l : List TRow) (up : List Nat) (Z : Nat → Prop) (e : Ending) (w' : World) : Prop := (up = [] ∧ e = .returned (.tuple #[.int .i64 0, .int .i64 11]) ∧ RTurned base w w' y l [] Z) ∨ ∃ up0 i, up = up0 ++ [i] ∧ e = .returned (.tuple #[.int .i64 (i : Nat), .int .i64 0]) ∧ RTurned base w w' y l up0 Z
set_option maxRecDepth 100000 in
set_option maxHeartbeats 4000000 in
theorem rUnlift_c {base : Nat} {w : World} {y : Nat} {l : List TRow} {up : List Nat} {Z : Nat → Prop} (H : RL base w y l up Z) (hb : base ≤ w.heap.size) :
    Calls Try.prog 37 #[Pt y] w (RUnQ base w y l up Z) := by
  rcases List.eq_nil_or_concat up with rfl | ⟨up0, i, rfl⟩
  · have HT := Lib.hid (H.same (Fr.refl w))
    obtain ⟨vr, vu, H⟩ := H
    have c1 := H.y1.1
    have ly := H.y0.lt
    obtain ⟨ua, uc, rfl, huc, _⟩ := ints_form H.ups
    clear H
    go_enter Try.func37, Try.ntmps37
    go_wp2_with fail
    go_ret2
    exact .inl ⟨rfl, rfl, HT.out⟩
  · rw [List.concat_eq_append] at H ⊢
    obtain ⟨vr, vu, H⟩ := H
    have hun : (up0 ++ [i]).length ≤ l.length := nodup_len_le H.nod.1 H.nod.2
    have hfew := H.few
    obtain ⟨ua, uc, rfl, huc, hus⟩ := ints_form H.ups
    rw [List.length_append, List.length_singleton] at hun
    obtain ⟨g, rfl, hc⟩ := hus up0.length (by simp)
    have hq : (up0 ++ [i])[up0.length]'(by simp) = i := by simp
    rw [hq] at hc
    unfold intV at hc
    have lg := lt_of_cell hc
    simp only at lg
    have h1 := H.ups
    rw [List.length_append, List.length_singleton, List.map_append, List.map_singleton] at h1
    have h2 := ownsRow_first (xs := up0.map intV) (n := 1) (ys := [intV i]) (by rw [List.length_map]; exact h1)
    rw [List.length_map] at h2
    have hnod := ups_snoc H.nod
    have HT := Lib.hid (H.stored (vu' := .slice (some ⟨g, 0, none⟩) up0.length uc) hb (Chg.refl _ w) h2 (fun g' hg => .inl hg) ⟨hnod.2.2.1, hnod.2.2.2⟩)
    have c1 := H.y1.1
    have f1 := H.y1.2
    have ly := H.y0.lt
    rw [List.length_append, List.length_singleton] at c1 huc
    have HI : Hid (up0 ++ [i] = up0 ++ [i]) := rfl
    have hz : (((up0.length + 1 : Nat) : Int) == 0) = false := by rw [beqN0]; exact decide_eq_false (by omega)
    clear H hus hq h1 h2 hnod
    go_enter Try.func37, Try.ntmps37
    go_wp2_with fail
    go_ret2
    exact .inr ⟨up0, i, rfl, rfl, HT.out⟩
theorem wpList_buildRow {ops : Array Oper} {rest : List Oper} {o : Oper} {a : Act} {w : World} {Q : Exit → Act → World → Prop} (parts : Array (Nat × Operand)) (ho : o.op = .buildSlice 45 1 parts) (y : TRow)
    (hev : (parts.map fun (i, x) => (i, a.eval x)).toList = [(0, .agg y.cells.toArray)]) (hw : Region.wanted o (yielded ops a.tmps) = true)
    (h : wpList Try.prog ops Q rest (a.put o.dst (.slice (some ⟨w.heap.size, 0, none⟩) 1 1)) (w.alloc (.cells y.cells.toArray 85))) : wpList Try.prog ops Q (o :: rest) a w := by
  refine wpList_step fun K hK => ?_
  simp only [hw, if_true]
  obtain ⟨ie, hie, hz, hs, _⟩ := info_parts Try.infoRow08B
  refine Go.wp_buildSlice 45 85 1 parts ho y.cells.toArray ie _ Try.underlying45 hie hz (by rw [hs]; omega) (by rw [hs]; omega) ?_ (hK _ _ h)
  rw [hev, hs]
  exact (Great.fill_whole (s := 12) (by omega) [.agg y.cells.toArray] _ (fun v hv => by obtain rfl := List.mem_singleton.1 hv; rfl) (by simp)).trans rfl
set_option maxRecDepth 100000 in
set_option maxHeartbeats 4000000 in
theorem their_c (l : List TRow) (v : Value) (w : World) (hl : RdT w v l) (hn : l.length ≤ 20) : Calls Try.prog 16 #[v] w fun e w' => ∃ u, e = .returned u ∧ OwT w.heap.size w' u l ∧ Fr w w' := by
  have HL := Lib.hid hl
  obtain ⟨a, cap, rfl, hcap, hmax, _⟩ := id hl
  unfold maxLen at hmax
  clear hl
  go_enter Try.func16, Try.ntmps16
  go_wp2_with fail
  go_loopw [3, 4] (fun vv vi wr => ∃ k : Nat, k ≤ l.length ∧ vi = .int .i64 k ∧ Fr w wr ∧ Hid (OwT w.heap.size wr vv (l.take k))) (fun _ vi _ => l.length - (intOf vi).toNat)
  case atStart => exact ⟨0, Nat.zero_le _, rfl, Fr.refl _, World.ownsRow_nil _ _ _ _⟩
  case round =>
    obtain ⟨k, hk, rfl, hf, HO⟩ := hrel
    by_cases hlt : k < l.length
    · obtain ⟨b1, o1, rfl, hb1, hx0⟩ := RdT.at HL.out hlt
      have hx := rangeAtK hx0 (hf.block hb1)
      have hb1r : b1 < wr.heap.size := Nat.lt_of_lt_of_le hb1 hf.size
      have HTK := Lib.hid (List.take_succ_eq_append_getElem hlt)
      generalize l[k] = r at hx HTK
      have hy := BoxAt.new wr r.cells.toArray 85
      have hlk : (l.take k).length ≤ 4000000 := by rw [List.length_take]; omega
      have hs0 := (hf.alloc (.cells r.cells.toArray 85)).size
      have hO1 := HO.out.fr ((Fr.refl wr).alloc (.cells r.cells.toArray 85))
      have HK1 := Lib.hid hk
      go_wp2_with (first | ((with_reducible refine wpList_here (.load 35 (.tmp 14)) rfl ?_); refine wpList_load_midW 35 (.tmp 14) rfl b1 (o1 + k * 12) rfl r.cells _ hx Try.underlying35 rfl Try.infoRow rfl ?_) | (refine wpList_buildRow _ rfl r ?hev rfl ?_) | (at_builtin; refine wpList_appendRow (base := w.heap.size) rfl (.tmp 11) (.tmp 16) rfl u3 (l.take k) rfl hO1 hs0 wr.heap.size 1 r rfl hy hlk ?_))
      intro v5 w5 hO5 hch5
      have hF5 : Fr w w5 := hch5.fr (hf.alloc _) fun g hg => (World.ownsRow.lt HO.out g hg).1
      rw [← HTK.out] at hO5
      have HO5 := Lib.hid hO5
      clear hO5 hch5 hy hO1 hx hs0
      go_wp2_with fail
      go_roundw
      case rel => exact ⟨k + 1, by omega, by go_num, hF5, HO5⟩
      case measure => first | (simp [intOf]; done) | (simp [intOf]; omega)
    · obtain rfl : k = l.length := by omega
      rw [List.take_length] at HO
      go_wp2_with fail
      go_ret
      exact ⟨_, rfl, HO.out, hf⟩
end Go.Proofs.Ytjomjlodmelnbaa

/- umpireref16: Next, Behind. No condition but that the list lies there. -/
namespace Go.Proofs.Ytjomjlodmelnbaa
open Go.RowKit Go.Sort
attribute [local go_sem] Oper.semAt_some

/-- Numbers that can be read at a slice's place, wherever it begins. -/
def RdP (w : World) (a : Option Addr) (M : List Nat) : Prop := M = [] ∨ ∃ b o, a = some ⟨b, o, none⟩ ∧ ∀ j (h : j < M.length), w.cell? ⟨b, o + j, none⟩ = some (intV M[j])
theorem RdP.fr {w w' : World} {a : Option Addr} {M : List Nat} (h : RdP w a M) (f : Fr w w') : RdP w' a M := by
  rcases h with h | ⟨b, o, h1, h2⟩
  · exact .inl h
  · exact .inr ⟨b, o, h1, fun j hj => f.keep (h2 j hj)⟩
/-- Numbers are appended, none or some. -/
theorem wpList_appendInts {base : Nat} {w : World} {ops : Array Oper} {rest : List Oper} {o : Oper} {a : Act} {Q : Exit → Act → World → Prop} (hgd : o.guard = none) (s x : Operand)
    (ho : o.op = .call { callee := .builtin .append, args := #[s, x], argTypes := #[27, 27] }) (v : Value) (L M : List Nat) (hs : a.eval s = v) (hown : w.ownsRow base 3 1 v L.length (L.map intV)) (f : base ≤ w.heap.size)
    (xa : Option Addr) (m c : Nat) (hx : a.eval x = .slice xa m c) (hm : m = M.length) (hM : RdP w xa M) (hn : L.length + M.length ≤ 4000000)
    (h : ∀ va vc w', w'.ownsRow base 3 1 (.slice va (L ++ M).length vc) (L ++ M).length ((L ++ M).map intV) → Chg (fun b => v.ownBlock = some b) w w' → (∀ g, (Value.slice va (L ++ M).length vc).ownBlock = some g → v.ownBlock = some g ∨ g = w.heap.size) → wpList Try.prog ops Q rest (a.put o.dst (.slice va (L ++ M).length vc)) w') : wpList Try.prog ops Q (o :: rest) a w := by
  obtain ⟨i0, hi0, hz0, hz1, hz2⟩ := info_parts Try.infoIntB
  subst hm
  by_cases h0 : M.length = 0
  · have hM0 : M = [] := List.eq_nil_of_length_eq_zero h0
    subst hM0
    obtain ⟨va, vc, rfl, hvc, _⟩ := ints_form hown
    have hsrc : Src Try.prog i0.size 27 (.slice xa 0 c) 0 [] w := by
      cases xa with
      | none => exact Src.ofNil w Try.underlying27 c
      | some ad => exact Src.ofSlice w Try.underlying27 ad 0 c [] (by simp) (fun j u hj => by simp at hj) (fun u hu => by cases hu)
    have hr := run_append_nothing (P := Try.prog) w 27 27 o.type 3 i0 Try.underlying27 hi0 va L.length vc hvc (.slice xa 0 c) hsrc
    refine wpList_plain hgd fun K hK => ?_
    unfold Oper.wp execOp
    simp only [ho, resolve, invoke, builtin, Sem.run_bind, Sem.run_pure, Result.andThen_ok, List.map_toArray, List.map_cons, List.map_nil, hs, hx, List.length_nil, hr]
    refine hK _ _ ?_
    have := h va vc w (by simpa using hown) (Chg.refl _ w) (fun g hg => .inl (by simpa using hg))
    simpa using this
  · rcases hM with hM | ⟨b, off, rfl, hM⟩
    · rw [hM] at h0; exact absurd rfl h0
    · refine wpList_append_lies _ hgd s x 27 ho base 3 i0 _ 1 8 Try.underlying27 hi0 hz0 hz1 hz2 rfl (by omega) v L.length (L.map intV) hs hown ⟨b, off, none⟩ M.length c (M.map intV) hx (by simp) (fun j u hj => ?_) (fun u hu => by obtain ⟨k, _, rfl⟩ := List.mem_map.1 hu; rfl) (by omega) (by unfold maxLen; omega) (by omega) f w.heap.size rfl ?_
      · rw [WideShapes.add_plain]
        obtain ⟨hj1, hj2⟩ := List.getElem?_eq_some_iff.1 hj
        rw [List.getElem_map] at hj2
        rw [← hj2]
        exact hM j (by simpa using hj1)
      · intro g cap w' hown' hgrow hat hlt
        have e : L.length + M.length = (L ++ M).length := by simp
        rw [e] at hown' ⊢
        refine h _ _ w' (by rw [List.map_append]; exact hown') ⟨hgrow.os, hgrow.tape, hgrow.output, hgrow.size, fun k hk hne => hgrow.block k hk fun e => hne e.symm⟩ (fun g' he => by simp [Value.ownBlock] at he; subst he; exact hat)
theorem own_form {w : World} {base n oc : Nat} {oa : Option Addr} {xs : List Value} {e : TypeId} {size m : Nat} (h : w.ownsRow base e size (.slice oa m oc) n xs) : (oa = none ∧ oc = 0 ∧ n = 0) ∨ ∃ g, oa = some ⟨g, 0, none⟩ := by
  rcases h.2 with ⟨h1, h0⟩ | ⟨g, cap, cur, h1, _⟩
  · cases h1; exact .inl ⟨rfl, rfl, h0⟩
  · cases h1; exact .inr ⟨g, rfl⟩
theorem takeW_step {rs : List ERow} {R : List Nat} {i k : Nat} (hk : k < R.length) (h : R.take k = (R.take k).takeWhile fun j => earlierB rs j i) (he : earlierB rs R[k] i = true) : R.take (k + 1) = (R.take (k + 1)).takeWhile fun j => earlierB rs j i := by
  rw [List.take_succ_eq_append_getElem hk, List.takeWhile_append, if_pos (by rw [← h])]
  simp [he]
theorem takeW_end {rs : List ERow} {R : List Nat} {i k : Nat} (hk : k ≤ R.length) (h : R.take k = (R.take k).takeWhile fun j => earlierB rs j i) (he : ∀ hk : k < R.length, earlierB rs R[k] i = false) : (R.take k = R.takeWhile fun j => earlierB rs j i) ∧ R.drop k = R.dropWhile fun j => earlierB rs j i := by
  have h1 : R.take k ++ R.drop k = R := List.take_append_drop k R
  have h2 : (R.takeWhile fun j => earlierB rs j i) = R.take k := by
    conv => lhs; rw [← h1]
    rw [List.takeWhile_append, if_pos (by rw [← h])]
    by_cases hl : k < R.length
    · rw [List.drop_eq_getElem_cons hl, List.takeWhile_cons, he hl]; simp
    · rw [List.drop_eq_nil_of_le (by omega)]; simp
  refine ⟨h2.symm, ?_⟩
  have h3 := List.takeWhile_append_dropWhile (p := fun j => earlierB rs j i) (l := R)
  rw [h2] at h3
  exact List.append_cancel_left (h1.trans h3.symm)
def RNextQ (w : World) (L : List Nat) (e : Ending) (w' : World) : Prop := ∃ v, e = .returned v ∧ w'.ownsRow w.heap.size 3 1 v L.length (L.map intV) ∧ Fr w w'
theorem refTo_succ (rs : List ERow) (up : List Nat) (n : Nat) : refTo rs up (n + 1) = if nextB rs up n then insE rs (refTo rs up n) n else refTo rs up n := rfl
set_option maxRecDepth 100000 in
set_option maxHeartbeats 8000000 in
theorem rNext_c {base : Nat} {w : World} {y : Nat} {l : List TRow} {up : List Nat} {Z : Nat → Prop} (H : RL base w y l up Z) :
    Calls Try.prog 20 #[Pt y] w (RNextQ w (nexts (eRows l) up)) := by
  have HRL := Lib.hid H
  have HLEN := Lib.hid (eRows_len l)
  obtain ⟨vr, vu, H⟩ := H
  have c0 := H.y0.1
  have ly := H.y0.lt
  have hfew := H.few
  obtain ⟨a, cap, rfl, hcap, hmax, _⟩ := id H.rows
  unfold maxLen at hmax
  have HC0 := Lib.hid c0
  clear H
  have HRN := Lib.hid (refTo_nexts (eRows l) up)
  rw [HLEN.out] at HRN
  unfold RNextQ
  rw [← HRN.out]
  go_enter Try.func20, Try.ntmps20
  go_wp2_with fail
  clear c0 ly
  go_loopw [3, 4] (fun vo vi wr => ∃ (i : Nat) (oa : Option Addr) (oc : Nat), i ≤ l.length ∧ vi = .int .i64 i ∧ vo = .slice oa (refTo (eRows l) up i).length oc ∧ Fr w wr ∧ Hid (wr.ownsRow w.heap.size 3 1 (.slice oa (refTo (eRows l) up i).length oc) (refTo (eRows l) up i).length ((refTo (eRows l) up i).map intV))) (fun _ vi _ => l.length - (intOf vi).toNat)
  case atStart => exact ⟨0, none, 0, Nat.zero_le _, rfl, rfl, Fr.refl _, World.ownsRow_nil _ _ _ _⟩
  case round =>
    obtain ⟨i, oa, oc, hi, rfl, rfl, hf, HO⟩ := hrel
    have c0 := hf.keep HC0.out
    have ly := lt_of_cell c0
    simp only at ly
    by_cases hit : i < l.length
    · have HNX := Lib.hid (rnext_c (HRL.out.fr hf) hit)
      have HRS := Lib.hid (refTo_succ (eRows l) up i)
      have hRl := refTo_len (eRows l) up i
      have HRM : Hid (∀ j ∈ refTo (eRows l) up i, j < l.length) := fun j hj => by
        have h1 := (((refTo_spec (eRows l) up i (by rw [HLEN.out]; exact hi)).2 j).1 hj).1
        omega
      cases hnb : nextB (eRows l) up i
      · rw [hnb] at HNX
        rw [hnb, if_neg (by simp)] at HRS
        clear hnb
        go_wp2_with fail
        refine HNX.out.mono ?_
        rintro e w2 ⟨rfl, hf2⟩
        have HO2 : Hid (w2.ownsRow w.heap.size 3 1 (.slice oa (refTo (eRows l) up (i + 1)).length oc) (refTo (eRows l) up (i + 1)).length ((refTo (eRows l) up (i + 1)).map intV)) := by
          rw [HRS.out]
          exact ownsRow_kept2 HO.out fun g hg => hf2.block (World.ownsRow.lt HO.out g hg).2
        have hf3 := hf.trans hf2
        clear c0 ly HNX hf2
        go_wp2_with fail
        go_roundw
        case rel => exact ⟨i + 1, oa, oc, by omega, by go_num, by rw [HRS.out], hf3, HO2⟩
        case measure => first | (simp [intOf]; done) | (simp [intOf]; omega)
      · rw [hnb] at HNX
        rw [hnb, if_pos rfl] at HRS
        unfold insE at HRS
        generalize refTo (eRows l) up i = R at HO HRS hRl HRM ⊢
        clear hnb
        go_wp2_with fail
        refine HNX.out.mono ?_
        rintro e w2 ⟨rfl, hf2⟩
        have hf3 := hf.trans hf2
        have HO2 : Hid (w2.ownsRow w.heap.size 3 1 (.slice oa R.length oc) R.length (R.map intV)) := ownsRow_kept2 HO.out fun g hg => hf2.block (World.ownsRow.lt HO.out g hg).2
        obtain ⟨_, _, e1, hoc, hus⟩ := ints_form HO2.out
        cases e1
        have HUS := Lib.hid hus
        have HF3 := Lib.hid hf3
        clear c0 ly HNX hf2 hf HO hus hf3
        go_wp2_with fail
        go_loopw [5] (fun vk wr => ∃ k : Nat, k ≤ R.length ∧ vk = .int .i64 k ∧ Hid (Fr w2 wr ∧ R.take k = (R.take k).takeWhile fun j => earlierB (eRows l) j i)) (fun vk _ => R.length - (intOf vk).toNat)
        case atStart => exact ⟨0, Nat.zero_le _, rfl, ⟨Fr.refl _, by simp⟩⟩
        case round =>
          obtain ⟨k, hk, rfl, HW⟩ := hrel
          by_cases hkt : k < R.length
          · obtain ⟨g, rfl, hc⟩ := HUS.out k hkt
            have hc := HW.out.1.keep hc
            have lg := lt_of_cell hc
            simp only at lg
            unfold intV at hc
            have HER := Lib.hid (rearlier_c (HRL.out.fr (HF3.out.trans HW.out.1)) (HRM.out R[k] (List.getElem_mem hkt)) hit)
            have HST := Lib.hid (fun he => takeW_step hkt HW.out.2 he)
            have HEN := Lib.hid (fun he => takeW_end hk HW.out.2 he)
            cases heb : earlierB (eRows l) R[k] i
            · rw [heb] at HER
              have HTD := Lib.hid (HEN.out (fun _ => heb))
              generalize R[k] = p at hc HER
              clear heb HST HEN
              go_wp2_with fail
              refine HER.out.mono ?_
              rintro e w4 ⟨rfl, hf4⟩
              have HW4 := Lib.hid (HW.out.1.trans hf4)
              clear HER hc lg hf4
              have hdl : (R.drop k).length = R.length - k := List.length_drop
              have htl : (R.take k).length = k := by rw [List.length_take]; omega
              have HOO := Lib.hid (ownsRow_kept2 HO2.out fun g hg => HW4.out.block (World.ownsRow.lt HO2.out g hg).2 : w4.ownsRow w.heap.size 3 1 (.slice (some ⟨g, 0, none⟩) R.length oc) R.length (R.map intV))
              have HFF := Lib.hid (HF3.out.trans HW4.out)
              obtain ⟨_, _, e1, _, hus⟩ := ints_form HOO.out
              cases e1
              have hall : ∀ j (hj : j < R.length) g9, ((some ⟨g, 0, none⟩) : Option Addr) = some ⟨g9, 0, none⟩ → w4.cell? ⟨g9, j, none⟩ = some (intV R[j]) := fun j hj g9 e9 => by
                obtain ⟨g', e2, h⟩ := hus j hj
                rw [e9] at e2
                cases e2
                exact h
              have hsome : 0 < R.length → ∃ g9, ((some ⟨g, 0, none⟩) : Option Addr) = some ⟨g9, 0, none⟩ := fun h => (hus 0 h).imp fun _ h => h.1
              have hp1 : RdP w4 (some ⟨g, 0, none⟩) (R.take k) := by
                by_cases hR : k = 0
                · exact .inl (by rw [hR]; rfl)
                · obtain ⟨g9, hg9⟩ := hsome (by omega)
                  refine .inr ⟨g9, 0, hg9, fun j hj => ?_⟩
                  rw [Nat.zero_add, List.getElem_take]
                  exact hall j (by omega) g9 hg9
              have hp2 : ∀ W, Fr w4 W → RdP W (some ⟨g, k, none⟩) (R.drop k) := fun W hW => by
                by_cases hR : k = R.length
                · exact .inl (by rw [hR]; exact List.drop_length)
                · obtain ⟨g9, hg9⟩ := hsome (by omega)
                  refine .inr ⟨g, k, rfl, fun j hj => ?_⟩
                  rw [List.getElem_drop]
                  exact hW.keep (hall (k + j) (by omega) g rfl)
              have HP1 := Lib.hid hp1
              have HP2 := Lib.hid hp2
              have HEQ : Hid (refTo (eRows l) up (i + 1) = R.take k ++ [i] ++ R.drop k) := Lib.hid (by rw [HRS.out, ← HTD.out.1, ← HTD.out.2]; simp)
              have HTL := Lib.hid htl
              have HDL := Lib.hid hdl
              have hkoc : k ≤ oc := Nat.le_trans hk hoc
              clear HO2 HUS HF3 HW4 HW hus hall hsome hp1 hp2 HTD HRS htl hdl
              go_wp2_with (at_builtin; refine wpList_appendInts (base := w4.heap.size) rfl (.tmp 35) (.tmp 38) rfl (.slice none 0 0) [] (R.take k) rfl (World.ownsRow_nil _ _ _ _) (Nat.le_refl _) _ _ _ rfl HTL.out.symm HP1.out (by have h9 := HTL.out; show 0 + _ ≤ _; omega) ?_)
              intro va vc w5 hO5a hch5 hat5
              have hF5 : Fr w4 w5 := hch5.fr (Fr.refl _) (fun b hb => by cases hb)
              have hO5 : w5.ownsRow w4.heap.size 3 1 (.slice va k vc) (R.take k).length ((R.take k).map intV) := by first | (rw [HTL.out, List.map_take]; exact hO5a) | simpa using hO5a
              have hown5 := World.ownsRow.alloc hO5 (.cells #[.int .i64 i] 3)
              have hy5 : (w5.alloc (.cells #[.int .i64 i] 3)).cell? ⟨w5.heap.size, 0, none⟩ = some (intV i) := (BoxAt.new' w5 #[.int .i64 i] 3 _ (by simp)).at 0 rfl
              have hsz5 : w4.heap.size ≤ (w5.alloc (.cells #[.int .i64 i] 3)).heap.size := (hF5.alloc _).size
              have HF5 := Lib.hid hF5
              have HV5 := Lib.hid (fun g hg => (World.ownsRow.lt hO5 g hg).1)
              clear hO5a hch5 hat5 hF5 hO5
              go_wp2_with (at_builtin; refine wpList_appendInt (base := w4.heap.size) rfl (.tmp 40) (.tmp 42) rfl (.slice va k vc) (R.take k) rfl hown5 hsz5 w5.heap.size 1 i rfl hy5 (by rw [HTL.out]; omega) ?_)
              intro va6 vn6 vc6 w6 hO6a hch6 hat6
              have hO6 : w6.ownsRow w4.heap.size 3 1 (.slice va6 vn6 vc6) (R.take k ++ [i]).length ((R.take k ++ [i]).map intV) := by first | exact hO6a | (rw [List.length_append, HTL.out, List.map_append, List.map_take]; exact hO6a) | simpa using hO6a
              have hF6 : Fr w4 w6 := hch6.fr (HF5.out.alloc _) HV5.out
              have hsz6 := hF6.size
              have hp6 := HP2.out _ hF6
              have HF6 := Lib.hid hF6
              have HV6 := Lib.hid (fun g hg => (World.ownsRow.lt hO6 g hg).1)
              clear hO6a hch6 hat6 hF6 hown5 hy5 hsz5 HF5 HV5
              go_wp2_with (at_builtin; refine wpList_appendInts (base := w4.heap.size) rfl (.tmp 44) (.tmp 47) rfl (.slice va6 vn6 vc6) (R.take k ++ [i]) (R.drop k) rfl hO6 hsz6 _ _ _ rfl (by have h9 := HDL.out; omega) hp6 (by have h9 := HDL.out; have h8 := HTL.out; rw [List.length_append, List.length_singleton]; omega) ?_)
              intro va7 vc7 w7 hO7a hch7 hat7
              have hO7 : w7.ownsRow w4.heap.size 3 1 (.slice va7 (R.take k ++ [i] ++ R.drop k).length vc7) (R.take k ++ [i] ++ R.drop k).length ((R.take k ++ [i] ++ R.drop k).map intV) := by first | exact hO7a | simpa [Nat.min_eq_left hk] using hO7a | simpa [Nat.min_eq_left hk, show R.length - k = 0 from by omega] using hO7a | simpa using hO7a
              have hF7 := HFF.out.trans (hch7.fr HF6.out HV6.out)
              have hO8 := ownsRow_base hO7 HFF.out.size
              rw [← HEQ.out] at hO8
              have HO8 := Lib.hid hO8
              have HL7 : Hid ((refTo (eRows l) up (i + 1)).length = R.length + 1) := Lib.hid (by rw [HEQ.out, List.length_append, List.length_append, HTL.out, HDL.out, List.length_singleton]; omega)
              clear hO7 hO7a hch7 hat7 hO6 hsz6 hp6 HF6 HV6 hO8
              go_wp2_with fail
              go_roundw
              case rel => exact ⟨i + 1, va7, vc7, by omega, by go_num, by first | (rw [HL7.out]; done) | (rw [HL7.out]; simp; done) | (rw [HL7.out]; simp; omega), hF7, HO8⟩
              case measure => first | (simp [intOf]; done) | (simp [intOf]; omega)
            · rw [heb] at HER
              have HS2 := Lib.hid (HST.out heb)
              generalize R[k] = p at hc HER
              clear heb HST HEN
              go_wp2_with fail
              refine HER.out.mono ?_
              rintro e w4 ⟨rfl, hf4⟩
              have HW4 := Lib.hid (HW.out.1.trans hf4)
              clear HER hc lg hf4
              go_wp2_with fail
              go_roundw
              case rel => exact ⟨k + 1, by omega, by go_num, ⟨HW4.out, HS2.out⟩⟩
              case measure => first | (simp [intOf]; done) | (simp [intOf]; omega)
          · have HTD := Lib.hid (takeW_end hk HW.out.2 (fun h => absurd h hkt))
            obtain ⟨w4, rfl⟩ : ∃ w4, w4 = wr := ⟨_, rfl⟩
            have HW4 := Lib.hid HW.out.1
            have hof := own_form HO2.out
            rcases hof with ⟨rfl, rfl, h0⟩ | ⟨g, rfl⟩
            · obtain rfl : R = [] := List.eq_nil_of_length_eq_zero h0
              obtain rfl : k = 0 := by simpa using hk
              have hdl : (([] : List Nat).drop 0).length = ([] : List Nat).length - 0 := List.length_drop
              have htl : (([] : List Nat).take 0).length = 0 := by rw [List.length_take]; omega
              have HOO := Lib.hid (ownsRow_kept2 HO2.out fun g hg => HW4.out.block (World.ownsRow.lt HO2.out g hg).2 : w4.ownsRow w.heap.size 3 1 (.slice none ([] : List Nat).length 0) ([] : List Nat).length (([] : List Nat).map intV))
              have HFF := Lib.hid (HF3.out.trans HW4.out)
              obtain ⟨_, _, e1, _, hus⟩ := ints_form HOO.out
              cases e1
              have hall : ∀ j (hj : j < ([] : List Nat).length) g9, (none : Option Addr) = some ⟨g9, 0, none⟩ → w4.cell? ⟨g9, j, none⟩ = some (intV ([] : List Nat)[j]) := fun j hj g9 e9 => by
                obtain ⟨g', e2, h⟩ := hus j hj
                rw [e9] at e2
                cases e2
                exact h
              have hsome : 0 < ([] : List Nat).length → ∃ g9, (none : Option Addr) = some ⟨g9, 0, none⟩ := fun h => (hus 0 h).imp fun _ h => h.1
              have hp1 : RdP w4 none (([] : List Nat).take 0) := by
                by_cases hR : 0 = 0
                · exact .inl (by rw [hR]; rfl)
                · obtain ⟨g9, hg9⟩ := hsome (by omega)
                  refine .inr ⟨g9, 0, hg9, fun j hj => ?_⟩
                  rw [Nat.zero_add, List.getElem_take]
                  exact hall j (by omega) g9 hg9
              have hp2 : ∀ W, Fr w4 W → RdP W none (([] : List Nat).drop 0) := fun W hW => by
                by_cases hR : 0 = ([] : List Nat).length
                · exact .inl (by rw [hR]; exact List.drop_length)
                · obtain ⟨g9, hg9⟩ := hsome (by omega)
                  cases hg9
              have HP1 := Lib.hid hp1
              have HP2 := Lib.hid hp2
              have HEQ : Hid (refTo (eRows l) up (i + 1) = ([] : List Nat).take 0 ++ [i] ++ ([] : List Nat).drop 0) := Lib.hid (by rw [HRS.out, ← HTD.out.1, ← HTD.out.2]; simp)
              have HTL := Lib.hid htl
              have HDL := Lib.hid hdl
              have hkoc : 0 ≤ 0 := Nat.le_trans hk hoc
              clear HO2 HUS HF3 HW4 HW hus hall hsome hp1 hp2 HTD HRS htl hdl
              go_wp2_with (at_builtin; refine wpList_appendInts (base := w4.heap.size) rfl (.tmp 35) (.tmp 38) rfl (.slice none 0 0) [] (([] : List Nat).take 0) rfl (World.ownsRow_nil _ _ _ _) (Nat.le_refl _) _ _ _ rfl HTL.out.symm HP1.out (by have h9 := HTL.out; show 0 + _ ≤ _; omega) ?_)
              intro va vc w5 hO5a hch5 hat5
              have hF5 : Fr w4 w5 := hch5.fr (Fr.refl _) (fun b hb => by cases hb)
              have hO5 : w5.ownsRow w4.heap.size 3 1 (.slice va 0 vc) (([] : List Nat).take 0).length ((([] : List Nat).take 0).map intV) := by first | (rw [HTL.out, List.map_take]; exact hO5a) | simpa using hO5a
              have hown5 := World.ownsRow.alloc hO5 (.cells #[.int .i64 i] 3)
              have hy5 : (w5.alloc (.cells #[.int .i64 i] 3)).cell? ⟨w5.heap.size, 0, none⟩ = some (intV i) := (BoxAt.new' w5 #[.int .i64 i] 3 _ (by simp)).at 0 rfl
              have hsz5 : w4.heap.size ≤ (w5.alloc (.cells #[.int .i64 i] 3)).heap.size := (hF5.alloc _).size
              have HF5 := Lib.hid hF5
              have HV5 := Lib.hid (fun g hg => (World.ownsRow.lt hO5 g hg).1)
              clear hO5a hch5 hat5 hF5 hO5
              go_wp2_with (at_builtin; refine wpList_appendInt (base := w4.heap.size) rfl (.tmp 40) (.tmp 42) rfl (.slice va 0 vc) (([] : List Nat).take 0) rfl hown5 hsz5 w5.heap.size 1 i rfl hy5 (by rw [HTL.out]; omega) ?_)
              intro va6 vn6 vc6 w6 hO6a hch6 hat6
              have hO6 : w6.ownsRow w4.heap.size 3 1 (.slice va6 vn6 vc6) (([] : List Nat).take 0 ++ [i]).length ((([] : List Nat).take 0 ++ [i]).map intV) := by first | exact hO6a | (rw [List.length_append, HTL.out, List.map_append, List.map_take]; exact hO6a) | simpa using hO6a
              have hF6 : Fr w4 w6 := hch6.fr (HF5.out.alloc _) HV5.out
              have hsz6 := hF6.size
              have hp6 := HP2.out _ hF6
              have HF6 := Lib.hid hF6
              have HV6 := Lib.hid (fun g hg => (World.ownsRow.lt hO6 g hg).1)
              clear hO6a hch6 hat6 hF6 hown5 hy5 hsz5 HF5 HV5
              go_wp2_with (at_builtin; refine wpList_appendInts (base := w4.heap.size) rfl (.tmp 44) (.tmp 47) rfl (.slice va6 vn6 vc6) (([] : List Nat).take 0 ++ [i]) (([] : List Nat).drop 0) rfl hO6 hsz6 _ _ _ rfl (by have h9 := HDL.out; omega) hp6 (by have h9 := HDL.out; have h8 := HTL.out; rw [List.length_append, List.length_singleton]; omega) ?_)
              intro va7 vc7 w7 hO7a hch7 hat7
              have hO7 : w7.ownsRow w4.heap.size 3 1 (.slice va7 (([] : List Nat).take 0 ++ [i] ++ ([] : List Nat).drop 0).length vc7) (([] : List Nat).take 0 ++ [i] ++ ([] : List Nat).drop 0).length ((([] : List Nat).take 0 ++ [i] ++ ([] : List Nat).drop 0).map intV) := by first | exact hO7a | simpa [Nat.min_eq_left hk] using hO7a | simpa [Nat.min_eq_left hk, show ([] : List Nat).length - 0 = 0 from by omega] using hO7a | simpa using hO7a
              have hF7 := HFF.out.trans (hch7.fr HF6.out HV6.out)
              have hO8 := ownsRow_base hO7 HFF.out.size
              rw [← HEQ.out] at hO8
              have HO8 := Lib.hid hO8
              have HL7 : Hid ((refTo (eRows l) up (i + 1)).length = ([] : List Nat).length + 1) := Lib.hid (by rw [HEQ.out, List.length_append, List.length_append, HTL.out, HDL.out, List.length_singleton]; omega)
              clear hO7 hO7a hch7 hat7 hO6 hsz6 hp6 HF6 HV6 hO8
              go_wp2_with fail
              go_roundw
              case rel => exact ⟨i + 1, va7, vc7, by omega, by go_num, by first | (rw [HL7.out]; done) | (rw [HL7.out]; simp; done) | (rw [HL7.out]; simp; omega), hF7, HO8⟩
              case measure => first | (simp [intOf]; done) | (simp [intOf]; omega)
            · by_cases hock : k < oc
              · 
                have hdl : (R.drop k).length = R.length - k := List.length_drop
                have htl : (R.take k).length = k := by rw [List.length_take]; omega
                have HOO := Lib.hid (ownsRow_kept2 HO2.out fun g hg => HW4.out.block (World.ownsRow.lt HO2.out g hg).2 : w4.ownsRow w.heap.size 3 1 (.slice (some ⟨g, 0, none⟩) R.length oc) R.length (R.map intV))
                have HFF := Lib.hid (HF3.out.trans HW4.out)
                obtain ⟨_, _, e1, _, hus⟩ := ints_form HOO.out
                cases e1
                have hall : ∀ j (hj : j < R.length) g9, ((some ⟨g, 0, none⟩) : Option Addr) = some ⟨g9, 0, none⟩ → w4.cell? ⟨g9, j, none⟩ = some (intV R[j]) := fun j hj g9 e9 => by
                  obtain ⟨g', e2, h⟩ := hus j hj
                  rw [e9] at e2
                  cases e2
                  exact h
                have hsome : 0 < R.length → ∃ g9, ((some ⟨g, 0, none⟩) : Option Addr) = some ⟨g9, 0, none⟩ := fun h => (hus 0 h).imp fun _ h => h.1
                have hp1 : RdP w4 (some ⟨g, 0, none⟩) (R.take k) := by
                  by_cases hR : k = 0
                  · exact .inl (by rw [hR]; rfl)
                  · obtain ⟨g9, hg9⟩ := hsome (by omega)
                    refine .inr ⟨g9, 0, hg9, fun j hj => ?_⟩
                    rw [Nat.zero_add, List.getElem_take]
                    exact hall j (by omega) g9 hg9
                have hp2 : ∀ W, Fr w4 W → ∀ xa, RdP W xa (R.drop k) := fun W hW xa => by
                  by_cases hR : k = R.length
                  · exact .inl (by rw [hR]; exact List.drop_length)
                  · omega
                have HP1 := Lib.hid hp1
                have HP2 := Lib.hid hp2
                have HEQ : Hid (refTo (eRows l) up (i + 1) = R.take k ++ [i] ++ R.drop k) := Lib.hid (by rw [HRS.out, ← HTD.out.1, ← HTD.out.2]; simp)
                have HTL := Lib.hid htl
                have HDL := Lib.hid hdl
                have hkoc : k ≤ oc := Nat.le_trans hk hoc
                clear HO2 HUS HF3 HW4 HW hus hall hsome hp1 hp2 HTD HRS htl hdl
                go_wp2_with (at_builtin; refine wpList_appendInts (base := w4.heap.size) rfl (.tmp 35) (.tmp 38) rfl (.slice none 0 0) [] (R.take k) rfl (World.ownsRow_nil _ _ _ _) (Nat.le_refl _) _ _ _ rfl HTL.out.symm HP1.out (by have h9 := HTL.out; show 0 + _ ≤ _; omega) ?_)
                intro va vc w5 hO5a hch5 hat5
                have hF5 : Fr w4 w5 := hch5.fr (Fr.refl _) (fun b hb => by cases hb)
                have hO5 : w5.ownsRow w4.heap.size 3 1 (.slice va k vc) (R.take k).length ((R.take k).map intV) := by first | (rw [HTL.out, List.map_take]; exact hO5a) | simpa using hO5a
                have hown5 := World.ownsRow.alloc hO5 (.cells #[.int .i64 i] 3)
                have hy5 : (w5.alloc (.cells #[.int .i64 i] 3)).cell? ⟨w5.heap.size, 0, none⟩ = some (intV i) := (BoxAt.new' w5 #[.int .i64 i] 3 _ (by simp)).at 0 rfl
                have hsz5 : w4.heap.size ≤ (w5.alloc (.cells #[.int .i64 i] 3)).heap.size := (hF5.alloc _).size
                have HF5 := Lib.hid hF5
                have HV5 := Lib.hid (fun g hg => (World.ownsRow.lt hO5 g hg).1)
                clear hO5a hch5 hat5 hF5 hO5
                go_wp2_with (at_builtin; refine wpList_appendInt (base := w4.heap.size) rfl (.tmp 40) (.tmp 42) rfl (.slice va k vc) (R.take k) rfl hown5 hsz5 w5.heap.size 1 i rfl hy5 (by rw [HTL.out]; omega) ?_)
                intro va6 vn6 vc6 w6 hO6a hch6 hat6
                have hO6 : w6.ownsRow w4.heap.size 3 1 (.slice va6 vn6 vc6) (R.take k ++ [i]).length ((R.take k ++ [i]).map intV) := by first | exact hO6a | (rw [List.length_append, HTL.out, List.map_append, List.map_take]; exact hO6a) | simpa using hO6a
                have hF6 : Fr w4 w6 := hch6.fr (HF5.out.alloc _) HV5.out
                have hsz6 := hF6.size
                have hp6 := HP2.out _ hF6
                have HF6 := Lib.hid hF6
                have HV6 := Lib.hid (fun g hg => (World.ownsRow.lt hO6 g hg).1)
                clear hO6a hch6 hat6 hF6 hown5 hy5 hsz5 HF5 HV5
                go_wp2_with (at_builtin; refine wpList_appendInts (base := w4.heap.size) rfl (.tmp 44) (.tmp 47) rfl (.slice va6 vn6 vc6) (R.take k ++ [i]) (R.drop k) rfl hO6 hsz6 _ _ _ rfl (by have h9 := HDL.out; omega) (hp6 _) (by have h9 := HDL.out; have h8 := HTL.out; rw [List.length_append, List.length_singleton]; omega) ?_)
                intro va7 vc7 w7 hO7a hch7 hat7
                have hO7 : w7.ownsRow w4.heap.size 3 1 (.slice va7 (R.take k ++ [i] ++ R.drop k).length vc7) (R.take k ++ [i] ++ R.drop k).length ((R.take k ++ [i] ++ R.drop k).map intV) := by first | exact hO7a | simpa [Nat.min_eq_left hk] using hO7a | simpa [Nat.min_eq_left hk, show R.length - k = 0 from by omega] using hO7a | simpa using hO7a
                have hF7 := HFF.out.trans (hch7.fr HF6.out HV6.out)
                have hO8 := ownsRow_base hO7 HFF.out.size
                rw [← HEQ.out] at hO8
                have HO8 := Lib.hid hO8
                have HL7 : Hid ((refTo (eRows l) up (i + 1)).length = R.length + 1) := Lib.hid (by rw [HEQ.out, List.length_append, List.length_append, HTL.out, HDL.out, List.length_singleton]; omega)
                clear hO7 hO7a hch7 hat7 hO6 hsz6 hp6 HF6 HV6 hO8
                go_wp2_with fail
                go_roundw
                case rel => exact ⟨i + 1, va7, vc7, by omega, by go_num, by first | (rw [HL7.out]; done) | (rw [HL7.out]; simp; done) | (rw [HL7.out]; simp; omega), hF7, HO8⟩
                case measure => first | (simp [intOf]; done) | (simp [intOf]; omega)
              · obtain rfl : k = oc := by omega
                have hdl : (R.drop k).length = R.length - k := List.length_drop
                have htl : (R.take k).length = k := by rw [List.length_take]; omega
                have HOO := Lib.hid (ownsRow_kept2 HO2.out fun g hg => HW4.out.block (World.ownsRow.lt HO2.out g hg).2 : w4.ownsRow w.heap.size 3 1 (.slice (some ⟨g, 0, none⟩) R.length k) R.length (R.map intV))
                have HFF := Lib.hid (HF3.out.trans HW4.out)
                obtain ⟨_, _, e1, _, hus⟩ := ints_form HOO.out
                cases e1
                have hall : ∀ j (hj : j < R.length) g9, ((some ⟨g, 0, none⟩) : Option Addr) = some ⟨g9, 0, none⟩ → w4.cell? ⟨g9, j, none⟩ = some (intV R[j]) := fun j hj g9 e9 => by
                  obtain ⟨g', e2, h⟩ := hus j hj
                  rw [e9] at e2
                  cases e2
                  exact h
                have hsome : 0 < R.length → ∃ g9, ((some ⟨g, 0, none⟩) : Option Addr) = some ⟨g9, 0, none⟩ := fun h => (hus 0 h).imp fun _ h => h.1
                have hp1 : RdP w4 (some ⟨g, 0, none⟩) (R.take k) := by
                  by_cases hR : k = 0
                  · exact .inl (by rw [hR]; rfl)
                  · obtain ⟨g9, hg9⟩ := hsome (by omega)
                    refine .inr ⟨g9, 0, hg9, fun j hj => ?_⟩
                    rw [Nat.zero_add, List.getElem_take]
                    exact hall j (by omega) g9 hg9
                have hp2 : ∀ W, Fr w4 W → ∀ xa, RdP W xa (R.drop k) := fun W hW xa => by
                  by_cases hR : k = R.length
                  · exact .inl (by rw [hR]; exact List.drop_length)
                  · omega
                have HP1 := Lib.hid hp1
                have HP2 := Lib.hid hp2
                have HEQ : Hid (refTo (eRows l) up (i + 1) = R.take k ++ [i] ++ R.drop k) := Lib.hid (by rw [HRS.out, ← HTD.out.1, ← HTD.out.2]; simp)
                have HTL := Lib.hid htl
                have HDL := Lib.hid hdl
                have hkoc : k ≤ k := Nat.le_trans hk hoc
                clear HO2 HUS HF3 HW4 HW hus hall hsome hp1 hp2 HTD HRS htl hdl
                go_wp2_with (at_builtin; refine wpList_appendInts (base := w4.heap.size) rfl (.tmp 35) (.tmp 38) rfl (.slice none 0 0) [] (R.take k) rfl (World.ownsRow_nil _ _ _ _) (Nat.le_refl _) _ _ _ rfl HTL.out.symm HP1.out (by have h9 := HTL.out; show 0 + _ ≤ _; omega) ?_)
                intro va vc w5 hO5a hch5 hat5
                have hF5 : Fr w4 w5 := hch5.fr (Fr.refl _) (fun b hb => by cases hb)
                have hO5 : w5.ownsRow w4.heap.size 3 1 (.slice va k vc) (R.take k).length ((R.take k).map intV) := by first | (rw [HTL.out, List.map_take]; exact hO5a) | simpa using hO5a
                have hown5 := World.ownsRow.alloc hO5 (.cells #[.int .i64 i] 3)
                have hy5 : (w5.alloc (.cells #[.int .i64 i] 3)).cell? ⟨w5.heap.size, 0, none⟩ = some (intV i) := (BoxAt.new' w5 #[.int .i64 i] 3 _ (by simp)).at 0 rfl
                have hsz5 : w4.heap.size ≤ (w5.alloc (.cells #[.int .i64 i] 3)).heap.size := (hF5.alloc _).size
                have HF5 := Lib.hid hF5
                have HV5 := Lib.hid (fun g hg => (World.ownsRow.lt hO5 g hg).1)
                clear hO5a hch5 hat5 hF5 hO5
                go_wp2_with (at_builtin; refine wpList_appendInt (base := w4.heap.size) rfl (.tmp 40) (.tmp 42) rfl (.slice va k vc) (R.take k) rfl hown5 hsz5 w5.heap.size 1 i rfl hy5 (by rw [HTL.out]; omega) ?_)
                intro va6 vn6 vc6 w6 hO6a hch6 hat6
                have hO6 : w6.ownsRow w4.heap.size 3 1 (.slice va6 vn6 vc6) (R.take k ++ [i]).length ((R.take k ++ [i]).map intV) := by first | exact hO6a | (rw [List.length_append, HTL.out, List.map_append, List.map_take]; exact hO6a) | simpa using hO6a
                have hF6 : Fr w4 w6 := hch6.fr (HF5.out.alloc _) HV5.out
                have hsz6 := hF6.size
                have hp6 := HP2.out _ hF6
                have HF6 := Lib.hid hF6
                have HV6 := Lib.hid (fun g hg => (World.ownsRow.lt hO6 g hg).1)
                clear hO6a hch6 hat6 hF6 hown5 hy5 hsz5 HF5 HV5
                go_wp2_with (at_builtin; refine wpList_appendInts (base := w4.heap.size) rfl (.tmp 44) (.tmp 47) rfl (.slice va6 vn6 vc6) (R.take k ++ [i]) (R.drop k) rfl hO6 hsz6 _ _ _ rfl (by have h9 := HDL.out; omega) (hp6 _) (by have h9 := HDL.out; have h8 := HTL.out; rw [List.length_append, List.length_singleton]; omega) ?_)
                intro va7 vc7 w7 hO7a hch7 hat7
                have hO7 : w7.ownsRow w4.heap.size 3 1 (.slice va7 (R.take k ++ [i] ++ R.drop k).length vc7) (R.take k ++ [i] ++ R.drop k).length ((R.take k ++ [i] ++ R.drop k).map intV) := by first | exact hO7a | simpa [Nat.min_eq_left hk] using hO7a | simpa [Nat.min_eq_left hk, show R.length - k = 0 from by omega] using hO7a | simpa using hO7a
                have hF7 := HFF.out.trans (hch7.fr HF6.out HV6.out)
                have hO8 := ownsRow_base hO7 HFF.out.size
                rw [← HEQ.out] at hO8
                have HO8 := Lib.hid hO8
                have HL7 : Hid ((refTo (eRows l) up (i + 1)).length = R.length + 1) := Lib.hid (by rw [HEQ.out, List.length_append, List.length_append, HTL.out, HDL.out, List.length_singleton]; omega)
                clear hO7 hO7a hch7 hat7 hO6 hsz6 hp6 HF6 HV6 hO8
                go_wp2_with fail
                go_roundw
                case rel => exact ⟨i + 1, va7, vc7, by omega, by go_num, by first | (rw [HL7.out]; done) | (rw [HL7.out]; simp; done) | (rw [HL7.out]; simp; omega), hF7, HO8⟩
                case measure => first | (simp [intOf]; done) | (simp [intOf]; omega)
    · obtain rfl : i = l.length := by omega
      go_wp2_with fail
      go_ret
      exact ⟨_, rfl, HO.out, hf⟩
end Go.Proofs.Ytjomjlodmelnbaa

/- umpireref16: Behind. No condition but that the list lies there. -/
namespace Go.Proofs.Ytjomjlodmelnbaa
open Go.RowKit Go.Sort
attribute [local go_sem] Oper.semAt_some

theorem firstF_no {p : Nat → Bool} {L : List Nat} (h : ∀ j (hj : j < L.length), p L[j] = false) : L.filter p = [] := by
  rw [List.filter_eq_nil_iff]
  intro a ha
  obtain ⟨j, hj, rfl⟩ := List.getElem_of_mem ha
  rw [h j hj]; simp
theorem firstF_yes {p : Nat → Bool} {L : List Nat} {k : Nat} (hk : k < L.length) (h : ∀ j (hj : j < L.length), j < k → p L[j] = false) (hp : p L[k] = true) : ∃ M, L.filter p = L[k] :: M := by
  have h1 : L = L.take k ++ L[k] :: L.drop (k + 1) := by rw [← List.drop_eq_getElem_cons hk, List.take_append_drop]
  have h2 : (L.take k).filter p = [] := by
    rw [List.filter_eq_nil_iff]
    intro a ha
    obtain ⟨j, hj, rfl⟩ := List.getElem_of_mem ha
    rw [List.length_take] at hj
    rw [List.getElem_take, h j (by omega) (by omega)]; simp
  refine ⟨(L.drop (k + 1)).filter p, ?_⟩
  have h3 : L.filter p = (L.take k ++ L[k] :: L.drop (k + 1)).filter p := congrArg _ h1
  rw [h3, List.filter_append, h2, List.nil_append, List.filter_cons, if_pos hp]
set_option maxRecDepth 100000 in
set_option maxHeartbeats 8000000 in
theorem rBehind_c {base : Nat} {w : World} {y : Nat} {l : List TRow} {up : List Nat} {Z : Nat → Prop} (H : RL base w y l up Z) (i : Int) :
    Calls Try.prog 25 #[Pt y, .int .i64 i] w fun e w' => e = .returned (firstOf (behindOf (eRows l) up i)) ∧ Fr w w' := by
  have HRL := Lib.hid H
  have HN := Lib.hid (rNext_c H)
  have HLEN := Lib.hid (eRows_len l)
  have HNM : Hid (∀ j ∈ nexts (eRows l) up, j < l.length) := fun j hj => by
    have h1 := (mem_nexts.1 hj).2.1
    rw [HLEN.out] at h1; exact h1
  have hL20 : (nexts (eRows l) up).length ≤ 20 := Nat.le_trans (nexts_len _ _) (by rw [HLEN.out]; exact H.choose_spec.choose_spec.few)
  obtain ⟨vr, vu, H⟩ := H
  have c0 := H.y0.1
  have ly := H.y0.lt
  have hfew := H.few
  obtain ⟨a, cap, rfl, hcap, hmax, _⟩ := id H.rows
  unfold maxLen at hmax
  have HC0 := Lib.hid c0
  clear H
  by_cases h1 : i < 0
  · have hB : behindOf (eRows l) up i = nexts (eRows l) up := by unfold behindOf; rw [if_pos h1]
    have hge : ¬ i ≥ (l.length : Int) := by omega
    rw [hB]
    generalize nexts (eRows l) up = L at HN HNM hL20 ⊢
    clear hB
    cases L with
    | nil =>
      go_enter Try.func25, Try.ntmps25
      go_wp2_with fail
      refine HN.out.mono ?_
      rintro e w2 ⟨v, rfl, hO, hf⟩
      obtain ⟨va, vc, rfl⟩ := ints_at hO
      clear hO
      go_wp2_with fail
      go_loopw [7] (fun vk wr => vk = .int .i64 0 ∧ Hid (Fr w wr)) (fun _ _ => 0)
      case atStart => exact ⟨rfl, hf⟩
      case round =>
        clear hf
        obtain ⟨rfl, hf⟩ := hrel
        go_wp2_with fail
        go_ret2
        exact ⟨rfl, hf.out⟩
    | cons k M =>
      go_enter Try.func25, Try.ntmps25
      go_wp2_with fail
      refine HN.out.mono ?_
      rintro e w2 ⟨v, rfl, hO, hf⟩
      obtain ⟨va, vc, rfl, hvc, hus⟩ := ints_form hO
      obtain ⟨g, rfl, hc⟩ := hus 0 (by simp)
      have HC := Lib.hid hc
      have hll : (0 : Int) < ((k :: M).length : Int) := by rw [List.length_cons]; omega
      clear hO hus hc
      generalize (k :: M).length = n at hll hvc hL20 ⊢
      go_wp2_with fail
      go_loopw [7] (fun vk wr => vk = .int .i64 0 ∧ Hid (Fr w2 wr)) (fun _ _ => 0)
      case atStart => exact ⟨rfl, Fr.refl _⟩
      case round =>
        obtain ⟨rfl, hf2⟩ := hrel
        have hc := hf2.out.keep HC.out
        have lg := lt_of_cell hc
        simp only at lg
        rw [List.getElem_cons_zero] at hc
        unfold intV at hc
        go_wp2_with fail
        go_ret2
        exact ⟨rfl, hf.trans hf2.out⟩
  · by_cases h2 : i ≥ (l.length : Int)
    · have hB : Hid (behindOf (eRows l) up i = []) := Lib.hid (by unfold behindOf; rw [if_neg h1, if_neg (by rw [HLEN.out]; omega)])
      rw [hB.out]
      go_enter Try.func25, Try.ntmps25
      go_wp2_with fail
      go_ret2
      exact ⟨rfl, Fr.refl _⟩
    · obtain ⟨r, rfl⟩ : ∃ r : Nat, i = r := ⟨i.toNat, by omega⟩
      have hr : r < l.length := by omega
      have hB : behindOf (eRows l) up (r : Int) = (nexts (eRows l) up).filter fun k => earlierB (eRows l) r k := by
        unfold behindOf
        rw [if_neg h1, Int.toNat_natCast, if_pos (by rw [HLEN.out]; exact hr), nextsBehind_row _ _ (by rw [HLEN.out]; exact hr)]
      rw [hB]
      have hri : ¬ (r : Int) < 0 := by omega
      generalize nexts (eRows l) up = L at HN HNM hL20 ⊢
      clear hB h1
      go_enter Try.func25, Try.ntmps25
      go_wp2_with fail
      refine HN.out.mono ?_
      rintro e w2 ⟨v, rfl, hO, hf⟩
      obtain ⟨va, vc, rfl, hvc, hus⟩ := ints_form hO
      have HUS := Lib.hid hus
      clear hO hus c0 ly
      go_wp2_with fail
      go_loopw [7] (fun vk wr => ∃ k : Nat, k ≤ L.length ∧ vk = .int .i64 k ∧ Hid (Fr w2 wr ∧ ∀ j (hj : j < L.length), j < k → earlierB (eRows l) r L[j] = false)) (fun vk _ => L.length - (intOf vk).toNat)
      case atStart => exact ⟨0, Nat.zero_le _, rfl, ⟨Fr.refl _, fun j _ h => by omega⟩⟩
      case round =>
        obtain ⟨k, hk, rfl, HW⟩ := hrel
        by_cases hkt : k < L.length
        · obtain ⟨g, rfl, hc⟩ := HUS.out k hkt
          have hc := HW.out.1.keep hc
          have lg := lt_of_cell hc
          simp only at lg
          unfold intV at hc
          have HER := Lib.hid (rearlier_c (HRL.out.fr (hf.trans HW.out.1)) hr (HNM.out L[k] (List.getElem_mem hkt)))
          have HY := Lib.hid (fun hp => firstF_yes (p := fun j => earlierB (eRows l) r j) hkt HW.out.2 hp)
          have HS : Hid (earlierB (eRows l) r L[k] = false → ∀ j (hj : j < L.length), j < k + 1 → earlierB (eRows l) r L[j] = false) := fun he j hj hjk => by
            by_cases e : j = k
            · subst e; exact he
            · exact HW.out.2 j hj (by omega)
          cases heb : earlierB (eRows l) r L[k]
          · rw [heb] at HER
            have HS2 := Lib.hid (HS.out heb)
            generalize L[k] = p at hc HER
            clear heb HS HY
            go_wp2_with fail
            refine HER.out.mono ?_
            rintro e w4 ⟨rfl, hf4⟩
            have HW4 := Lib.hid (HW.out.1.trans hf4)
            clear HER hc lg hf4
            go_wp2_with fail
            go_roundw
            case rel => exact ⟨k + 1, by omega, by go_num, ⟨HW4.out, HS2.out⟩⟩
            case measure => first | (simp [intOf]; done) | (simp [intOf]; omega)
          · rw [heb] at HER
            obtain ⟨M, hM⟩ := HY.out heb
            have HM := Lib.hid hM
            generalize L[k] = p at hc HER HM
            clear heb HS HY hM
            go_wp2_with fail
            refine HER.out.mono ?_
            rintro e w4 ⟨rfl, hf4⟩
            have hf5 := hf.trans (HW.out.1.trans hf4)
            have hc := hf4.keep hc
            have lg := lt_of_cell hc
            simp only at lg
            go_wp2_with fail
            go_ret2
            exact ⟨by rw [HM.out]; rfl, hf5⟩
        · have HV := Lib.hid (firstF_no (p := fun j => earlierB (eRows l) r j) (L := L) fun j hj => HW.out.2 j hj (by omega))
          go_wp2_with fail
          go_ret2
          exact ⟨by rw [HV.out]; rfl, hf.trans HW.out.1⟩
end Go.Proofs.Ytjomjlodmelnbaa
