/- Layer 16: entries.New. No condition but that the rows can be read, and their number's bound. -/
import Derived.Test.YtjomjlodmelnbaaPEntNode
set_option linter.all false
set_option linter.unusedVariables false
set_option linter.unusedSimpArgs false
set_option linter.unnecessarySimpa false
/- Layer 16: entries.New. No condition but that the rows can be read, and their number's bound. -/
namespace Go.Proofs.Ytjomjlodmelnbaa
open Go.RowKit Go.Sort
attribute [local go_sem] Oper.semAt_some

theorem Try.infoPtB : (Try.prog.info? 76).map (fun i => (i.zero, i.size, i.bytes)) = some (some (.pointer none), 1, 8) := by kernel_rfl
/-- One pointer is appended. -/
theorem wpList_appendPt {w0 w : World} {ops : Array Oper} {rest : List Oper} {o : Oper} {a : Act} {Q : Exit → Act → World → Prop} (hgd : o.guard = none) (s x : Operand)
    (ho : o.op = .call { callee := .builtin .append, args := #[s, x], argTypes := #[66, 66] }) (v : Value) (L : List Nat) (hs : a.eval s = v) (hown : w.ownsRow w0.heap.size 76 1 v L.length (L.map Pt)) (f : Fr w0 w)
    (b c p : Nat) (hx : a.eval x = .slice (some ⟨b, 0, none⟩) 1 c) (hy : w.cell? ⟨b, 0, none⟩ = some (Pt p)) (hn : L.length ≤ 7036874417600)
    (h : ∀ v' w', w'.ownsRow w0.heap.size 76 1 v' (L ++ [p]).length ((L ++ [p]).map Pt) → Chg (fun b => v.ownBlock = some b) w w' → (∀ g, v'.ownBlock = some g → v.ownBlock = some g ∨ g = w.heap.size) → wpList Try.prog ops Q rest (a.put o.dst v') w') : wpList Try.prog ops Q (o :: rest) a w := by
  obtain ⟨i0, hi0, hz0, hz1, hz2⟩ := info_parts Try.infoPtB
  refine wpList_append_lies _ hgd s x 66 ho w0.heap.size 76 i0 _ 1 8 Try.underlying66 hi0 hz0 hz1 hz2 rfl (by omega) v L.length (L.map Pt) hs hown ⟨b, 0, none⟩ 1 c [Pt p] hx rfl (fun j u hj => ?_) (fun u hu => by rw [List.mem_singleton] at hu; subst hu; rfl) (by omega) (by unfold maxLen; omega) (by omega) f.size w.heap.size rfl ?_
  · rw [WideShapes.add_plain, Nat.zero_add]
    cases j with
    | zero => simp at hj; subst hj; exact hy
    | succ j => simp at hj
  · intro g cap w' hown' hgrow hat hlt
    refine h _ w' ?_ ?_ (fun g' he => by simp [Value.ownBlock] at he; subst he; exact hat)
    · rw [List.map_append]
      simpa using hown'
    · exact ⟨hgrow.os, hgrow.tape, hgrow.output, hgrow.size, fun k hk hne => hgrow.block k hk (fun e => hne e.symm)⟩
/-- An entry's cells, zero. -/
def zero5 : Array Value := #[.pointer none, .pointer none, .int .i64 0, .int .i64 0, .bool false]
def zero8 : Array Value := #[.pointer none, .pointer none, .int .i64 0, .int .i64 0, .bool false, .pointer none, .int .i64 0, .bool false]
/-- The rows' nodes are being made. -/
structure Mk1 (w0 w : World) (x h : Nat) (Nl : List Nat) (vr : Value) : Prop where
  x0 : Cel w x 0 (Pt h)
  x1 : Cel w x 1 vr
  x2 : Cel w x 2 (.slice none 0 0)
  x3 : Cel w x 3 (.int .i64 0)
  h0 : Cel w h 0 (Pt h)
  h1 : Cel w h 1 (Pt h)
  box : ∀ b ∈ Nl, BoxAt w b zero8 78
  rows : w.ownsRow w0.heap.size 76 1 vr Nl.length (Nl.map Pt)
  nodup : Nl.Nodup
  apart : x ≠ h ∧ x ∉ Nl ∧ h ∉ Nl ∧ w0.heap.size ≤ x ∧ w0.heap.size ≤ h ∧ ∀ b ∈ Nl, w0.heap.size ≤ b
  own : ∀ g, vr.ownBlock = some g → g ≠ x ∧ g ≠ h ∧ g ∉ Nl
  hz : Fre w h
theorem Mk1.start {w0 w : World} {x h : Nat} {Nl : List Nat} {vr : Value} {rs : List ERow} (S : Mk1 w0 w x h Nl vr) (hn : Nl.length = rs.length) (f : Fr w0 w) :
    NewSt w0 w x h w.heap.size (fun i => Nl.getD i 0) (fun _ => 0) (fun _ => h) (fun _ => h) rs 0 vr := by
  have hN : ∀ i, i < rs.length → ∃ hi : i < Nl.length, Nl.getD i 0 = Nl[i] := fun i hi => ⟨by omega, by rw [List.getD_eq_getElem?_getD, List.getElem?_eq_getElem (by omega)]; rfl⟩
  have hmem : ∀ i, i < rs.length → Nl.getD i 0 ∈ Nl := fun i hi => by obtain ⟨h1, h2⟩ := hN i hi; rw [h2]; exact List.getElem_mem h1
  have hr : ∀ i, ¬ hasRet rs 0 i := fun i ⟨e, he, _⟩ => by simp at he
  have hc : ∀ i, ¬ hasCall rs 0 i := fun i ⟨e, he, _⟩ => by simp at he
  refine ⟨S.x0, S.x1, S.x2, S.x3, fun b hb => ?_, fun i hi => ?_, fun i hi => ?_, fun i hi o ho => ?_, fun i hi hx => absurd hx (hc i), fun i hx => absurd hx (hr i), ?_, Dance.start rfl rfl, fun i j hi hj e => ?_, ⟨S.x0.lt, S.h0.lt, S.apart.1, fun i hi => ⟨(S.box _ (hmem i hi)).lt, S.apart.2.2.2.2.2 _ (hmem i hi), fun e => S.apart.2.1 (e ▸ hmem i hi), fun e => S.apart.2.2.1 (e ▸ hmem i hi)⟩, S.apart.2.2.2.1, S.apart.2.2.2.2.1⟩, fun g hg => ⟨(World.ownsRow.lt S.rows g hg).2, (S.own g hg).1, (S.own g hg).2.1, fun i hi e => (S.own g hg).2.2 (e ▸ hmem i hi)⟩, fun i hx => absurd hx (hr i), ⟨Nat.le_refl _, f.size⟩, S.hz⟩
  · simp at hb; subst hb; exact ⟨S.h0, S.h1⟩
  · unfold retPt; rw [if_neg (hr i)]; exact (S.box _ (hmem i hi)).cel 5 rfl
  · exact (S.box _ (hmem i hi)).cel 7 rfl
  · have hB := S.box _ (hmem i hi)
    rcases (show o = 0 ∨ o = 1 ∨ o = 2 ∨ o = 3 ∨ o = 4 ∨ o = 5 ∨ o = 6 by omega) with rfl | rfl | rfl | rfl | rfl | rfl | rfl
    · exact ⟨_, hB.cel 0 rfl⟩
    · exact ⟨_, hB.cel 1 rfl⟩
    · exact ⟨_, hB.cel 2 rfl⟩
    · exact ⟨_, hB.cel 3 rfl⟩
    · exact ⟨_, hB.cel 4 rfl⟩
    · exact ⟨_, hB.cel 5 rfl⟩
    · exact ⟨_, hB.cel 6 rfl⟩
  · have e1 : ((List.range rs.length).map fun i => Pt (Nl.getD i 0)) = Nl.map Pt := by
      apply List.ext_getElem
      · simp [hn]
      · intro i h1 h2
        simp at h1
        obtain ⟨h3, h4⟩ := hN i h1
        simp [h3]
    rw [e1, ← hn]; exact S.rows
  · obtain ⟨h1, h2⟩ := hN i hi
    obtain ⟨h3, h4⟩ := hN j hj
    simp only [h2, h4] at e
    exact (List.getElem_inj S.nodup).1 e
theorem NewSt.rowAt {w0 w : World} {x h B : Nat} {N T nx pv : Nat → Nat} {rs : List ERow} {k : Nat} {vr : Value} (S : NewSt w0 w x h B N T nx pv rs k vr) {i : Nat} (hi : i < rs.length) : ∃ g cap, vr = .slice (some ⟨g, 0, none⟩) rs.length cap ∧ rs.length ≤ cap ∧ w.cell? ⟨g, i, none⟩ = some (Pt (N i)) := by
  have hc := fun g hg => World.ownsRow.cells S.rows (g := g) hg
  rcases S.rows.2 with ⟨_, h0⟩ | ⟨g, cap, cur, rfl, g1, g2, g3, g4, g5⟩
  · omega
  · refine ⟨g, cap, rfl, g3, ?_⟩
    have := hc g rfl i (Pt (N i)) (by simp [hi])
    rwa [WideShapes.add_plain, Nat.zero_add] at this
theorem EntsAt.form {w0 w : World} {v : Value} {E : List Ent} (h : EntsAt w0 w v E) : ∃ a c, v = .slice a E.length c ∧ E.length ≤ c ∧ c ≤ maxLen ∧ ∀ k (hk : k < E.length), ∃ g, a = some ⟨g, 0, none⟩ ∧ w.cell? ⟨g, k * 3, none⟩ = some (.int .i64 E[k].row) ∧ w.cell? ⟨g, k * 3 + 1, none⟩ = some (.int .i64 E[k].at_) ∧ w.cell? ⟨g, k * 3 + 2, none⟩ = some (.bool E[k].call) := by
  rcases h with ⟨rfl, rfl⟩ | ⟨g, cap, rfl, h2, h3, h4, h5⟩
  · exact ⟨none, 0, rfl, Nat.le_refl _, by decide, fun k hk => by simp at hk⟩
  · refine ⟨_, cap, rfl, h2, h3, fun k hk => ⟨g, rfl, ?_⟩⟩
    have := h5.cells (i := k) (by simpa using hk)
    rw [getElem!_pos E.toArray k (by simpa using hk)] at this
    simpa using this
theorem NewSt.freshN {w0 w : World} {x h B : Nat} {N T nx pv : Nat → Nat} {rs : List ERow} {k : Nat} {vr : Value} (S : NewSt w0 w x h B N T nx pv rs k vr) {i : Nat} (hi : i < rs.length) (hnc : ¬ hasCall rs k i) : N i ∉ h :: ((inOrder rs).take k).map (nid N T) := by
  rw [List.mem_cons]
  rintro (h1 | h1)
  · exact (S.old.2.2.2.1 i hi).2.2.2 h1
  · rcases nid_lt S h1 with ⟨j, g1, g2, g3⟩ | ⟨j, g1, g2⟩
    · have := S.inj _ _ hi g1 g3
      subst this; exact hnc g2
    · have := S.new j g1
      have := (S.old.2.2.2.1 i hi).1
      omega
theorem NewSt.ge {w0 w : World} {x h B : Nat} {N T nx pv : Nat → Nat} {rs : List ERow} {k : Nat} {vr : Value} (S : NewSt w0 w x h B N T nx pv rs k vr) {b : Nat} (hb : b ∈ h :: ((inOrder rs).take k).map (nid N T)) : w0.heap.size ≤ b ∧ b < w.heap.size ∧ b ≠ x ∧ ∀ g, vr.ownBlock = some g → b ≠ g := by
  have hlt := (S.links b hb).1.lt
  obtain ⟨o1, o2, o3, o4, o5, o6⟩ := S.old
  rcases List.mem_cons.1 hb with rfl | h1
  · exact ⟨o6, hlt, fun e => o3 e.symm, fun g hg e => (S.own g hg).2.2.1 e.symm⟩
  · rcases nid_lt S h1 with ⟨j, g1, g2, rfl⟩ | ⟨j, g1, rfl⟩
    · exact ⟨(o4 j g1).2.1, hlt, (o4 j g1).2.2.1, fun g hg e => (S.own g hg).2.2.2 j g1 e.symm⟩
    · have := S.new j g1
      exact ⟨by have := S.size.2; omega, hlt, by omega, fun g hg e => by have := (S.own g hg).1; omega⟩
theorem Cel.drewN {W : World} {b o : Nat} {v : Value} (h : Cel W b o v) (n : Nat) : Cel (W.drewN n) b o v := h
theorem Chg.drewN {S : Nat → Prop} {a w : World} (h : Chg S a w) (n : Nat) : Chg S a (w.drewN n) := ⟨h.os, h.tape, h.output, h.size, h.block⟩
theorem Chg.alloc {S : Nat → Prop} {a w : World} (h : Chg S a w) (o : Obj) : Chg S a (w.alloc o) := h.trans (Fr.chg ((Fr.refl w).alloc o))
theorem retsTo_le (rs : List ERow) (k : Nat) : retsTo rs k ≤ k := by
  unfold retsTo
  have := List.length_filter_le (fun e : Ent => !e.call) ((inOrder rs).take k)
  rw [List.length_take] at this
  omega
theorem not_and_or' {a b : Nat} {p q : Nat} (h : ¬ (a = b ∧ p = q)) : a ≠ b ∨ p ≠ q := by
  by_cases e : a = b
  · exact .inr fun e2 => h ⟨e, e2⟩
  · exact .inl e
/-- What New answers. -/
def NewP (w : World) (rs : List ERow) (e : Ending) (w' : World) : Prop := Fr w w' ∧ ((mayRows rs = false ∧ e = .returned (.pointer none)) ∨ (mayRows rs = true ∧ ∃ x h B N T nx pv vr w0, e = .returned (Pt x) ∧ Fr w w0 ∧ Fr w0 w' ∧ NewSt w0 w' x h B N T nx pv rs (inOrder rs).length vr))
set_option maxRecDepth 100000 in
set_option maxHeartbeats 8000000 in
theorem new_c (l : List TRow) (v : Value) (w : World) (hl : RdT w v l) (hn : l.length ≤ 3518437208780) : Calls Try.prog 8 #[v] w (NewP w (eRows l)) := by
  have hord := ordered_c l v w hl hn
  obtain ⟨a, cap, rfl, hcap, hmax, _⟩ := id hl
  unfold maxLen at hmax
  have HRL := Lib.hid (eRows_len l)
  clear hl
  generalize hrs : eRows l = rs at *
  clear hrs
  go_enter Try.func8, Try.ntmps8
  go_wp2_with fail
  refine hord.mono ?_
  rintro e w1 ⟨hF1, ⟨hmay, ve, rfl, hE⟩ | ⟨hmay, rfl⟩⟩
  · have HMAY := Lib.hid hmay
    have HE := Lib.hid hE
    clear hmay hE hord
    go_upto_region 5 with (fail)
    refine gen_w fun W hW => ?_
    have hH : BoxAt W w1.heap.size zero5 75 := by rw [hW]; exact (BoxAt.new w1 _ _).alloc _
    have hX : BoxAt W (w1.heap.size + 1) #[Pt w1.heap.size, .slice none 0 0, .slice none 0 0, .int .i64 0] 68 := by rw [hW]; exact BoxAt.new' _ _ _ _ (by simp)
    have hFW : Fr w1 W := by rw [hW]; exact ((Fr.refl _).alloc _).alloc _
    have hxh : w1.heap.size ≤ w1.heap.size + 1 := by omega
    clear hW
    generalize hh : w1.heap.size = h at hH hX ⊢
    generalize hx : h + 1 = x at hX ⊢
    have hne : x ≠ h := by omega
    have hge : w1.heap.size ≤ h ∧ w1.heap.size ≤ x := by omega
    have kx0 := hX.cel 0 rfl
    have kx1 := hX.cel 1 rfl
    have kx2 := hX.cel 2 rfl
    have kx3 := hX.cel 3 rfl
    have kh0 := hH.cel 0 rfl
    have kh1 := hH.cel 1 rfl
    have lx := hX.lt
    have lh := hH.lt
    have khz : Fre W h := fun o => hH.free o
    clear hX hH hxh hh hx
    have c0 := kx0.1
    have d0 := kh0.1
    have d1 := kh1.1
    have f0 := kh0.2
    have f1 := kh1.2
    go_wp2_with fail
    go_region
    refine gen_w fun W2 hW2 => ?_
    have hst0 : Mk1 w1 W2 x h [] (.slice none 0 0) := by
      have key : ∀ {b o z}, Cel W b o z → ¬ (b = h ∧ o ≤ 1) → Cel W2 b o z := fun {b o z} hc hn => by
        rw [hW2]
        have a1 : b ≠ h ∨ o ≠ 0 := by by_cases e : b = h; exact .inr fun e2 => hn ⟨e, by omega⟩; exact .inl e
        have a2 : b ≠ h ∨ o ≠ 1 := by by_cases e : b = h; exact .inr fun e2 => hn ⟨e, by omega⟩; exact .inl e
        first | exact ((hc.keepSet a1 _).keepSet a2 _).drew | exact ((hc.keepSet a2 _).keepSet a1 _).drew
      refine ⟨key kx0 (by omega), key kx1 (by omega), key kx2 (by omega), key kx3 (by omega), ?_, ?_, (fun b hb => by cases hb), World.ownsRow_nil _ _ _ _, List.nodup_nil, ⟨hne, by simp, by simp, hge.2, hge.1, (fun b hb => by cases hb)⟩, (fun g hg => by cases hg), by rw [hW2]; exact ((khz.set _ _).set _ _).drew⟩
      · rw [hW2]; exact ((kh0.set _).keepSet (.inr (by omega)) _).drew
      · rw [hW2]; exact ((kh1.keepSet (.inr (by omega)) _).set _).drew
    have hF2 : Fr w1 W2 := by
      rw [hW2]
      exact ((hFW.setCell (p := ⟨h, 0, none⟩) hge.1 _).setCell (p := ⟨h, 1, none⟩) hge.1 _).drew
    clear hW2 khz kx0 kx1 kx2 kx3 kh0 kh1 lx lh c0 d0 d1 f0 f1 hFW
    have HST0 := Lib.hid hst0
    clear hst0
    go_wp2_with fail
    go_loopw [43] (fun i wr => ∃ (Nl : List Nat) (vr : Value), Nl.length ≤ l.length ∧ i = .int .i64 Nl.length ∧ Fr w1 wr ∧ Hid (Mk1 w1 wr x h Nl vr)) (fun i _ => l.length - (intOf i).toNat)
    case atStart => exact ⟨[], _, Nat.zero_le _, rfl, hF2, HST0.out⟩
    case round =>
      clear HST0 hF2
      obtain ⟨Nl, vr, hk, rfl, hfr, HS⟩ := hrel
      by_cases hlt : Nl.length < l.length
      · have c1 := HS.out.x1.1
        have f1 := HS.out.x1.2
        have lx := HS.out.x1.lt
        have hown2 : ((wr.alloc (.cells zero8 78)).alloc (.cells #[Pt wr.heap.size] 76)).ownsRow w1.heap.size 76 1 vr Nl.length (Nl.map Pt) := (HS.out.rows.alloc (.cells zero8 78)).alloc _
        have hy : ((wr.alloc (.cells zero8 78)).alloc (.cells #[Pt wr.heap.size] 76)).cell? ⟨wr.heap.size + 1, 0, none⟩ = some (Pt wr.heap.size) := (BoxAt.new' (wr.alloc (.cells zero8 78)) #[Pt wr.heap.size] 76 (wr.heap.size + 1) (by simp)).at 0 rfl
        have hfr2 : Fr w1 ((wr.alloc (.cells zero8 78)).alloc (.cells #[Pt wr.heap.size] 76)) := (hfr.alloc _).alloc _
        unfold zero8 at hown2 hy hfr2
        go_wp2_with (at_builtin; refine wpList_appendPt (w0 := w1) rfl (.tmp 49) (.tmp 52) rfl vr Nl rfl hown2 hfr2 (wr.heap.size + 1) 1 wr.heap.size rfl hy (by omega) ?_)
        intro v5 w5 hO5 hch hat
        obtain ⟨va, vn, vc, rfl⟩ : ∃ a n c, v5 = .slice a n c := by
          rcases hO5.2 with ⟨h1, _⟩ | ⟨g, c, _, h1, _⟩
          · exact ⟨_, _, _, h1⟩
          · exact ⟨_, _, _, h1⟩
        have hal : ∀ {b o z}, Cel wr b o z → vr.ownBlock ≠ some b → Cel w5 b o z := fun {b o z} hc hne => ((hc.al _).al _).chg hch hne
        have hx : vr.ownBlock ≠ some x := fun e => (HS.out.own x e).1 rfl
        have hh : vr.ownBlock ≠ some h := fun e => (HS.out.own h e).2.1 rfl
        have hws : wr.heap.size + 2 ≤ w5.heap.size := by have := hch.size; simpa using this
        have hat2 : ∀ g, (Value.slice va vn vc).ownBlock = some g → vr.ownBlock = some g ∨ g = wr.heap.size + 2 := fun g hg => by have := hat g hg; simpa using this
        have hrlt : ∀ g, vr.ownBlock = some g → g < wr.heap.size := fun g hg => (World.ownsRow.lt HS.out.rows g hg).2
        have hF5 : Fr w1 w5 := hch.fr hfr2 fun k hk => (World.ownsRow.lt HS.out.rows k hk).1
        have q1 := hal HS.out.x1 hx
        have c5 := q1.1
        have f5 := q1.2
        have l5 := q1.lt
        have HO5 := Lib.hid hO5
        have HCH := Lib.hid hch
        have HHY := Lib.hid hy
        clear hown2 hy hfr2 hO5 hch hat c1 f1 lx
        obtain ⟨W3, hW3⟩ : ∃ W3, W3 = w5.setCell ⟨x, 1, none⟩ (.slice va vn vc) := ⟨_, rfl⟩
        have hnew : Hid (Mk1 w1 W3 x h (Nl ++ [wr.heap.size]) (.slice va vn vc)) := by
          have hlx := HS.out.x1.lt
          have hlh := HS.out.h0.lt
          have hg1 := hfr.size
          have ke : ∀ {b o z}, Cel wr b o z → vr.ownBlock ≠ some b → ¬ (b = x ∧ o = 1) → Cel W3 b o z := fun {b o z} hc hne h3 => by
            rw [hW3]
            exact (hal hc hne).keepSet (by by_cases e : b = x; exact .inr fun e2 => h3 ⟨e, e2⟩; exact .inl e) _
          have bx : ∀ b c t, BoxAt ((wr.alloc (.cells zero8 78)).alloc (.cells #[Pt wr.heap.size] 76)) b c t → vr.ownBlock ≠ some b → b ≠ x → BoxAt W3 b c t := fun b c t hB hne hbx => by
            rw [hW3]
            exact (hB.chg HCH.out hne).set (fun e => hbx e.symm) _
          refine ⟨ke HS.out.x0 hx (by omega), by rw [hW3]; exact q1.set _, ke HS.out.x2 hx (by omega), ke HS.out.x3 hx (by omega), ke HS.out.h0 hh (fun e => HS.out.apart.1 e.1.symm), ke HS.out.h1 hh (fun e => HS.out.apart.1 e.1.symm), fun b hb => ?_, ?_, ?_, ⟨HS.out.apart.1, ?_, ?_, HS.out.apart.2.2.2.1, HS.out.apart.2.2.2.2.1, fun b hb => ?_⟩, fun g hg => ?_, by rw [hW3]; exact ((((HS.out.hz.fr ((Fr.refl _).alloc _) HS.out.h0.lt).fr ((Fr.refl _).alloc _) (by have := HS.out.h0.lt; simp; omega)).chg HCH.out (by have := HS.out.h0.lt; simp; omega) hh).set _ _)⟩
          · rcases List.mem_append.1 hb with hb | hb
            · have hB := HS.out.box b hb
              exact bx b _ _ ((hB.alloc _).alloc _) (fun e => (HS.out.own b e).2.2 hb) (fun e => HS.out.apart.2.1 (e ▸ hb))
            · rw [List.mem_singleton] at hb
              subst hb
              exact bx _ _ _ ((BoxAt.new wr _ _).alloc _) (fun e => by have := hrlt _ e; omega) (by omega)
          · rw [hW3]
            refine ownsRow_kept2 (w := w5) (n := (Nl ++ [wr.heap.size]).length) (xs := (Nl ++ [wr.heap.size]).map Pt) (by simpa using HO5.out) fun g hg => ?_
            refine Below.heap_setCell w5 _ _ g fun e => ?_
            simp only at e
            rcases hat2 g hg with h1 | h1
            · exact hx (by rw [h1, e])
            · omega
          · rw [List.nodup_append]
            refine ⟨HS.out.nodup, by simp, fun b hb c hc => ?_⟩
            rw [List.mem_singleton] at hc
            subst hc
            have := (HS.out.box b hb).lt
            omega
          · rw [List.mem_append, List.mem_singleton]
            rintro (h1 | h1)
            · exact HS.out.apart.2.1 h1
            · omega
          · rw [List.mem_append, List.mem_singleton]
            rintro (h1 | h1)
            · exact HS.out.apart.2.2.1 h1
            · omega
          · rcases List.mem_append.1 hb with hb | hb
            · exact HS.out.apart.2.2.2.2.2 b hb
            · rw [List.mem_singleton] at hb; omega
          · rcases hat2 g hg with h1 | h1
            · obtain ⟨g1, g2, g3⟩ := HS.out.own g h1
              refine ⟨g1, g2, fun hm => ?_⟩
              rcases List.mem_append.1 hm with hm | hm
              · exact g3 hm
              · rw [List.mem_singleton] at hm
                have := hrlt g h1
                omega
            · refine ⟨by omega, by omega, fun hm => ?_⟩
              rcases List.mem_append.1 hm with hm | hm
              · have := (HS.out.box g hm).lt
                omega
              · rw [List.mem_singleton] at hm; omega
        have hF6 : Fr w1 W3 := by rw [hW3]; exact hF5.setCell (p := ⟨x, 1, none⟩) HS.out.apart.2.2.2.1 _
        have HW3 := Lib.hid hW3
        clear hW3 q1 hal hx hh hws hat2 hrlt HO5 HCH HHY hF5 hfr HS
        go_wp2_with fail
        rw [← HW3.out]
        refine ⟨⟨Nl ++ [wr.heap.size], .slice va vn vc, by simp; omega, by rw [List.length_append]; go_num, hF6, hnew⟩, ?_⟩
        first | (simp [intOf]; done) | (simp [intOf]; omega)
      · have hnl : Nl.length = rs.length := by rw [HRL.out]; omega
        have hst1 := HS.out.start hnl hfr
        generalize (fun i => Nl.getD i 0) = N at hst1
        generalize wr.heap.size = B at hst1
        obtain ⟨ae, ce, rfl, he1, he2, he3⟩ := HE.out.form
        unfold maxLen at he2
        have HE3 := Lib.hid he3
        have HST := Lib.hid hst1
        clear HS hst1 he3 HE
        go_wp2_with fail
        go_loopw [59] (fun i wr => ∃ (k : Nat) (T nx pv : Nat → Nat), k ≤ (inOrder rs).length ∧ i = .int .i64 k ∧ Fr w1 wr ∧ Hid (NewSt w1 wr x h B N T nx pv rs k vr)) (fun i _ => (inOrder rs).length - (intOf i).toNat)
        case atStart => exact ⟨0, _, _, _, Nat.zero_le _, rfl, hfr, HST.out⟩
        case round =>
          clear HST hfr
          obtain ⟨k, T, nx, pv, hk, rfl, hfr, HS⟩ := hrel
          by_cases hlt : k < (inOrder rs).length
          · obtain ⟨ge, rfl, d0, d1, d2⟩ := HE3.out k hlt
            have hi : (inOrder rs)[k].row < rs.length := row_lt (List.getElem_mem hlt)
            have e0 := hfr.keep d0
            have e1 := hfr.keep d1
            have e2 := hfr.keep d2
            obtain ⟨gr, cr, hvr, hcr, hrow⟩ := HS.out.rowAt hi
            have hcall := fun (w' : World) (hc : (inOrder rs)[k].call = true) => HS.out.call (w' := w') hlt hc
            have hretn := fun (w' : World) (t : Nat) (hc : (inOrder rs)[k].call = false) => HS.out.retn (w' := w') (t := t) hlt hc
            subst hvr
            have hlast := HS.out.dance.last
            obtain ⟨kh0, kh1⟩ := HS.out.links h (by simp)
            obtain ⟨kp0, kp1⟩ := HS.out.links (pv h) hlast.2
            rw [hlast.1] at kp1
            have hncl := not_hasCall hlt
            obtain ⟨o1, o2, o3, o4, o5, o6⟩ := HS.out.old
            obtain ⟨m1, m2, m3, m4⟩ := o4 _ hi
            obtain ⟨og1, og2, og3, og4⟩ := HS.out.own gr rfl
            generalize hE : (inOrder rs)[k] = e at *
            obtain ⟨i, t, c⟩ := e
            simp only at hi hcall hretn hncl e0 e1 e2 d0 d1 d2 hrow m1 m2 m3 m4
            have hil : (i : Int) < (rs.length : Int) := by omega
            have HCALL := Lib.hid hcall
            have HRETN := Lib.hid hretn
            have HNCL := Lib.hid hncl
            have HLAST := Lib.hid hlast
            have HKS := Lib.hid (⟨kh0, kp1⟩ : _ ∧ _)
            have HEE := Lib.hid hE
            have HO4 := Lib.hid (⟨o4, HS.out.own⟩ : _ ∧ _)
            clear hcall hretn hncl hlast hE d0 d1 d2 o4 kh0 kh1 kp0 kp1
            have lge := lt_of_cell e0
            simp only at lge
            go_upto_region 13 with (fail)
            refine gen_w fun W hW => ?_
            have hB : BoxAt W wr.heap.size #[.int .i64 i, .int .i64 t, .bool c] 73 := by rw [hW]; exact BoxAt.new wr _ _
            have hFW : Fr wr W := by rw [hW]; exact (Fr.refl _).alloc _
            have hbe0 : B ≤ wr.heap.size := HS.out.size.1
            generalize wr.heap.size = be at hB hbe0 ⊢
            clear hW e0 e1 e2 lge
            have b0 := hB.at 0 rfl
            have b1 := hB.at 1 rfl
            have b2 := hB.at 2 rfl
            have lb := hB.lt
            have x1 := (HS.out.x1.fr hFW).1
            have lx := (HS.out.x1.fr hFW).lt
            have r0 := hFW.keep hrow
            have lr := lt_of_cell r0
            simp only at lr
            clear hrow hB
            go_wp2_with fail
            go_quiet (fail)
            cases c
            · obtain ⟨z5, kz5⟩ : ∃ z, Cel wr (N i) 5 z := ⟨_, HS.out.row5 i hi⟩
              go_upto_region 18 with (fail)
              refine gen_w fun W4 hW4 => ?_
              have hT4 : BoxAt W4 W.heap.size zero5 75 := by rw [hW4]; exact BoxAt.new (W.drewN _) _ _
              have hF4 : Fr wr W4 := by rw [hW4]; exact (hFW.drewN _).alloc _
              have htb : wr.heap.size ≤ W.heap.size := hFW.size
              have hbt : be < W.heap.size := lb
              have g0 : W4.cell? ⟨be, 0, none⟩ = some (.int .i64 i) := by rw [hW4]; exact cell_al (W := W.drewN _) _ b0
              have g1 : W4.cell? ⟨be, 1, none⟩ = some (.int .i64 t) := by rw [hW4]; exact cell_al (W := W.drewN _) _ b1
              have g2 : W4.cell? ⟨be, 2, none⟩ = some (.bool false) := by rw [hW4]; exact cell_al (W := W.drewN _) _ b2
              generalize W.heap.size = tb at hT4 htb hbt ⊢
              clear hW4 b0 b1 b2 lb x1 lx r0 lr hFW
              have lg := lt_of_cell g0
              simp only at lg
              have t2 := hT4.at 2 rfl
              have t3 := hT4.at 3 rfl
              have t4 := hT4.at 4 rfl
              have ft2 := hT4.free 2
              have ft3 := hT4.free 3
              have ft4 := hT4.free 4
              have lt4 := hT4.lt
              have n5 := (kz5.fr hF4)
              have c5 := n5.1
              have f5 := n5.2
              have ln := n5.lt
              have x0 := (HS.out.x0.fr hF4).1
              have lx := (HS.out.x0.fr hF4).lt
              have kx3 := HS.out.x3.fr hF4
              have x3 := kx3.1
              have fx3 := kx3.2
              have q0 := (HKS.out.1.fr hF4).1
              have lh := (HKS.out.1.fr hF4).lt
              have hlf := retsTo_le rs k
              obtain ⟨lf, hLF⟩ : ∃ lf, lf = retsTo rs k := ⟨_, rfl⟩
              rw [← hLF] at x3 kx3 hlf
              have HLF := Lib.hid hLF
              have hge2 := HS.out.ge HLAST.out.2
              have HGE := Lib.hid hge2
              have hNw : N i < wr.heap.size := kz5.lt
              have hxw : x < wr.heap.size := HS.out.x0.lt
              have hhw : h < wr.heap.size := HKS.out.1.lt
              have hpw : pv h < wr.heap.size := hge2.2.1
              have nt1 : N i ≠ tb := by omega
              have nt2 : x ≠ tb := by omega
              have nt3 : h ≠ tb := by omega
              have nt4 : be ≠ tb := by omega
              have nt5 : be ≠ N i := by omega
              have nt6 : be ≠ x := by omega
              have nt7 : pv h ≠ tb := by omega
              have HT4 := Lib.hid hT4
              have HN := Lib.hid (⟨n5, kx3⟩ : _ ∧ _)
              clear n5 kx3 kz5 hLF hge2 hT4
              go_wp2_with fail
              refine (link_c tb (pv h) h (.pointer none) (.pointer none) (Pt (pv h)) _ ?g0 ?g1 ?gp ?gq nt7 nt3).mono ?_
              case g0 => exact (((((HT4.out.cel 0 rfl).keepSet (.inl nt1.symm) _).keepSet (.inl nt2.symm) _).keepSet (.inr (by omega)) _).keepSet (.inr (by omega)) _).keepSet (.inr (by omega)) _
              case g1 => exact (((((HT4.out.cel 1 rfl).keepSet (.inl nt1.symm) _).keepSet (.inl nt2.symm) _).keepSet (.inr (by omega)) _).keepSet (.inr (by omega)) _).keepSet (.inr (by omega)) _
              case gp => exact (((((HKS.out.2.fr hF4).keepSet (.inr (by omega)) _).keepSet (.inr (by omega)) _).keepSet (.inr (by omega)) _).keepSet (.inr (by omega)) _).keepSet (.inr (by omega)) _
              case gq => exact (((((HKS.out.1.fr hF4).keepSet (.inr (by omega)) _).keepSet (.inr (by omega)) _).keepSet (.inr (by omega)) _).keepSet (.inr (by omega)) _).keepSet (.inr (by omega)) _
              rintro e w6 ⟨rfl, hR⟩
              have k5 : ∀ {b o z}, Cel wr b o z → ¬ (b = N i ∧ o = 5) → ¬ (b = x ∧ o = 3) → Cel (((((W4.setCell ⟨N i, 5, none⟩ (Pt tb)).setCell ⟨x, 3, none⟩ (.int .i64 ((lf : Int) + 1))).setCell ⟨tb, 2, none⟩ (.int .i64 i)).setCell ⟨tb, 3, none⟩ (.int .i64 t)).setCell ⟨tb, 4, none⟩ (.bool false)) b o z := fun {b o z} hc h1 h2 =>
                (((((hc.fr hF4).keepSet (not_and_or' h1) _).keepSet (not_and_or' h2) _).keepSet (.inl (by have := hc.lt; omega)) _).keepSet (.inl (by have := hc.lt; omega)) _).keepSet (.inl (by have := hc.lt; omega)) _
              obtain ⟨m5', mx3⟩ := HN.out
              have hD : DidRet wr w6 (N i) tb x (pv h) h (retsTo rs k) := by
                rw [← HLF.out]
                refine ⟨fun b o z hc h1 h2 h3 h4 => hR.keep _ _ _ (k5 hc h1 h2) h3 h4 (fun e => by have := hc.lt; omega), hR.n0, hR.n1, ?_, ?_, ?_, hR.p1, hR.q0, htb, Nat.le_trans hF4.size (by have := hR.chg.size; simpa using this), fun hz => hR.fre h ((((((hz.fr hF4 hhw).set _ _).set _ _).set _ _).set _ _).set _ _)⟩
                · exact hR.keep _ _ _ ((((((HT4.out.cel 4 rfl).keepSet (.inl nt1.symm) _).keepSet (.inl nt2.symm) _).keepSet (.inr (by omega)) _).keepSet (.inr (by omega)) _).set _) (fun e => nt7 e.1.symm) (fun e => nt3 e.1.symm) (fun e => by omega)
                · exact hR.keep _ _ _ (((((m5'.set _).keepSet (.inl m3) _).keepSet (.inl nt1) _).keepSet (.inl nt1) _).keepSet (.inl nt1) _) (fun e => by omega) (fun e => by omega) (fun e => nt1 e.1)
                · have hq := hR.keep _ _ _ (((((mx3.keepSet (.inl m3.symm) _).set (.int .i64 ((lf : Int) + 1))).keepSet (.inl nt2) _).keepSet (.inl nt2) _).keepSet (.inl nt2) _) (fun e => by omega) (fun e => by omega) (fun e => nt2 e.1)
                  have e1 : ((lf + 1 : Nat) : Int) = (lf : Int) + 1 := by omega
                  rw [e1]
                  exact hq
              have hC : Chg (fun b => b = N i ∨ b = x ∨ b = tb ∨ b = pv h ∨ b = h) wr w6 := by
                refine Chg.trans ?_ (hR.chg.mono fun b _ hb => ?_)
                · exact (((((hF4.chg (S := fun b => b = N i ∨ b = x ∨ b = tb ∨ b = pv h ∨ b = h)).set (p := ⟨N i, 5, none⟩) (.inr (.inl rfl)) _).set (p := ⟨x, 3, none⟩) (.inr (.inr (.inl rfl))) _).set (p := ⟨tb, 2, none⟩) (.inr (.inr (.inr (.inl rfl)))) _).set (p := ⟨tb, 3, none⟩) (.inr (.inr (.inr (.inl rfl)))) _).set (p := ⟨tb, 4, none⟩) (.inr (.inr (.inr (.inl rfl)))) _
                · rcases hb with h1 | h1 | h1
                  · exact .inr (.inr (.inl h1))
                  · exact .inr (.inr (.inr (.inl h1)))
                  · exact .inr (.inr (.inr (.inr h1)))
              have hF6 : Fr w1 w6 := hC.fr hfr fun b hb => by
                have hws := hfr.size
                rcases hb with rfl | rfl | rfl | rfl | rfl
                · exact m2
                · exact hge.2
                · omega
                · exact HGE.out.1
                · exact hge.1
              have hrw : ∀ g, (Value.slice (some ⟨gr, 0, none⟩) rs.length cr).ownBlock = some g → w6.heap[g]? = wr.heap[g]? := fun g hg => by
                have hg' := HO4.out.2 g hg
                have hgl := (World.ownsRow.lt HS.out.rows g hg).2
                refine hC.block g hgl fun e => ?_
                rcases e with e | e | e | e | e
                · exact hg'.2.2.2 i hi e
                · exact hg'.2.1 e
                · omega
                · exact HGE.out.2.2.2 g hg e.symm
                · exact hg'.2.2.1 e
              have hnew := Lib.hid (HRETN.out w6 tb (by first | trivial | rfl) hD hrw)
              have HF6 := Lib.hid hF6
              clear hR k5 m5' mx3 hD hC hF6 hrw HN HGE HCALL HRETN HNCL HLAST HKS HO4 HS hfr hF4 HT4 HLF
              go_wp2_with fail
              go_roundw
              case rel => exact ⟨k + 1, _, _, _, by omega, by go_num, HF6.out, hnew⟩
              case measure => first | (simp [intOf]; done) | (simp [intOf]; omega)
            · have hfr2 : Fr wr W := hFW
              obtain ⟨z2, kz2⟩ := HS.out.rowx i hi 2 (by omega)
              obtain ⟨z3, kz3⟩ := HS.out.rowx i hi 3 (by omega)
              obtain ⟨z4, kz4⟩ := HS.out.rowx i hi 4 (by omega)
              obtain ⟨z6, kz6⟩ := HS.out.rowx i hi 6 (by omega)
              have n2 := (kz2.fr hFW)
              have n3 := (kz3.fr hFW)
              have n4 := (kz4.fr hFW)
              have n6 := (kz6.fr hFW)
              have c2 := n2.1
              have c3 := n3.1
              have c4 := n4.1
              have c6 := n6.1
              have f2 := n2.2
              have f3 := n3.2
              have f4 := n4.2
              have f6 := n6.2
              have ln := n2.lt
              have x0 := (HS.out.x0.fr hFW).1
              have q0 := (HKS.out.1.fr hFW).1
              have lh := (HKS.out.1.fr hFW).lt
              have HN := Lib.hid (⟨n2, n3, n4, n6⟩ : _ ∧ _ ∧ _ ∧ _)
              have hbe : be ≠ N i := by omega
              obtain ⟨z0, kz0⟩ := HS.out.rowx i hi 0 (by omega)
              obtain ⟨z1, kz1⟩ := HS.out.rowx i hi 1 (by omega)
              have n0 := Lib.hid (kz0.fr hFW)
              have n1 := Lib.hid (kz1.fr hFW)
              have hfresh := HS.out.freshN hi (HNCL.out rfl)
              have hpn : pv h ≠ N i := fun e => hfresh (by rw [← e]; exact HLAST.out.2)
              have hhn : h ≠ N i := fun e => hfresh (by rw [← e]; simp)
              have hge2 := HS.out.ge HLAST.out.2
              have HGE := Lib.hid hge2
              have HPN := Lib.hid (⟨hpn, hhn⟩ : _ ∧ _)
              clear hfresh kz0 kz1 hge2 hpn
              clear n2 n3 n4 n6 kz2 kz3 kz4 kz6
              go_wp2_with fail
              refine (link_c (N i) (pv h) h z0 z1 (Pt (pv h)) _ ?h0 ?h1 ?hp ?hq HPN.out.1 HPN.out.2).mono ?_
              case h0 => exact (((((n0.out.drewN _).keepSet (.inr (by omega)) _).keepSet (.inr (by omega)) _).keepSet (.inr (by omega)) _).keepSet (.inr (by omega)) _)
              case h1 => exact (((((n1.out.drewN _).keepSet (.inr (by omega)) _).keepSet (.inr (by omega)) _).keepSet (.inr (by omega)) _).keepSet (.inr (by omega)) _)
              case hp => exact ((((((HKS.out.2.fr hFW).drewN _).keepSet (.inr (by omega)) _).keepSet (.inr (by omega)) _).keepSet (.inr (by omega)) _).keepSet (.inr (by omega)) _)
              case hq => exact ((((((HKS.out.1.fr hFW).drewN _).keepSet (.inr (by omega)) _).keepSet (.inr (by omega)) _).keepSet (.inr (by omega)) _).keepSet (.inr (by omega)) _)
              rintro e w6 ⟨rfl, hR⟩
              have k5 : ∀ {b o z}, Cel wr b o z → ¬ (b = N i ∧ (o ≤ 4 ∨ o = 6)) → Cel (((((W.drewN nq).setCell ⟨N i, 6, none⟩ (.int .i64 k)).setCell ⟨N i, 2, none⟩ (.int .i64 i)).setCell ⟨N i, 3, none⟩ (.int .i64 t)).setCell ⟨N i, 4, none⟩ (.bool true)) b o z := fun {b o z} hc hn =>
                (((((hc.fr hFW).drewN _).keepSet (not_and_or' fun e => hn ⟨e.1, by omega⟩) _).keepSet (not_and_or' fun e => hn ⟨e.1, by omega⟩) _).keepSet (not_and_or' fun e => hn ⟨e.1, by omega⟩) _).keepSet (not_and_or' fun e => hn ⟨e.1, by omega⟩) _
              obtain ⟨m2', m3', m4', m6'⟩ := HN.out
              have hD : DidCall wr w6 (N i) (pv h) h k i t := by
                refine ⟨fun b o z hc h1 h2 h3 => hR.keep _ _ _ (k5 hc h1) h2 h3 (fun e => h1 ⟨e.1, by omega⟩), hR.n0, hR.n1, ?_, ?_, ?_, ?_, hR.p1, hR.q0, Nat.le_trans hFW.size (by have := hR.chg.size; simpa using this), fun hz => hR.fre h ((((((hz.fr hFW HKS.out.1.lt).drewN _).set _ _).set _ _).set _ _).set _ _)⟩
                · exact hR.keep _ _ _ (((((m2'.drewN _).keepSet (.inr (by omega)) _).set _).keepSet (.inr (by omega)) _).keepSet (.inr (by omega)) _) (fun e => by omega) (fun e => by omega) (fun e => by omega)
                · exact hR.keep _ _ _ (((((m3'.drewN _).keepSet (.inr (by omega)) _).keepSet (.inr (by omega)) _).set _).keepSet (.inr (by omega)) _) (fun e => by omega) (fun e => by omega) (fun e => by omega)
                · exact hR.keep _ _ _ (((((m4'.drewN _).keepSet (.inr (by omega)) _).keepSet (.inr (by omega)) _).keepSet (.inr (by omega)) _).set _) (fun e => by omega) (fun e => by omega) (fun e => by omega)
                · exact hR.keep _ _ _ (((((m6'.drewN _).set _).keepSet (.inr (by omega)) _).keepSet (.inr (by omega)) _).keepSet (.inr (by omega)) _) (fun e => by omega) (fun e => by omega) (fun e => by omega)
              have hC : Chg (fun b => b = N i ∨ b = pv h ∨ b = h) wr w6 := by
                refine Chg.trans ?_ hR.chg
                exact (((((hFW.chg (S := fun b => b = N i ∨ b = pv h ∨ b = h)).drewN _).set (p := ⟨N i, 6, none⟩) (.inr (.inl rfl)) _).set (p := ⟨N i, 2, none⟩) (.inr (.inl rfl)) _).set (p := ⟨N i, 3, none⟩) (.inr (.inl rfl)) _).set (p := ⟨N i, 4, none⟩) (.inr (.inl rfl)) _
              have hF6 : Fr w1 w6 := hC.fr hfr fun b hb => by
                rcases hb with rfl | rfl | rfl
                · exact m2
                · exact HGE.out.1
                · exact hge.1
              have hrw : ∀ g, (Value.slice (some ⟨gr, 0, none⟩) rs.length cr).ownBlock = some g → w6.heap[g]? = wr.heap[g]? := fun g hg => by
                have hg' := HO4.out.2 g hg
                refine hC.block g (World.ownsRow.lt HS.out.rows g hg).2 fun e => ?_
                rcases e with e | e | e
                · exact hg'.2.2.2 i hi e
                · exact HGE.out.2.2.2 g hg e.symm
                · exact hg'.2.2.1 e
              have hnew := Lib.hid (HCALL.out w6 (by first | trivial | rfl) hD hrw)
              have HF6 := Lib.hid hF6
              clear hR k5 m2' m3' m4' m6' hD hC hF6 hrw HN n0 n1 HPN HGE HCALL HRETN HNCL HLAST HKS HO4 HS hfr hFW hfr2
              go_wp2_with fail
              go_roundw
              case rel => exact ⟨k + 1, _, _, _, by omega, by go_num, HF6.out, hnew⟩
              case measure => first | (simp [intOf]; done) | (simp [intOf]; omega)
          · obtain rfl : k = (inOrder rs).length := by omega
            go_wp2_with fail
            go_ret
            exact ⟨hF1.trans hfr, .inr ⟨HMAY.out, x, h, B, N, T, nx, pv, vr, w1, rfl, hF1, hfr, HS.out⟩⟩
  · have HMAY := Lib.hid hmay
    clear hmay hord
    go_wp2_with fail
    go_ret
    exact ⟨hF1, .inl ⟨HMAY.out, rfl⟩⟩
end Go.Proofs.Ytjomjlodmelnbaa

/- Layer 16: a list of rows in memory; what reads it. No condition but that it lies there. -/
namespace Go.Proofs.Ytjomjlodmelnbaa
open Go.RowKit Go.Sort
attribute [local go_sem] Oper.semAt_some

def nodes (N T : Nat → Nat) (rs : List ERow) : List Nat := (inOrder rs).map (nid N T)
/-- The nodes of the rows that are lifted, in the order in which they were taken out. -/
def rems (N T : Nat → Nat) (rs : List ERow) (up : List Nat) : List Nat := up.flatMap fun i => N i :: if (rs[i]?.any ERow.done) then [T i] else []
/-- How many rows with returns are not lifted. -/
def leftOf (rs : List ERow) (up : List Nat) : Nat := ((List.range rs.length).filter fun i => rs[i]?.any ERow.done && !up.contains i).length
def retV (T : Nat → Nat) (rs : List ERow) (i : Nat) : Value := if rs[i]?.any ERow.done then Pt (T i) else .pointer none
/-- A list of rows, of which some are lifted; all blocks that it uses are of Z. -/
structure LAt (Z : Nat → Prop) (base : Nat) (w : World) (x h : Nat) (N T nx pv : Nat → Nat) (rs : List ERow) (up : List Nat) (vr vl : Value) : Prop where
  x0 : Cel w x 0 (Pt h)
  x1 : Cel w x 1 vr
  x2 : Cel w x 2 vl
  x3 : Cel w x 3 (.int .i64 (leftOf rs up))
  links : ∀ b, b ∈ h :: nodes N T rs → Cel w b 0 (Pt (pv b)) ∧ Cel w b 1 (Pt (nx b))
  row : ∀ i, i < rs.length → Cel w (N i) 2 (.int .i64 i) ∧ Cel w (N i) 4 (.bool true) ∧ Cel w (N i) 5 (retV T rs i) ∧ Cel w (N i) 6 (.int .i64 (placeOf rs i)) ∧ Cel w (N i) 7 (.bool (up.contains i))
  ret : ∀ i, i < rs.length → rs[i]?.any ERow.done = true → Cel w (T i) 4 (.bool false)
  rows : w.ownsRow base 76 1 vr rs.length ((List.range rs.length).map fun i => Pt (N i))
  lifted : w.ownsRow base 3 1 vl up.length (up.map fun i => .int .i64 (i : Nat))
  dance : Dance nx pv h (nodes N T rs) (rems N T rs up)
  ups : up.Nodup ∧ (∀ i ∈ up, i < rs.length) ∧ rs.length ≤ 7036874417600
  inj : ∀ i j, i < rs.length → j < rs.length → N i = N j → i = j
  apart : x ≠ h ∧ ∀ b ∈ nodes N T rs, b ≠ x
  ownr : ∀ g, vr.ownBlock = some g → Z g ∧ g ≠ x ∧ g ∉ h :: nodes N T rs
  ownl : ∀ g, vl.ownBlock = some g → Z g ∧ g ≠ x ∧ g ∉ h :: nodes N T rs ∧ vr.ownBlock ≠ some g
  zs : Z x ∧ ∀ b ∈ h :: nodes N T rs, Z b
  hz : Fre w h
theorem nid_call {N T : Nat → Nat} {rs : List ERow} {i : Nat} (h : i < rs.length) : N i ∈ nodes N T rs := List.mem_map.2 ⟨_, call_mem h, by simp [nid]⟩
theorem nid_ret {N T : Nat → Nat} {rs : List ERow} {i : Nat} (h : rs[i]?.any ERow.done = true) : T i ∈ nodes N T rs := by
  cases hr : rs[i]? with
  | none => rw [hr] at h; cases h
  | some r =>
    obtain ⟨h1, rfl⟩ := List.getElem?_eq_some_iff.1 hr
    rw [hr] at h
    exact List.mem_map.2 ⟨⟨i, rs[i].to, false⟩, mem_inOrder.2 (mem_ents.2 ⟨h1, .inr ⟨rfl, by simpa using h, rfl⟩⟩), by simp [nid]⟩
/-- A list of rows somewhere. -/
def ListAt (Z : Nat → Prop) (base : Nat) (w : World) (x : Nat) (rs : List ERow) (up : List Nat) : Prop := ∃ h N T nx pv vr vl, LAt Z base w x h N T nx pv rs up vr vl
theorem ownsRow_base {w : World} {base base' : Nat} {e : TypeId} {size n : Nat} {v : Value} {xs : List Value} (h : w.ownsRow base e size v n xs) (hb : base' ≤ base) : w.ownsRow base' e size v n xs := by
  obtain ⟨h1, h2⟩ := h
  refine ⟨h1, ?_⟩
  rcases h2 with h2 | ⟨g, cap, cur, h3, g1, g2⟩
  · exact .inl h2
  · exact .inr ⟨g, cap, cur, h3, by omega, g2⟩
theorem hasCall_all {rs : List ERow} {i : Nat} (h : i < rs.length) : hasCall rs (inOrder rs).length i := ⟨_, by rw [List.take_length]; exact call_mem h, rfl, rfl⟩
theorem hasRet_all {rs : List ERow} {i : Nat} : hasRet rs (inOrder rs).length i ↔ rs[i]?.any ERow.done = true := by
  unfold hasRet
  rw [List.take_length]
  constructor
  · rintro ⟨e, he, h1, rfl⟩
    obtain ⟨g1, g2⟩ := mem_ents.1 (mem_inOrder.1 he)
    rw [List.getElem?_eq_getElem g1]
    rcases g2 with g2 | g2
    · rw [h1] at g2; cases g2.1
    · simpa using g2.2.1
  · intro h
    cases hr : rs[i]? with
    | none => rw [hr] at h; cases h
    | some r =>
      obtain ⟨h1, rfl⟩ := List.getElem?_eq_some_iff.1 hr
      rw [hr] at h
      exact ⟨⟨i, rs[i].to, false⟩, mem_inOrder.2 (mem_ents.2 ⟨h1, .inr ⟨rfl, by simpa using h, rfl⟩⟩), rfl, rfl⟩
theorem nodup_map_row {l : List Ent} (h : l.Nodup) (hu : ∀ e ∈ l, ∀ f ∈ l, e.row = f.row → e = f) : (l.map (·.row)).Nodup := by
  induction l with
  | nil => simp
  | cons a l ih =>
    rw [List.nodup_cons] at h
    rw [List.map_cons, List.nodup_cons]
    refine ⟨fun hm => ?_, ih h.2 fun e he f hf => hu e (List.mem_cons_of_mem _ he) f (List.mem_cons_of_mem _ hf)⟩
    obtain ⟨f, hf, he⟩ := List.mem_map.1 hm
    have := hu a List.mem_cons_self f (List.mem_cons_of_mem _ hf) he.symm
    exact h.1 (this ▸ hf)
theorem retsTo_all (rs : List ERow) : retsTo rs (inOrder rs).length = leftOf rs [] := by
  unfold retsTo leftOf
  rw [List.take_length]
  have h1 : (((inOrder rs).filter fun e => !e.call).map (·.row)).Nodup := nodup_map_row ((inOrder_nodup rs).filter _) fun e he f hf hr => by
    rw [List.mem_filter] at he hf
    exact ent_unique he.1 hf.1 hr (by have := he.2; have := hf.2; simp_all)
  have h2 : ((List.range rs.length).filter fun i => rs[i]?.any ERow.done && !([] : List Nat).contains i).Nodup := List.nodup_range.filter _
  have h3 : ∀ i, i ∈ ((inOrder rs).filter fun e => !e.call).map (·.row) ↔ i ∈ (List.range rs.length).filter fun i => rs[i]?.any ERow.done && !([] : List Nat).contains i := fun i => by
    rw [List.mem_map, List.mem_filter, List.mem_range]
    constructor
    · rintro ⟨e, he, rfl⟩
      rw [List.mem_filter] at he
      have hc : e.call = false := by simpa using he.2
      have := hasRet_all.1 ⟨e, by rw [List.take_length]; exact he.1, hc, rfl⟩
      exact ⟨row_lt he.1, by simpa using this⟩
    · rintro ⟨g1, g2⟩
      obtain ⟨e, he, h1, h2⟩ := hasRet_all.2 (show rs[i]?.any ERow.done = true by simpa using g2)
      rw [List.take_length] at he
      exact ⟨e, List.mem_filter.2 ⟨he, by simp [h1]⟩, h2⟩
  have h4 := ((List.perm_ext_iff_of_nodup h1 h2).2 h3).length_eq
  rwa [List.length_map] at h4
/-- What New has made is a list of which none is lifted. -/
theorem NewSt.list {w0 w : World} {x h B : Nat} {N T nx pv : Nat → Nat} {rs : List ERow} {vr : Value} (S : NewSt w0 w x h B N T nx pv rs (inOrder rs).length vr) (hn : rs.length ≤ 7036874417600) (f : Fr w0 w) : ListAt (w0.heap.size ≤ ·) w0.heap.size w x rs [] := by
  have htk : (inOrder rs).take (inOrder rs).length = inOrder rs := List.take_length
  have hmem : ∀ b, b ∈ h :: nodes N T rs → b ∈ h :: ((inOrder rs).take (inOrder rs).length).map (nid N T) := fun b hb => by rw [htk]; exact hb
  refine ⟨h, N, T, nx, pv, vr, .slice none 0 0, S.x0, S.x1, S.x2, ?_, fun b hb => S.links b (hmem b hb), fun i hi => ?_, fun i hi hd => S.ret i (hasRet_all.2 hd), S.rows, World.ownsRow_nil _ _ _ _, ?_, ⟨List.nodup_nil, (fun i hi => by cases hi), hn⟩, S.inj, ⟨S.old.2.2.1, fun b hb => (S.ge (hmem b (List.mem_cons_of_mem _ hb))).2.2.1⟩, fun g hg => ⟨(World.ownsRow.lt S.rows g hg).1, (S.own g hg).2.1, fun hm => (S.ge (hmem g hm)).2.2.2 g hg rfl⟩, (fun g hg => by cases hg), ⟨S.old.2.2.2.2.1, fun b hb => (S.ge (hmem b hb)).1⟩, S.hz⟩
  · have := S.x3
    rwa [retsTo_all] at this
  · obtain ⟨g1, g2, g3⟩ := S.rowc i hi (hasCall_all hi)
    refine ⟨g1, g2, ?_, g3, S.row7 i hi⟩
    have h5 := S.row5 i hi
    unfold retPt at h5
    unfold retV
    by_cases hd : rs[i]?.any ERow.done = true
    · rw [if_pos hd]; rwa [if_pos (hasRet_all.2 hd)] at h5
    · rw [if_neg hd]; rwa [if_neg (fun e => hd (hasRet_all.1 e))] at h5
  · have := S.dance
    rw [htk] at this
    exact this
/-- It stays where its blocks stay. -/
theorem LAt.keep {Z : Nat → Prop} {base : Nat} {w w' : World} {x h : Nat} {N T nx pv : Nat → Nat} {rs : List ERow} {up : List Nat} {vr vl : Value} (L : LAt Z base w x h N T nx pv rs up vr vl) {S : Nat → Prop} (k : Chg S w w') (hz : ∀ b, Z b → b < w.heap.size → ¬ S b) : LAt Z base w' x h N T nx pv rs up vr vl := by
  have kx : ∀ {o z}, Cel w x o z → Cel w' x o z := fun hc => hc.chg k (hz x L.zs.1 hc.lt)
  have kb : ∀ {b o z}, b ∈ h :: nodes N T rs → Cel w b o z → Cel w' b o z := fun hb hc => hc.chg k (hz _ (L.zs.2 _ hb) hc.lt)
  refine ⟨kx L.x0, kx L.x1, kx L.x2, kx L.x3, fun b hb => ⟨kb hb (L.links b hb).1, kb hb (L.links b hb).2⟩, fun i hi => ?_, fun i hi hd => kb (List.mem_cons_of_mem _ (nid_ret hd)) (L.ret i hi hd), ?_, ?_, L.dance, L.ups, L.inj, L.apart, L.ownr, L.ownl, L.zs, L.hz.chg k (L.links h List.mem_cons_self).1.lt (hz h (L.zs.2 h List.mem_cons_self) (L.links h List.mem_cons_self).1.lt)⟩
  · obtain ⟨g1, g2, g3, g4, g5⟩ := L.row i hi
    have hm : N i ∈ h :: nodes N T rs := List.mem_cons_of_mem _ (nid_call hi)
    exact ⟨kb hm g1, kb hm g2, kb hm g3, kb hm g4, kb hm g5⟩
  · exact ownsRow_kept2 L.rows fun g hg => k.block g (World.ownsRow.lt L.rows g hg).2 (hz g (L.ownr g hg).1 (World.ownsRow.lt L.rows g hg).2)
  · exact ownsRow_kept2 L.lifted fun g hg => k.block g (World.ownsRow.lt L.lifted g hg).2 (hz g (L.ownl g hg).1 (World.ownsRow.lt L.lifted g hg).2)
theorem LAt.fr {Z : Nat → Prop} {base : Nat} {w w' : World} {x h : Nat} {N T nx pv : Nat → Nat} {rs : List ERow} {up : List Nat} {vr vl : Value} (L : LAt Z base w x h N T nx pv rs up vr vl) (f : Fr w w') : LAt Z base w' x h N T nx pv rs up vr vl :=
  L.keep (S := fun _ => False) f.chg fun _ _ _ h => h
theorem ListAt.fr {Z : Nat → Prop} {base : Nat} {w w' : World} {x : Nat} {rs : List ERow} {up : List Nat} (h : ListAt Z base w x rs up) (f : Fr w w') : ListAt Z base w' x rs up := by
  obtain ⟨h, N, T, nx, pv, vr, vl, L⟩ := h
  exact ⟨h, N, T, nx, pv, vr, vl, L.fr f⟩
set_option maxRecDepth 100000 in
theorem is16_c {x h : Nat} (w : World) (h0 : w.cell? ⟨x, 0, none⟩ = some (Pt h)) : Calls Try.prog 36 #[Pt x] w fun e w' => e = .returned (.bool true) ∧ Fr w w' := by
  have hl := lt_of_cell h0
  simp only at hl
  go_enter Try.func36, Try.ntmps36
  go_wp2
  go_ret
  exact ⟨rfl, Fr.refl _⟩
theorem LAt.rowAt {Z : Nat → Prop} {base : Nat} {w : World} {x h : Nat} {N T nx pv : Nat → Nat} {rs : List ERow} {up : List Nat} {vr vl : Value} (L : LAt Z base w x h N T nx pv rs up vr vl) : ∃ a cap, vr = .slice a rs.length cap ∧ rs.length ≤ cap ∧ ∀ i, i < rs.length → ∃ g, a = some ⟨g, 0, none⟩ ∧ w.cell? ⟨g, i, none⟩ = some (Pt (N i)) := by
  have hc := fun g hg => World.ownsRow.cells L.rows (g := g) hg
  rcases L.rows.2 with ⟨h1, h0⟩ | ⟨g, cap, cur, h1, g1, g2, g3, g4, g5⟩
  · exact ⟨none, 0, by rw [h1, h0], by omega, fun i hi => by omega⟩
  · refine ⟨_, cap, h1, g3, fun i hi => ⟨g, rfl, ?_⟩⟩
    have := hc g (by rw [h1]; rfl) i (Pt (N i)) (by simp [hi])
    rwa [WideShapes.add_plain, Nat.zero_add] at this
set_option maxRecDepth 100000 in
theorem atYes_c {Z : Nat → Prop} {base : Nat} {w : World} {x h : Nat} {N T nx pv : Nat → Nat} {rs : List ERow} {up : List Nat} {vr vl : Value} (L : LAt Z base w x h N T nx pv rs up vr vl) (i : Nat) (hi : i < rs.length) :
    Calls Try.prog 34 #[Pt x, .int .i64 i] w fun e w' => e = .returned (.tuple #[Pt (N i), .int .i64 0]) ∧ Fr w w' := by
  have HI := Lib.hid (fun W (f : Fr w W) => is16_c (x := x) (h := h) W (L.x0.fr f).1)
  obtain ⟨a, cap, rfl, hcap, hrow⟩ := L.rowAt
  obtain ⟨g, rfl, hg⟩ := hrow i hi
  have c1 := L.x1.1
  have lx := L.x1.lt
  have lg := lt_of_cell hg
  simp only at lg
  have hil : (i : Int) < (rs.length : Int) := by omega
  have hnn : ¬ (i : Int) < 0 := by omega
  clear L hrow
  go_enter Try.func34, Try.ntmps34
  go_wp2_with fail
  refine (HI.out _ (Fr.refl _)).mono ?_
  rintro e w1 ⟨rfl, hf⟩
  have c1 := hf.keep c1
  have hg := hf.keep hg
  have lx := Nat.lt_of_lt_of_le lx hf.size
  have lg := Nat.lt_of_lt_of_le lg hf.size
  go_wp2_with fail
  go_ret2
  exact ⟨rfl, hf⟩
set_option maxRecDepth 100000 in
theorem atNo_c {Z : Nat → Prop} {base : Nat} {w : World} {x h : Nat} {N T nx pv : Nat → Nat} {rs : List ERow} {up : List Nat} {vr vl : Value} (L : LAt Z base w x h N T nx pv rs up vr vl) (i : Int) (hi : i < 0 ∨ (rs.length : Int) ≤ i) :
    Calls Try.prog 34 #[Pt x, .int .i64 i] w fun e w' => e = .returned (.tuple #[.pointer none, .int .i64 2]) ∧ Fr w w' := by
  have HI := Lib.hid (fun W (f : Fr w W) => is16_c (x := x) (h := h) W (L.x0.fr f).1)
  obtain ⟨a, cap, rfl, hcap, hrow⟩ := L.rowAt
  have c1 := L.x1.1
  have lx := L.x1.lt
  clear L hrow
  by_cases hn : i < 0
  · clear hi
    go_enter Try.func34, Try.ntmps34
    go_wp2_with fail
    refine (HI.out _ (Fr.refl _)).mono ?_
    rintro e w1 ⟨rfl, hf⟩
    have c1 := hf.keep c1
    have lx := Nat.lt_of_lt_of_le lx hf.size
    go_wp2_with fail
    go_ret2
    exact ⟨rfl, hf⟩
  · have hge : (rs.length : Int) ≤ i := by omega
    clear hi
    go_enter Try.func34, Try.ntmps34
    go_wp2_with fail
    refine (HI.out _ (Fr.refl _)).mono ?_
    rintro e w1 ⟨rfl, hf⟩
    have c1 := hf.keep c1
    have lx := Nat.lt_of_lt_of_le lx hf.size
    go_wp2_with fail
    go_ret2
    exact ⟨rfl, hf⟩
theorem beqN0 (n : Nat) : ((n : Int) == 0) = decide (n = 0) := by
  rw [Bool.eq_iff_iff]; simp
theorem lifted_slice {w : World} {base : Nat} {vl : Value} {up : List Nat} (h : w.ownsRow base 3 1 vl up.length (up.map fun i => .int .i64 (i : Nat))) : ∃ a cap, vl = .slice a up.length cap ∧ up.length ≤ cap := by
  rcases h.2 with ⟨h1, h0⟩ | ⟨g, cap, cur, h1, g1, g2, g3, g4, g5⟩
  · exact ⟨none, 0, by rw [h1, h0], by omega⟩
  · exact ⟨_, cap, h1, g3⟩
set_option maxRecDepth 100000 in
theorem count_c {Z : Nat → Prop} {base : Nat} {w : World} {x : Nat} {rs : List ERow} {up : List Nat} (H : ListAt Z base w x rs up) :
    Calls Try.prog 15 #[Pt x] w fun e w' => e = .returned (.int .i64 up.length) ∧ Fr w w' := by
  obtain ⟨h, N, T, nx, pv, vr, vl, L⟩ := H
  have HI := Lib.hid (fun W (f : Fr w W) => is16_c (x := x) (h := h) W (L.x0.fr f).1)
  obtain ⟨a, cap, rfl, _⟩ := lifted_slice L.lifted
  have c2 := L.x2.1
  have lx := L.x2.lt
  clear L
  go_enter Try.func15, Try.ntmps15
  go_wp2_with fail
  refine (HI.out _ (Fr.refl _)).mono ?_
  rintro e w1 ⟨rfl, hf⟩
  have c2 := hf.keep c2
  have lx := Nat.lt_of_lt_of_le lx hf.size
  go_wp2_with fail
  go_ret
  exact ⟨rfl, hf⟩
set_option maxRecDepth 100000 in
theorem whole_c {Z : Nat → Prop} {base : Nat} {w : World} {x : Nat} {rs : List ERow} {up : List Nat} (H : ListAt Z base w x rs up) :
    Calls Try.prog 13 #[Pt x] w fun e w' => e = .returned (.bool (decide (leftOf rs up = 0))) ∧ Fr w w' := by
  obtain ⟨h, N, T, nx, pv, vr, vl, L⟩ := H
  have HI := Lib.hid (fun W (f : Fr w W) => is16_c (x := x) (h := h) W (L.x0.fr f).1)
  have c3 := L.x3.1
  have lx := L.x3.lt
  have e0 : ((leftOf rs up : Int) == 0) = decide (leftOf rs up = 0) := beqN0 _
  clear L
  generalize leftOf rs up = n at c3 e0 ⊢
  generalize decide (n = 0) = b at e0 ⊢
  go_enter Try.func13, Try.ntmps13
  go_wp2_with fail
  refine (HI.out _ (Fr.refl _)).mono ?_
  rintro e w1 ⟨rfl, hf⟩
  have c3 := hf.keep c3
  have lx := Nat.lt_of_lt_of_le lx hf.size
  go_wp2_with fail
  go_ret
  exact ⟨rfl, hf⟩
set_option maxRecDepth 100000 in
theorem lifted_c {Z : Nat → Prop} {base : Nat} {w : World} {x : Nat} {rs : List ERow} {up : List Nat} (H : ListAt Z base w x rs up) (i : Int) :
    Calls Try.prog 22 #[Pt x, .int .i64 i] w fun e w' => e = .returned (.bool (decide (0 ≤ i) && up.contains i.toNat)) ∧ Fr w w' := by
  obtain ⟨h, N, T, nx, pv, vr, vl, L⟩ := H
  by_cases hi : 0 ≤ i ∧ i < rs.length
  · obtain ⟨k, rfl⟩ : ∃ k : Nat, i = k := ⟨i.toNat, by omega⟩
    have hk : k < rs.length := by omega
    have HA := Lib.hid (atYes_c L k hk)
    have c7 := (L.row k hk).2.2.2.2.1
    have l7 := (L.row k hk).2.2.2.2.lt
    have hb : (decide (0 ≤ (k : Int)) && up.contains ((k : Int)).toNat) = up.contains k := by simp
    rw [hb]
    generalize up.contains k = b at c7 ⊢
    clear L hi hb
    go_enter Try.func22, Try.ntmps22
    go_wp2_with fail
    refine HA.out.mono ?_
    rintro e w1 ⟨rfl, hf⟩
    have c7 := hf.keep c7
    have l7 := Nat.lt_of_lt_of_le l7 hf.size
    go_wp2_with fail
    go_ret
    exact ⟨rfl, hf⟩
  · have HA := Lib.hid (atNo_c L i (by omega))
    have hb : (decide (0 ≤ i) && up.contains i.toNat) = false := by
      by_cases h0 : 0 ≤ i
      · have : i.toNat ∉ up := fun hm => by have := L.ups.2.1 _ hm; omega
        simp [this]
      · simp [h0]
    rw [hb]
    clear L hi hb
    go_enter Try.func22, Try.ntmps22
    go_wp2_with fail
    refine HA.out.mono ?_
    rintro e w1 ⟨rfl, hf⟩
    go_wp2_with fail
    go_ret
    exact ⟨rfl, hf⟩
end Go.Proofs.Ytjomjlodmelnbaa
