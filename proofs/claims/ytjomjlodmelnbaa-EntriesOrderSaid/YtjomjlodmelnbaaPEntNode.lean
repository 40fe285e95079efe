/- Layer 16: the nodes of a ring in memory: link, out, back. No condition but that the cells are there. -/
import Derived.Test.YtjomjlodmelnbaaPEntStable
import Derived.Test.YtjomjlodmelnbaaPRing
import Derived.Test.YtjomjlodmelnbaaPBase
set_option linter.all false
set_option linter.unusedVariables false
set_option linter.unusedSimpArgs false
set_option linter.unnecessarySimpa false
/- Layer 16: the nodes of a ring in memory: link, out, back. No condition but that the cells are there. -/
namespace Go.Proofs.Ytjomjlodmelnbaa
open Go.RowKit Go.Sort
attribute [local go_sem] Oper.semAt_some

@[reducible] def Pt (b : Nat) : Value := .pointer (some ⟨b, 0, none⟩)
theorem Cel.lt {W : World} {b o : Nat} {v : Value} (h : Cel W b o v) : b < W.heap.size := lt_of_cell h.1
theorem Cel.keepSet {W : World} {b o c p : Nat} {v : Value} (h : Cel W b o v) (hne : b ≠ c ∨ o ≠ p) (u : Value) : Cel (W.setCell ⟨c, p, none⟩ u) b o v := by
  by_cases hb : b = c
  · subst hb
    have ho : o ≠ p := hne.resolve_left (fun e => e rfl)
    refine ⟨?_, by rw [World.frozen?_setCell]; exact h.2⟩
    have hne2 : (⟨b, p, none⟩ : Addr) ≠ ⟨b, o, none⟩ := fun e => ho (congrArg Addr.off e).symm
    exact (World.cell?_setCell_other W _ _ _ hne2).trans h.1
  · exact h.setOther hb u
theorem Cel.drew {W : World} {b o : Nat} {v : Value} (h : Cel W b o v) : Cel W.drew b o v := h
theorem Cel.chg {S : Nat → Prop} {w w' : World} {b o : Nat} {v : Value} (h : Cel w b o v) (k : Chg S w w') (hb : ¬ S b) : Cel w' b o v := by
  have hl := k.block b h.lt hb
  refine ⟨(World.cell?_of_block (a := ⟨b, o, none⟩) hl).trans h.1, ?_⟩
  have h2 := h.2
  unfold World.frozen? at h2 ⊢
  simp only at h2 ⊢
  rw [hl]
  exact h2
theorem BoxAt.cel {w : World} {b : Nat} {c : Array Value} {t : TypeId} (h : BoxAt w b c t) (j : Nat) {v : Value} (hv : c[j]? = some v) : Cel w b j v := ⟨h.at j hv, h.free j⟩
/-- No cell of a block is frozen. -/
def Fre (w : World) (b : Nat) : Prop := ∀ o, w.frozen? ⟨b, o, none⟩ = false
theorem Fre.set {w : World} {b : Nat} (h : Fre w b) (p : Addr) (v : Value) : Fre (w.setCell p v) b := fun o => by rw [World.frozen?_setCell]; exact h o
theorem Fre.blk {w w' : World} {b : Nat} (h : Fre w b) (e : w'.heap[b]? = w.heap[b]?) : Fre w' b := fun o => (World.frozen?_of_block (a := ⟨b, o, none⟩) e).trans (h o)
theorem Fre.chg {S : Nat → Prop} {w w' : World} {b : Nat} (h : Fre w b) (k : Chg S w w') (hl : b < w.heap.size) (hb : ¬ S b) : Fre w' b := h.blk (k.block b hl hb)
theorem Fre.fr {w w' : World} {b : Nat} (h : Fre w b) (k : Fr w w') (hl : b < w.heap.size) : Fre w' b := h.blk (k.block hl)
theorem Fre.drewN {w : World} {b : Nat} (h : Fre w b) (n : Nat) : Fre (w.drewN n) b := h
theorem Fre.drew {w : World} {b : Nat} (h : Fre w b) : Fre w.drew b := h
/-- Two cells are written, all else stands. -/
structure Wr2 (w w' : World) (p q : Nat) (u v : Value) : Prop where
  chg : Chg (fun b => b = p ∨ b = q) w w'
  one : Cel w' p 1 u
  two : Cel w' q 0 v
  keep : ∀ b o z, Cel w b o z → ¬ (b = p ∧ o = 1) → ¬ (b = q ∧ o = 0) → Cel w' b o z
  fre : ∀ b, Fre w b → Fre w' b
theorem wr2_of {w W : World} {p q : Nat} {u v vp vq : Value} (hW : W = ((w.setCell ⟨p, 1, none⟩ u).setCell ⟨q, 0, none⟩ v).drew) (hp : Cel w p 1 vp) (hq : Cel w q 0 vq) : Wr2 w W p q u v := by
  subst hW
  refine ⟨?_, ?_, ?_, fun b o z h h1 h2 => ?_, fun b hb => ((hb.set _ _).set _ _).drew⟩
  · exact Chg.drew (((Chg.refl _ w).set (p := ⟨p, 1, none⟩) (.inr (.inl rfl)) u).set (p := ⟨q, 0, none⟩) (.inr (.inr rfl)) v)
  · exact ((hp.set u).keepSet (.inr (by omega)) v).drew
  · exact ((hq.keepSet (.inr (by omega)) u).set v).drew
  · have hb1 : b ≠ p ∨ o ≠ 1 := by by_cases e : b = p; exact .inr fun e2 => h1 ⟨e, e2⟩; exact .inl e
    have hb2 : b ≠ q ∨ o ≠ 0 := by by_cases e : b = q; exact .inr fun e2 => h2 ⟨e, e2⟩; exact .inl e
    exact ((h.keepSet hb1 u).keepSet hb2 v).drew
/-- A call that writes two cells. -/
def W2P (w : World) (p q : Nat) (u v : Value) (e : Ending) (w' : World) : Prop := e = .returned (.tuple #[]) ∧ Wr2 w w' p q u v
set_option maxRecDepth 100000 in
theorem out_c (n p q : Nat) (vp vq : Value) (w : World) (h0 : Cel w n 0 (Pt p)) (h1 : Cel w n 1 (Pt q)) (hp : Cel w p 1 vp) (hq : Cel w q 0 vq) (np : p ≠ n) (nq : q ≠ n) :
    Calls Try.prog 35 #[Pt n] w (W2P w p q (Pt q) (Pt p)) := by
  have HP := Lib.hid hp
  have HQ := Lib.hid hq
  obtain ⟨c0, f0⟩ := h0
  obtain ⟨c1, f1⟩ := h1
  have l0 := lt_of_cell c0
  obtain ⟨cp, fp⟩ := hp
  obtain ⟨cq, fq⟩ := hq
  have lp := lt_of_cell cp
  have lq := lt_of_cell cq
  simp only at l0 lp lq
  go_enter Try.func35, Try.ntmps35
  go_wp2
  go_region
  refine gen_w fun W hW => ?_
  have hR := wr2_of hW HP.out HQ.out
  exact bodyPost_end (results_none rfl _ _ _) rfl ⟨rfl, hR⟩
set_option maxRecDepth 100000 in
theorem back_c (n p q : Nat) (vp vq : Value) (w : World) (h0 : Cel w n 0 (Pt p)) (h1 : Cel w n 1 (Pt q)) (hp : Cel w p 1 vp) (hq : Cel w q 0 vq) (np : p ≠ n) (nq : q ≠ n) :
    Calls Try.prog 42 #[Pt n] w (W2P w p q (Pt n) (Pt n)) := by
  have HP := Lib.hid hp
  have HQ := Lib.hid hq
  obtain ⟨c0, f0⟩ := h0
  obtain ⟨c1, f1⟩ := h1
  have l0 := lt_of_cell c0
  obtain ⟨cp, fp⟩ := hp
  obtain ⟨cq, fq⟩ := hq
  have lp := lt_of_cell cp
  have lq := lt_of_cell cq
  simp only at l0 lp lq
  go_enter Try.func42, Try.ntmps42
  go_wp2
  go_region
  refine gen_w fun W hW => ?_
  have hR := wr2_of hW HP.out HQ.out
  exact bodyPost_end (results_none rfl _ _ _) rfl ⟨rfl, hR⟩
/-- A new node is linked behind another one: four cells are written. -/
structure Wr4 (w w' : World) (n p q : Nat) : Prop where
  chg : Chg (fun b => b = n ∨ b = p ∨ b = q) w w'
  n0 : Cel w' n 0 (Pt p)
  n1 : Cel w' n 1 (Pt q)
  p1 : Cel w' p 1 (Pt n)
  q0 : Cel w' q 0 (Pt n)
  keep : ∀ b o z, Cel w b o z → ¬ (b = p ∧ o = 1) → ¬ (b = q ∧ o = 0) → ¬ (b = n ∧ o ≤ 1) → Cel w' b o z
  fre : ∀ b, Fre w b → Fre w' b
def W4P (w : World) (n p q : Nat) (e : Ending) (w' : World) : Prop := e = .returned (.tuple #[]) ∧ Wr4 w w' n p q
theorem wr4_of {w W : World} {n p q : Nat} {v0 v1 vp vq : Value} (hW : W = ((((w.setCell ⟨n, 0, none⟩ (Pt p)).setCell ⟨n, 1, none⟩ (Pt q)).setCell ⟨p, 1, none⟩ (Pt n)).setCell ⟨q, 0, none⟩ (Pt n)).drew)
    (h0 : Cel w n 0 v0) (h1 : Cel w n 1 v1) (hp : Cel w p 1 vp) (hq : Cel w q 0 vq) (np : p ≠ n) (nq : q ≠ n) : Wr4 w W n p q := by
  subst hW
  refine ⟨?_, ?_, ?_, ?_, ?_, fun b o z h k1 k2 k3 => ?_, fun b hb => ((((hb.set _ _).set _ _).set _ _).set _ _).drew⟩
  · exact Chg.drew (((((Chg.refl _ w).set (p := ⟨n, 0, none⟩) (.inr (.inl rfl)) _).set (p := ⟨n, 1, none⟩) (.inr (.inl rfl)) _).set (p := ⟨p, 1, none⟩) (.inr (.inr (.inl rfl))) _).set (p := ⟨q, 0, none⟩) (.inr (.inr (.inr rfl))) _)
  · exact ((((h0.set (Pt p)).keepSet (.inr (by omega)) _).keepSet (.inl np.symm) _).keepSet (.inl nq.symm) _).drew
  · exact ((((h1.keepSet (.inr (by omega)) _).set (Pt q)).keepSet (.inl np.symm) _).keepSet (.inl nq.symm) _).drew
  · exact ((((hp.keepSet (.inl np) _).keepSet (.inl np) _).set (Pt n)).keepSet (.inr (by omega)) _).drew
  · exact ((((hq.keepSet (.inl nq) _).keepSet (.inl nq) _).keepSet (.inr (by omega)) _).set (Pt n)).drew
  · have a1 : b ≠ n ∨ o ≠ 0 := by by_cases e : b = n; exact .inr fun e2 => k3 ⟨e, by omega⟩; exact .inl e
    have a2 : b ≠ n ∨ o ≠ 1 := by by_cases e : b = n; exact .inr fun e2 => k3 ⟨e, by omega⟩; exact .inl e
    have a3 : b ≠ p ∨ o ≠ 1 := by by_cases e : b = p; exact .inr fun e2 => k1 ⟨e, e2⟩; exact .inl e
    have a4 : b ≠ q ∨ o ≠ 0 := by by_cases e : b = q; exact .inr fun e2 => k2 ⟨e, e2⟩; exact .inl e
    exact ((((h.keepSet a1 _).keepSet a2 _).keepSet a3 _).keepSet a4 _).drew
set_option maxRecDepth 100000 in
theorem link_c (n p q : Nat) (v0 v1 vq : Value) (w : World) (h0 : Cel w n 0 v0) (h1 : Cel w n 1 v1) (hp : Cel w p 1 (Pt q)) (hq : Cel w q 0 vq) (np : p ≠ n) (nq : q ≠ n) :
    Calls Try.prog 32 #[Pt n, Pt p] w (W4P w n p q) := by
  have H0 := Lib.hid h0
  have H1 := Lib.hid h1
  have HP := Lib.hid hp
  have HQ := Lib.hid hq
  obtain ⟨c0, f0⟩ := h0
  obtain ⟨c1, f1⟩ := h1
  have l0 := lt_of_cell c0
  obtain ⟨cp, fp⟩ := hp
  obtain ⟨cq, fq⟩ := hq
  have lp := lt_of_cell cp
  have lq := lt_of_cell cq
  simp only at l0 lp lq
  go_enter Try.func32, Try.ntmps32
  go_wp2
  go_region
  refine gen_w fun W hW => ?_
  have hR := wr4_of hW H0.out H1.out HP.out HQ.out np nq
  exact bodyPost_end (results_none rfl _ _ _) rfl ⟨rfl, hR⟩
end Go.Proofs.Ytjomjlodmelnbaa

/- Layer 16: what entries.New has laid behind so many entries: plain steps. No condition but what each says. -/
namespace Go.Proofs.Ytjomjlodmelnbaa
open Go.RowKit Go.Sort

/-- An entry's node. -/
def nid (N T : Nat → Nat) (e : Ent) : Nat := if e.call then N e.row else T e.row
def hasCall (rs : List ERow) (k i : Nat) : Prop := ∃ e ∈ (inOrder rs).take k, e.call = true ∧ e.row = i
def hasRet (rs : List ERow) (k i : Nat) : Prop := ∃ e ∈ (inOrder rs).take k, e.call = false ∧ e.row = i
def retsTo (rs : List ERow) (k : Nat) : Nat := (((inOrder rs).take k).filter fun e => !e.call).length
open Classical in
noncomputable def retPt (rs : List ERow) (k : Nat) (T : Nat → Nat) (i : Nat) : Value := if hasRet rs k i then Pt (T i) else .pointer none
theorem retPt_eq {rs : List ERow} {k k' : Nat} {T T' : Nat → Nat} {j : Nat} (h : hasRet rs k' j ↔ hasRet rs k j) (hT : T' j = T j) : retPt rs k' T' j = retPt rs k T j := by
  unfold retPt
  by_cases g : hasRet rs k j
  · rw [if_pos g, if_pos (h.2 g), hT]
  · rw [if_neg g, if_neg (fun e => g (h.1 e))]
/-- What entries.New has laid behind so many entries. -/
structure NewSt (w0 w : World) (x h B : Nat) (N T nx pv : Nat → Nat) (rs : List ERow) (k : Nat) (vr : Value) : Prop where
  x0 : Cel w x 0 (Pt h)
  x1 : Cel w x 1 vr
  x2 : Cel w x 2 (.slice none 0 0)
  x3 : Cel w x 3 (.int .i64 (retsTo rs k))
  links : ∀ b, b ∈ h :: ((inOrder rs).take k).map (nid N T) → Cel w b 0 (Pt (pv b)) ∧ Cel w b 1 (Pt (nx b))
  row5 : ∀ i, i < rs.length → Cel w (N i) 5 (retPt rs k T i)
  row7 : ∀ i, i < rs.length → Cel w (N i) 7 (.bool false)
  rowx : ∀ i, i < rs.length → ∀ o, o ≤ 6 → ∃ z, Cel w (N i) o z
  rowc : ∀ i, i < rs.length → hasCall rs k i → Cel w (N i) 2 (.int .i64 i) ∧ Cel w (N i) 4 (.bool true) ∧ Cel w (N i) 6 (.int .i64 (placeOf rs i))
  ret : ∀ i, hasRet rs k i → Cel w (T i) 4 (.bool false)
  rows : w.ownsRow w0.heap.size 76 1 vr rs.length ((List.range rs.length).map fun i => Pt (N i))
  dance : Dance nx pv h (((inOrder rs).take k).map (nid N T)) []
  inj : ∀ i j, i < rs.length → j < rs.length → N i = N j → i = j
  old : x < B ∧ h < B ∧ x ≠ h ∧ (∀ i, i < rs.length → N i < B ∧ w0.heap.size ≤ N i ∧ N i ≠ x ∧ N i ≠ h) ∧ w0.heap.size ≤ x ∧ w0.heap.size ≤ h
  own : ∀ g, vr.ownBlock = some g → g < B ∧ g ≠ x ∧ g ≠ h ∧ ∀ i, i < rs.length → g ≠ N i
  new : ∀ i, hasRet rs k i → B ≤ T i
  size : B ≤ w.heap.size ∧ w0.heap.size ≤ B
  hz : Fre w h
theorem take_snoc' {rs : List ERow} {k : Nat} (hk : k < (inOrder rs).length) : (inOrder rs).take (k + 1) = (inOrder rs).take k ++ [(inOrder rs)[k]] := List.take_succ_eq_append_getElem hk
theorem hasCall_succ {rs : List ERow} {k : Nat} (hk : k < (inOrder rs).length) (i : Nat) : hasCall rs (k + 1) i ↔ hasCall rs k i ∨ ((inOrder rs)[k].call = true ∧ (inOrder rs)[k].row = i) := by
  unfold hasCall
  rw [take_snoc' hk]
  constructor
  · rintro ⟨e, he, h⟩
    rcases List.mem_append.1 he with he | he
    · exact .inl ⟨e, he, h⟩
    · rw [List.mem_singleton] at he; subst he; exact .inr h
  · rintro (⟨e, he, h⟩ | h)
    · exact ⟨e, List.mem_append_left _ he, h⟩
    · exact ⟨_, List.mem_append_right _ (List.mem_singleton.2 rfl), h⟩
theorem hasRet_succ {rs : List ERow} {k : Nat} (hk : k < (inOrder rs).length) (i : Nat) : hasRet rs (k + 1) i ↔ hasRet rs k i ∨ ((inOrder rs)[k].call = false ∧ (inOrder rs)[k].row = i) := by
  unfold hasRet
  rw [take_snoc' hk]
  constructor
  · rintro ⟨e, he, h⟩
    rcases List.mem_append.1 he with he | he
    · exact .inl ⟨e, he, h⟩
    · rw [List.mem_singleton] at he; subst he; exact .inr h
  · rintro (⟨e, he, h⟩ | h)
    · exact ⟨e, List.mem_append_left _ he, h⟩
    · exact ⟨_, List.mem_append_right _ (List.mem_singleton.2 rfl), h⟩
/-- Entries of one row and one kind are the same. -/
theorem ent_unique {rs : List ERow} {e f : Ent} (he : e ∈ inOrder rs) (hf : f ∈ inOrder rs) (h1 : e.row = f.row) (h2 : e.call = f.call) : e = f := by
  obtain ⟨g1, g2⟩ := mem_ents.1 (mem_inOrder.1 he)
  obtain ⟨g3, g4⟩ := mem_ents.1 (mem_inOrder.1 hf)
  obtain ⟨r, t, c⟩ := e
  obtain ⟨r', t', c'⟩ := f
  simp only at h1 h2 g1 g2 g3 g4
  subst h1 h2
  congr 1
  cases c <;> simp at g2 g4
  · rw [g2.2, g4.2]
  · rw [g2, g4]
theorem not_take {rs : List ERow} {k : Nat} (hk : k < (inOrder rs).length) : (inOrder rs)[k] ∉ (inOrder rs).take k := fun h => by
  have hn := inOrder_nodup rs
  have e : (inOrder rs) = (inOrder rs).take k ++ (inOrder rs)[k] :: (inOrder rs).drop (k + 1) := by rw [← List.drop_eq_getElem_cons hk, List.take_append_drop]
  rw [e] at hn
  exact (List.nodup_append.1 hn).2.2 _ h _ List.mem_cons_self rfl
theorem not_hasCall {rs : List ERow} {k : Nat} (hk : k < (inOrder rs).length) (hc : (inOrder rs)[k].call = true) : ¬ hasCall rs k (inOrder rs)[k].row := by
  rintro ⟨e, he, h1, h2⟩
  have := ent_unique (List.mem_of_mem_take he) (List.getElem_mem hk) h2 (by rw [h1, hc])
  exact not_take hk (this ▸ he)
theorem not_hasRet {rs : List ERow} {k : Nat} (hk : k < (inOrder rs).length) (hc : (inOrder rs)[k].call = false) : ¬ hasRet rs k (inOrder rs)[k].row := by
  rintro ⟨e, he, h1, h2⟩
  have := ent_unique (List.mem_of_mem_take he) (List.getElem_mem hk) h2 (by rw [h1, hc])
  exact not_take hk (this ▸ he)
theorem row_lt {rs : List ERow} {e : Ent} (he : e ∈ inOrder rs) : e.row < rs.length := (mem_ents.1 (mem_inOrder.1 he)).1
/-- What a step's walk has done at a call. -/
structure DidCall (w w' : World) (n p h k i : Nat) (frm : Int) : Prop where
  keep : ∀ b o z, Cel w b o z → ¬ (b = n ∧ (o ≤ 4 ∨ o = 6)) → ¬ (b = p ∧ o = 1) → ¬ (b = h ∧ o = 0) → Cel w' b o z
  n0 : Cel w' n 0 (Pt p)
  n1 : Cel w' n 1 (Pt h)
  n2 : Cel w' n 2 (.int .i64 i)
  n3 : Cel w' n 3 (.int .i64 frm)
  n4 : Cel w' n 4 (.bool true)
  n6 : Cel w' n 6 (.int .i64 k)
  p1 : Cel w' p 1 (Pt n)
  h0 : Cel w' h 0 (Pt n)
  size : w.heap.size ≤ w'.heap.size
  hz : Fre w h → Fre w' h
theorem nid_lt {w0 w : World} {x h B : Nat} {N T nx pv : Nat → Nat} {rs : List ERow} {k : Nat} {vr : Value} (S : NewSt w0 w x h B N T nx pv rs k vr) {b : Nat} (hb : b ∈ ((inOrder rs).take k).map (nid N T)) : (∃ i, i < rs.length ∧ hasCall rs k i ∧ b = N i) ∨ ∃ i, hasRet rs k i ∧ b = T i := by
  obtain ⟨e, he, rfl⟩ := List.mem_map.1 hb
  unfold nid
  cases hc : e.call
  · exact .inr ⟨e.row, ⟨e, he, hc, rfl⟩, by simp⟩
  · exact .inl ⟨e.row, row_lt (List.mem_of_mem_take he), ⟨e, he, hc, rfl⟩, by simp⟩
theorem ownsRow_kept2 {w w' : World} {base : Nat} {e : TypeId} {size n : Nat} {v : Value} {xs : List Value} (h : w.ownsRow base e size v n xs) (hb : ∀ k, v.ownBlock = some k → w'.heap[k]? = w.heap[k]?) : w'.ownsRow base e size v n xs := by
  obtain ⟨h1, h2⟩ := h
  refine ⟨h1, ?_⟩
  rcases h2 with h2 | ⟨g, cap, cur, rfl, g1, g2, g3⟩
  · exact .inl h2
  · exact .inr ⟨g, cap, cur, rfl, g1, (hb g rfl).trans g2, g3⟩
theorem NewSt.call {w0 w w' : World} {x h B : Nat} {N T nx pv : Nat → Nat} {rs : List ERow} {k : Nat} {vr : Value} (S : NewSt w0 w x h B N T nx pv rs k vr) (hk : k < (inOrder rs).length) (hc : (inOrder rs)[k].call = true)
    (D : DidCall w w' (N (inOrder rs)[k].row) (pv h) h k (inOrder rs)[k].row (inOrder rs)[k].at_) (hrow : ∀ g, vr.ownBlock = some g → w'.heap[g]? = w.heap[g]?) :
    NewSt w0 w' x h B N T (upd (upd nx (N (inOrder rs)[k].row) h) (pv h) (N (inOrder rs)[k].row)) (upd (upd pv (N (inOrder rs)[k].row) (pv h)) h (N (inOrder rs)[k].row)) rs (k + 1) vr := by
  have hi : (inOrder rs)[k].row < rs.length := row_lt (List.getElem_mem hk)
  have hpl := placeOf_eq hk hc
  have hnc := not_hasCall hk hc
  have hcs := hasCall_succ hk
  have hrs := hasRet_succ hk
  have htk := take_snoc' hk
  have hret : ∀ i, hasRet rs (k + 1) i ↔ hasRet rs k i := fun i => by rw [hrs]; simp [hc]
  have hcnt : retsTo rs (k + 1) = retsTo rs k := by unfold retsTo; rw [htk, List.filter_append]; simp [hc]
  generalize he : (inOrder rs)[k] = e at *
  obtain ⟨i, t, c⟩ := e
  simp only at hc hi hnc hcs hpl D ⊢
  subst hc
  obtain ⟨o1, o2, o3, o4, o5, o6⟩ := S.old
  obtain ⟨m1, m2, m3, m4⟩ := o4 i hi
  have hfresh : N i ∉ h :: ((inOrder rs).take k).map (nid N T) := by
    rw [List.mem_cons]
    rintro (h1 | h1)
    · exact m4 h1
    · rcases nid_lt S h1 with ⟨j, g1, g2, g3⟩ | ⟨j, g1, g2⟩
      · have := S.inj _ _ hi g1 g3
        subst this; exact hnc g2
      · have := S.new j g1; omega
  obtain ⟨l1, l2, l3⟩ := S.dance.link hfresh
  have hmap : ((inOrder rs).take (k + 1)).map (nid N T) = ((inOrder rs).take k).map (nid N T) ++ [N i] := by rw [htk, List.map_append]; rfl
  have hpx : pv h ≠ x := by
    rintro e
    rcases List.mem_cons.1 l2 with h1 | h1
    · exact o3 (e ▸ h1)
    · rcases nid_lt S h1 with ⟨j, g1, g2, g3⟩ | ⟨j, g1, g2⟩
      · exact (o4 j g1).2.2.1 (g3.symm.trans e)
      · have := S.new j g1; omega
  have keep := D.keep
  refine ⟨?_, ?_, ?_, ?_, ?_, ?_, ?_, ?_, ?_, ?_, ownsRow_kept2 S.rows hrow, ?_, S.inj, S.old, S.own, fun j hj => S.new j ((hret j).1 hj), ⟨Nat.le_trans S.size.1 D.size, S.size.2⟩, D.hz S.hz⟩
  · exact keep _ _ _ S.x0 (fun e => m3 e.1.symm) (fun e => hpx e.1.symm) (fun e => o3 e.1)
  · exact keep _ _ _ S.x1 (fun e => m3 e.1.symm) (fun e => hpx e.1.symm) (fun e => o3 e.1)
  · exact keep _ _ _ S.x2 (fun e => m3 e.1.symm) (fun e => hpx e.1.symm) (fun e => o3 e.1)
  · rw [hcnt]; exact keep _ _ _ S.x3 (fun e => m3 e.1.symm) (fun e => hpx e.1.symm) (fun e => o3 e.1)
  · intro b hb
    rw [hmap, ← List.cons_append, List.mem_append, List.mem_singleton] at hb
    by_cases hbn : b = N i
    · subst hbn
      have n1 : N i ≠ h := m4
      have n2 : N i ≠ pv h := fun e => hfresh (e ▸ l2)
      rw [upd_other _ n1, upd_same, upd_other _ n2, upd_same]
      exact ⟨D.n0, D.n1⟩
    · have hb2 : b ∈ h :: ((inOrder rs).take k).map (nid N T) := hb.resolve_right hbn
      obtain ⟨g1, g2⟩ := S.links b hb2
      constructor
      · by_cases hbh : b = h
        · subst hbh; rw [upd_same]; exact D.h0
        · rw [upd_other _ hbh, upd_other _ hbn]
          exact keep _ _ _ g1 (fun e => hbn e.1) (fun e => by omega) (fun e => hbh e.1)
      · by_cases hbp : b = pv h
        · subst hbp; rw [upd_same]; exact D.p1
        · rw [upd_other _ hbp, upd_other _ hbn]
          exact keep _ _ _ g2 (fun e => hbn e.1) (fun e => hbp e.1) (fun e => by omega)
  · intro j hj
    have : retPt rs (k + 1) T j = retPt rs k T j := retPt_eq (hret j) rfl
    rw [this]
    exact keep _ _ _ (S.row5 j hj) (fun e => by omega) (fun e => by omega) (fun e => by omega)
  · intro j hj
    exact keep _ _ _ (S.row7 j hj) (fun e => by omega) (fun e => by omega) (fun e => by omega)
  · intro j hj o ho
    by_cases hji : N j = N i
    · rw [hji]
      rcases (show o = 0 ∨ o = 1 ∨ o = 2 ∨ o = 3 ∨ o = 4 ∨ o = 5 ∨ o = 6 by omega) with rfl | rfl | rfl | rfl | rfl | rfl | rfl
      · exact ⟨_, D.n0⟩
      · exact ⟨_, D.n1⟩
      · exact ⟨_, D.n2⟩
      · exact ⟨_, D.n3⟩
      · exact ⟨_, D.n4⟩
      · exact ⟨_, keep _ _ _ (S.row5 i hi) (fun e => by omega) (fun e => by omega) (fun e => by omega)⟩
      · exact ⟨_, D.n6⟩
    · obtain ⟨z, hz⟩ := S.rowx j hj o ho
      by_cases hp : N j = pv h ∧ o = 1
      · obtain ⟨e1, rfl⟩ := hp
        exact ⟨_, e1 ▸ D.p1⟩
      · exact ⟨z, keep _ _ _ hz (fun e => hji e.1) hp (fun e => (o4 j hj).2.2.2 e.1)⟩
  · intro j hj hjc
    rcases (hcs j).1 hjc with g | ⟨_, rfl⟩
    · have hji : N j ≠ N i := fun e => hnc ((S.inj _ _ hj hi e) ▸ g)
      obtain ⟨g1, g2, g3⟩ := S.rowc j hj g
      exact ⟨keep _ _ _ g1 (fun e => hji e.1) (fun e => by omega) (fun e => by omega), keep _ _ _ g2 (fun e => hji e.1) (fun e => by omega) (fun e => by omega), keep _ _ _ g3 (fun e => hji e.1) (fun e => by omega) (fun e => by omega)⟩
    · rw [hpl]; exact ⟨D.n2, D.n4, D.n6⟩
  · intro j hj
    have g := (hret j).1 hj
    exact keep _ _ _ (S.ret j g) (fun e => by have := S.new j g; omega) (fun e => by omega) (fun e => by omega)
  · rw [hmap]; exact l3
/-- What a step's walk has done at a return. -/
structure DidRet (w w' : World) (n t x p h lf : Nat) : Prop where
  keep : ∀ b o z, Cel w b o z → ¬ (b = n ∧ o = 5) → ¬ (b = x ∧ o = 3) → ¬ (b = p ∧ o = 1) → ¬ (b = h ∧ o = 0) → Cel w' b o z
  t0 : Cel w' t 0 (Pt p)
  t1 : Cel w' t 1 (Pt h)
  t4 : Cel w' t 4 (.bool false)
  n5 : Cel w' n 5 (Pt t)
  x3 : Cel w' x 3 (.int .i64 ((lf + 1 : Nat) : Int))
  p1 : Cel w' p 1 (Pt t)
  h0 : Cel w' h 0 (Pt t)
  fresh : w.heap.size ≤ t
  size : w.heap.size ≤ w'.heap.size
  hz : Fre w h → Fre w' h
theorem NewSt.retn {w0 w w' : World} {x h B : Nat} {N T nx pv : Nat → Nat} {rs : List ERow} {k t : Nat} {vr : Value} (S : NewSt w0 w x h B N T nx pv rs k vr) (hk : k < (inOrder rs).length) (hc : (inOrder rs)[k].call = false)
    (D : DidRet w w' (N (inOrder rs)[k].row) t x (pv h) h (retsTo rs k)) (hrow : ∀ g, vr.ownBlock = some g → w'.heap[g]? = w.heap[g]?) :
    NewSt w0 w' x h B N (upd T (inOrder rs)[k].row t) (upd (upd nx t h) (pv h) t) (upd (upd pv t (pv h)) h t) rs (k + 1) vr := by
  have hi : (inOrder rs)[k].row < rs.length := row_lt (List.getElem_mem hk)
  have hnr := not_hasRet hk hc
  have hcs := hasCall_succ hk
  have hrs := hasRet_succ hk
  have htk := take_snoc' hk
  have hcal : ∀ i, hasCall rs (k + 1) i ↔ hasCall rs k i := fun i => by rw [hcs]; simp [hc]
  have hcnt : retsTo rs (k + 1) = retsTo rs k + 1 := by unfold retsTo; rw [htk, List.filter_append]; simp [hc]
  generalize he : (inOrder rs)[k] = e at *
  obtain ⟨i, at_, c⟩ := e
  simp only at hc hi hnr hrs D ⊢
  subst hc
  obtain ⟨o1, o2, o3, o4, o5, o6⟩ := S.old
  have hB := S.size.1
  have hft := D.fresh
  have hmapT : ((inOrder rs).take k).map (nid N (upd T i t)) = ((inOrder rs).take k).map (nid N T) := by
    refine List.map_congr_left fun f hf => ?_
    unfold nid
    cases hfc : f.call
    · have : f.row ≠ i := fun e => hnr ⟨f, hf, hfc, e⟩
      simp [upd_other _ this]
    · simp
  have hfresh : t ∉ h :: ((inOrder rs).take k).map (nid N T) := by
    intro hm
    have := (S.links t hm).1.lt
    omega
  obtain ⟨l1, l2, l3⟩ := S.dance.link hfresh
  have hmap : ((inOrder rs).take (k + 1)).map (nid N (upd T i t)) = ((inOrder rs).take k).map (nid N T) ++ [t] := by
    rw [htk, List.map_append, hmapT]
    simp [nid, upd_same]
  have hpx : pv h ≠ x := by
    rintro e
    rcases List.mem_cons.1 l2 with h1 | h1
    · exact o3 (e ▸ h1)
    · rcases nid_lt S h1 with ⟨j, g1, g2, g3⟩ | ⟨j, g1, g2⟩
      · exact (o4 j g1).2.2.1 (g3.symm.trans e)
      · have := S.new j g1; omega
  have keep := D.keep
  have hTj : ∀ j, hasRet rs k j → upd T i t j = T j := fun j hj => upd_other _ fun e => hnr (e ▸ hj)
  refine ⟨?_, ?_, ?_, ?_, ?_, ?_, ?_, ?_, ?_, ?_, ownsRow_kept2 S.rows hrow, ?_, S.inj, S.old, S.own, fun j hj => ?_, ⟨Nat.le_trans S.size.1 D.size, S.size.2⟩, D.hz S.hz⟩
  · exact keep _ _ _ S.x0 (fun e => by omega) (fun e => by omega) (fun e => by omega) (fun e => o3 e.1)
  · exact keep _ _ _ S.x1 (fun e => by omega) (fun e => by omega) (fun e => hpx e.1.symm) (fun e => by omega)
  · exact keep _ _ _ S.x2 (fun e => by omega) (fun e => by omega) (fun e => by omega) (fun e => by omega)
  · rw [hcnt]; exact D.x3
  · intro b hb
    rw [hmap, ← List.cons_append, List.mem_append, List.mem_singleton] at hb
    by_cases hbn : b = t
    · subst hbn
      have n1 : b ≠ h := fun e => hfresh (by simp [e])
      have n2 : b ≠ pv h := fun e => hfresh (e ▸ l2)
      rw [upd_other _ n1, upd_same, upd_other _ n2, upd_same]
      exact ⟨D.t0, D.t1⟩
    · have hb2 : b ∈ h :: ((inOrder rs).take k).map (nid N T) := hb.resolve_right hbn
      obtain ⟨g1, g2⟩ := S.links b hb2
      constructor
      · by_cases hbh : b = h
        · subst hbh; rw [upd_same]; exact D.h0
        · rw [upd_other _ hbh, upd_other _ hbn]
          exact keep _ _ _ g1 (fun e => by omega) (fun e => by omega) (fun e => by omega) (fun e => hbh e.1)
      · by_cases hbp : b = pv h
        · subst hbp; rw [upd_same]; exact D.p1
        · rw [upd_other _ hbp, upd_other _ hbn]
          exact keep _ _ _ g2 (fun e => by omega) (fun e => by omega) (fun e => hbp e.1) (fun e => by omega)
  · intro j hj
    by_cases hji : j = i
    · subst hji
      have hr1 : hasRet rs (k + 1) j := (hrs j).2 (.inr ⟨rfl, rfl⟩)
      unfold retPt
      rw [if_pos hr1, upd_same]
      exact D.n5
    · have hr1 : hasRet rs (k + 1) j ↔ hasRet rs k j := by rw [hrs]; simp [Ne.symm hji]
      have : retPt rs (k + 1) (upd T i t) j = retPt rs k T j := retPt_eq hr1 (upd_other _ hji)
      rw [this]
      exact keep _ _ _ (S.row5 j hj) (fun e => hji (S.inj _ _ hj hi e.1)) (fun e => by omega) (fun e => by omega) (fun e => by omega)
  · intro j hj
    exact keep _ _ _ (S.row7 j hj) (fun e => by omega) (fun e => by omega) (fun e => by omega) (fun e => by omega)
  · intro j hj o ho
    by_cases hp : N j = pv h ∧ o = 1
    · obtain ⟨e1, rfl⟩ := hp
      exact ⟨_, e1 ▸ D.p1⟩
    · by_cases h5 : N j = N i ∧ o = 5
      · obtain ⟨e1, rfl⟩ := h5
        exact ⟨_, e1 ▸ D.n5⟩
      · obtain ⟨z, hz⟩ := S.rowx j hj o ho
        exact ⟨z, keep _ _ _ hz h5 (fun e => (o4 j hj).2.2.1 e.1) hp (fun e => (o4 j hj).2.2.2 e.1)⟩
  · intro j hj hjc
    obtain ⟨g1, g2, g3⟩ := S.rowc j hj ((hcal j).1 hjc)
    exact ⟨keep _ _ _ g1 (fun e => by omega) (fun e => by omega) (fun e => by omega) (fun e => by omega), keep _ _ _ g2 (fun e => by omega) (fun e => by omega) (fun e => by omega) (fun e => by omega), keep _ _ _ g3 (fun e => by omega) (fun e => by omega) (fun e => by omega) (fun e => by omega)⟩
  · intro j hj
    rcases (hrs j).1 hj with g | ⟨_, rfl⟩
    · rw [hTj j g]
      exact keep _ _ _ (S.ret j g) (fun e => by omega) (fun e => by omega) (fun e => by omega) (fun e => by omega)
    · rw [upd_same]; exact D.t4
  · rw [hmap]; exact l3
  · rcases (hrs j).1 hj with g | ⟨_, rfl⟩
    · rw [hTj j g]; exact S.new j g
    · rw [upd_same]; omega
end Go.Proofs.Ytjomjlodmelnbaa
