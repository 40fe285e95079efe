/- The library's stable sort, of entries. No condition but the number's bound. -/
import Derived.Test.YtjomjlodmelnbaaPEntMid
import Derived.Deep.AppendLies
import Derived.Deep.DeepAppendWide
import Derived.Deep.Cut
import Derived.Laws.EntriesVeiled
set_option linter.all false
set_option linter.unusedVariables false
set_option linter.unusedSimpArgs false
set_option linter.unnecessarySimpa false
/- The library's stable sort, of entries. No condition but the number's bound. -/
namespace Go.Proofs.Ytjomjlodmelnbaa
open Go.RowKit Go.Sort
attribute [local go_sem] Oper.semAt_some

section
variable {α : Type} [Inhabited α] {lt : α → α → Bool}
theorem sortedIn_congr {lo hi : Nat} {d d' : Array α} (h : SortedIn lt lo hi d) (e : ∀ i, lo ≤ i → i < hi → d'[i]! = d[i]!) : SortedIn lt lo hi d' := fun i j h1 h2 h3 => by
  rw [e i h1 (by omega), e j (by omega) h3]; exact h i j h1 h2 h3
theorem sortedIn_sub {lo hi lo' hi' : Nat} {d : Array α} (h : SortedIn lt lo hi d) (h1 : lo ≤ lo') (h2 : hi' ≤ hi) : SortedIn lt lo' hi' d := fun i j g1 g2 g3 => h i j (by omega) g2 (by omega)
/-- Sorted runs of a length, from a place on. -/
def RunsFrom (lt : α → α → Bool) (s a n : Nat) (d : Array α) : Prop := ∀ t, SortedIn lt (a + t * s) (min (a + t * s + s) n) d
/-- The first so many runs are sorted. -/
def DoneTo (lt : α → α → Bool) (s k : Nat) (d : Array α) : Prop := ∀ t, t < k → SortedIn lt (t * s) (t * s + s) d
theorem DoneTo.zero (s : Nat) (d : Array α) : DoneTo lt s 0 d := fun t h => by omega
theorem mul_le_of_lt {t k s : Nat} (h : t < k) : t * s + s ≤ k * s := by
  have := Nat.mul_le_mul_right s (show t + 1 ≤ k from h)
  rw [Nat.add_mul, Nat.one_mul] at this
  exact this
theorem DoneTo.step {s k a : Nat} {d d' : Array α} (h : DoneTo lt s k d) (ha : a = k * s) (hp : PermIn a (a + s) d d') (hs : SortedIn lt a (a + s) d') : DoneTo lt s (k + 1) d' := fun t ht => by
  by_cases he : t = k
  · subst he; subst ha; exact hs
  · have := mul_le_of_lt (s := s) (show t < k by omega)
    exact sortedIn_congr (h t (by omega)) fun i h1 h2 => hp.2.1 i (.inl (by omega))
theorem RunsFrom.step {s a n : Nat} {d d' : Array α} (h : RunsFrom lt s a n d) (hp : PermIn a (a + 2 * s) d d') : RunsFrom lt s (a + 2 * s) n d' := fun t => by
  have h1 := h (t + 2)
  have e : a + (t + 2) * s = a + 2 * s + t * s := by rw [Nat.add_mul]; omega
  rw [e] at h1
  exact sortedIn_congr h1 fun i h2 h3 => hp.2.1 i (.inr (by omega))
/-- Runs that are done, and a last one. -/
theorem runs_of {s k a n : Nat} {d d' : Array α} (h : DoneTo lt s k d) (ha : a = k * s) (han : a ≤ n) (hn : n ≤ a + s) (hp : PermIn a n d d') (hs : SortedIn lt a n d') : RunsFrom lt s 0 n d' := fun t => by
  rw [Nat.zero_add]
  by_cases h1 : t < k
  · have := mul_le_of_lt (s := s) h1
    exact sortedIn_sub (sortedIn_congr (h t h1) fun i h2 h3 => hp.2.1 i (.inl (by omega))) (Nat.le_refl _) (by omega)
  · by_cases h2 : t = k
    · subst h2; subst ha; exact sortedIn_sub hs (Nat.le_refl _) (by omega)
    · have := mul_le_of_lt (s := s) (show k < t by omega)
      intro i j g1 g2 g3
      omega
end
set_option maxRecDepth 100000 in
set_option maxHeartbeats 8000000 in
theorem stable_c (blk cap kb : Nat) (d : Array Ent) (w : World) (hD : DataAt w blk d) (hK : CmpAt w kb) (hne : kb ≠ blk) (hsz : d.size ≤ 1152921504606846976) :
    Calls Try.prog 50 #[.slice (some ⟨blk, 0, none⟩) d.size cap, .int .i64 d.size, .func (.func 45) #[] #[.pointer (some ⟨kb, 0, none⟩)]] w (EP (· = blk) w blk fun d' => PermIn 0 d.size d d' ∧ SortedIn entLt 0 d.size d') := by
  have HD := Lib.hid hD
  have HK := Lib.hid hK
  have HN := Lib.hid hne
  clear hD hK hne
  obtain ⟨n, hn⟩ : ∃ n, n = d.size := ⟨_, rfl⟩
  rw [← hn] at hsz ⊢
  have HSZ := Lib.hid hn.symm
  clear hn
  go_enter Try.func50, Try.ntmps50
  go_wp2_with fail
  go_loopw [7, 8] (fun va vb wr => ∃ (a k : Nat) (dk : Array Ent), va = .int .i64 a ∧ vb = .int .i64 ((a + 20 : Nat) : Int) ∧ a ≤ n ∧ Hid (a = k * 20 ∧ dk.size = n ∧ PermIn 0 n d dk ∧ DoneTo entLt 20 k dk) ∧ Hid (DataAt wr blk dk) ∧ Chg (· = blk) w wr) (fun va _ _ => n - (intOf va).toNat)
  case atStart => exact ⟨0, 0, d, rfl, rfl, Nat.zero_le _, ⟨rfl, HSZ.out, permIn_refl _ _ _, DoneTo.zero _ _⟩, HD.out, Chg.refl _ _⟩
  case round =>
    obtain ⟨a, k, dk, rfl, rfl, han, HX, HDk, hch⟩ := hrel
    have hkr := HK.out.chg hch HN.out
    by_cases hlt : a + 20 ≤ n
    · have hc := insertion_c blk cap kb dk wr HDk.out hkr HN.out a (a + 20) (by omega) (by rw [HX.out.2.1]; exact hlt) (by rw [HX.out.2.1]; exact hsz)
      rw [HX.out.2.1] at hc
      have HC := Lib.hid hc
      clear hc hkr
      go_wp2_with fail
      refine calls_args (by simp) (HC.out.mono ?_)
      rintro e w1 ⟨rfl, d2, ⟨hP, hS⟩, hD2, hch2⟩
      have HX2 : Hid (a + 20 = (k + 1) * 20 ∧ d2.size = n ∧ PermIn 0 n d d2 ∧ DoneTo entLt 20 (k + 1) d2) := ⟨by have := HX.out.1; omega, hP.1.trans HX.out.2.1, permIn_trans _ _ _ _ _ HX.out.2.2.1 (permIn_mono _ _ _ _ _ _ (Nat.zero_le _) hlt (by rw [HX.out.2.1]; exact Nat.le_refl _) hP), HX.out.2.2.2.step HX.out.1 hP hS⟩
      have HD2 := Lib.hid hD2
      have hch3 := hch.trans hch2
      clear hP hS hD2 hch2 hch
      go_wp2_with fail
      go_roundw
      case rel => exact ⟨a + 20, k + 1, d2, by go_num, by go_num, hlt, HX2, HD2, hch3⟩
      case measure => first | (simp [intOf]; done) | (simp [intOf]; omega)
    · have hc := insertion_c blk cap kb dk wr HDk.out hkr HN.out a n han (by rw [HX.out.2.1]; exact Nat.le_refl _) (by rw [HX.out.2.1]; exact hsz)
      rw [HX.out.2.1] at hc
      have HC := Lib.hid hc
      clear hc hkr
      go_wp2_with fail
      refine HC.out.mono ?_
      rintro e w1 ⟨rfl, d2, ⟨hP, hS⟩, hD2, hch2⟩
      have HX2 : Hid (d2.size = n ∧ PermIn 0 n d d2 ∧ RunsFrom entLt 20 0 n d2) := ⟨hP.1.trans HX.out.2.1, permIn_trans _ _ _ _ _ HX.out.2.2.1 (permIn_mono _ _ _ _ _ _ (Nat.zero_le _) (Nat.le_refl _) (by rw [HX.out.2.1]; exact Nat.le_refl _) hP), runs_of HX.out.2.2.2 HX.out.1 han (by omega) hP hS⟩
      have HD2 := Lib.hid hD2
      have hch3 := hch.trans hch2
      clear hP hS hD2 hch2 hch HX HDk
      go_wp2_with fail
      go_loopw [6] (fun vs wr => ∃ (s : Nat) (dk : Array Ent), vs = .int .i64 s ∧ 20 ≤ s ∧ s ≤ 2 * n + 20 ∧ Hid (dk.size = n ∧ PermIn 0 n d dk ∧ RunsFrom entLt s 0 n dk) ∧ Hid (DataAt wr blk dk) ∧ Chg (· = blk) w wr) (fun vs _ => n - (intOf vs).toNat)
      case atStart => exact ⟨20, d2, rfl, Nat.le_refl _, by omega, HX2, HD2, hch3⟩
      case round =>
        clear hch3 HX2 HD2 HC
        obtain ⟨s, dk, rfl, hs1, hs2, HX, HDk, hch⟩ := hrel
        by_cases hlt2 : s < n
        · go_wp2_with fail
          go_loopw [7, 8] (fun va vb wr => ∃ (a k : Nat) (dk : Array Ent), va = .int .i64 a ∧ vb = .int .i64 ((a + 2 * s : Nat) : Int) ∧ a ≤ n ∧ Hid (a = k * (2 * s) ∧ dk.size = n ∧ PermIn 0 n d dk ∧ DoneTo entLt (2 * s) k dk ∧ RunsFrom entLt s a n dk) ∧ Hid (DataAt wr blk dk) ∧ Chg (· = blk) w wr) (fun va _ _ => n - (intOf va).toNat)
          case atStart => exact ⟨0, 0, dk, rfl, by go_num, Nat.zero_le _, ⟨by omega, HX.out.1, HX.out.2.1, DoneTo.zero _ _, HX.out.2.2⟩, HDk.out, hch⟩
          case round =>
            clear hch HX HDk
            obtain ⟨a, k, dk, rfl, rfl, han, HX, HDk, hch⟩ := hrel
            have hkr := HK.out.chg hch HN.out
            have hr0 := HX.out.2.2.2.2 0
            have hr1 := HX.out.2.2.2.2 1
            rw [Nat.zero_mul, Nat.add_zero] at hr0
            rw [Nat.one_mul] at hr1
            have HR0 := Lib.hid hr0
            have HR1 := Lib.hid hr1
            clear hr0 hr1
            by_cases hlt3 : a + 2 * s ≤ n
            · have hc := symMerge_c blk cap kb HN.out (2 * s) dk wr a (a + s) (a + 2 * s) (by omega) HDk.out hkr (by omega) (by omega) (by rw [HX.out.2.1]; exact hlt3) (by rw [HX.out.2.1]; exact hsz)
              unfold SymAt at hc
              rw [HX.out.2.1] at hc
              have HC := Lib.hid hc
              clear hc hkr
              go_wp2_with fail
              refine calls_args (by simp) (HC.out.mono ?_)
              rintro e w1 ⟨rfl, d2, hM, hD2, hch2⟩
              have hS := hM.2 (by have := HR0.out; rwa [Nat.min_eq_left (by omega)] at this) (by have := HR1.out; rwa [Nat.min_eq_left (by omega), show a + s + s = a + 2 * s by omega] at this)
              have HX2 : Hid (a + 2 * s = (k + 1) * (2 * s) ∧ d2.size = n ∧ PermIn 0 n d d2 ∧ DoneTo entLt (2 * s) (k + 1) d2 ∧ RunsFrom entLt s (a + 2 * s) n d2) := ⟨by rw [Nat.add_mul, Nat.one_mul, ← HX.out.1], hM.1.1.trans HX.out.2.1, permIn_trans _ _ _ _ _ HX.out.2.2.1 (permIn_mono _ _ _ _ _ _ (Nat.zero_le _) hlt3 (by rw [HX.out.2.1]; exact Nat.le_refl _) hM.1), HX.out.2.2.2.1.step HX.out.1 hM.1 hS, HX.out.2.2.2.2.step hM.1⟩
              have HD2 := Lib.hid hD2
              have hch3 := hch.trans hch2
              clear hM hS hD2 hch2 hch HR0 HR1
              go_wp2_with fail
              go_roundw
              case rel => exact ⟨a + 2 * s, k + 1, d2, by go_num, by go_num, hlt3, HX2, HD2, hch3⟩
              case measure => first | (simp [intOf]; done) | (simp [intOf]; omega)
            · by_cases hlt4 : a + s < n
              · have hc := symMerge_c blk cap kb HN.out n dk wr a (a + s) n (by omega) HDk.out hkr (by omega) hlt4 (by rw [HX.out.2.1]; exact Nat.le_refl _) (by rw [HX.out.2.1]; exact hsz)
                unfold SymAt at hc
                rw [HX.out.2.1] at hc
                have HC := Lib.hid hc
                clear hc hkr
                go_wp2_with fail
                refine calls_args (by simp) (HC.out.mono ?_)
                rintro e w1 ⟨rfl, d2, hM, hD2, hch2⟩
                have hS := hM.2 (by have := HR0.out; rwa [Nat.min_eq_left (by omega)] at this) (by have := HR1.out; rwa [Nat.min_eq_right (by omega)] at this)
                have HX2 : Hid (d2.size = n ∧ PermIn 0 n d d2 ∧ RunsFrom entLt (2 * s) 0 n d2) := ⟨hM.1.1.trans HX.out.2.1, permIn_trans _ _ _ _ _ HX.out.2.2.1 (permIn_mono _ _ _ _ _ _ (Nat.zero_le _) (Nat.le_refl _) (by rw [HX.out.2.1]; exact Nat.le_refl _) hM.1), runs_of HX.out.2.2.2.1 HX.out.1 han (by omega) hM.1 hS⟩
                have HD2 := Lib.hid hD2
                have hch3 := hch.trans hch2
                clear hM hS hD2 hch2 hch HR0 HR1
                go_wp2_with fail
                go_roundw
                case rel => exact ⟨2 * s, d2, by go_num, by omega, by omega, HX2, HD2, hch3⟩
                case measure => first | (simp [intOf]; done) | (simp [intOf]; omega)
              · have HX2 : Hid (dk.size = n ∧ PermIn 0 n d dk ∧ RunsFrom entLt (2 * s) 0 n dk) := ⟨HX.out.2.1, HX.out.2.2.1, runs_of HX.out.2.2.2.1 HX.out.1 han (by omega) (permIn_refl _ _ _) (by have := HR0.out; rwa [Nat.min_eq_right (by omega)] at this)⟩
                clear HR0 HR1 hkr
                go_wp2_with fail
                go_roundw
                case rel => exact ⟨2 * s, dk, by go_num, by omega, by omega, HX2, HDk, hch⟩
                case measure => first | (simp [intOf]; done) | (simp [intOf]; omega)
        · have hS := HX.out.2.2 0
          rw [Nat.zero_mul, Nat.add_zero, Nat.zero_add, Nat.min_eq_right (by omega)] at hS
          have hP := HX.out.2.1
          clear HX
          go_wp2_with fail
          exact bodyPost_ret (results_none rfl _ _ _) rfl ⟨rfl, dk, ⟨hP, hS⟩, HDk.out, hch⟩
set_option maxRecDepth 100000 in
/-- slices.SortStableFunc of entries. -/
theorem sortStable_c (blk cap kb : Nat) (d : Array Ent) (w : World) (hD : DataAt w blk d) (hK : CmpAt w kb) (hne : kb ≠ blk) (hsz : d.size ≤ 1152921504606846976) :
    Calls Try.prog 44 #[.slice (some ⟨blk, 0, none⟩) d.size cap, .func (.func 45) #[] #[.pointer (some ⟨kb, 0, none⟩)]] w (EP (· = blk) w blk fun d' => PermIn 0 d.size d d' ∧ SortedIn entLt 0 d.size d') := by
  have HC := Lib.hid (stable_c blk cap kb d w hD hK hne hsz)
  clear hD hK hne
  go_enter Try.func44, Try.ntmps44
  go_wp2_with fail
  refine HC.out.mono ?_
  rintro e w1 ⟨rfl, d2, hR, hD2, hch2⟩
  go_wp2_with fail
  exact bodyPost_ret (results_none rfl _ _ _) rfl ⟨rfl, d2, hR, hD2, hch2⟩
end Go.Proofs.Ytjomjlodmelnbaa

/- entries.ordered: rows' entries, sorted. No condition but that the rows can be read, and their number's bound. -/
namespace Go.Proofs.Ytjomjlodmelnbaa
open Go.RowKit Go.Sort
attribute [local go_sem] Oper.semAt_some

/-- A row of a table. -/
structure TRow where
  client : Nat
  id : Nat
  F : Nat
  O : Nat
  K : Nat
  A : Nat
  B : Nat
  rk : Nat
  rv : Nat
  st : Nat
  frm : Int
  to : Int
def TRow.cells (r : TRow) : List Value := [.int .u8 r.client, .int .u16 r.id, .int .u8 r.F, .int .u8 r.O, .int .u8 r.K, .int .u16 r.A, .int .u16 r.B, .int .u8 r.rk, .int .u16 r.rv, .int .u8 r.st, .int .i64 r.frm, .int .i64 r.to]
def TRow.e (r : TRow) : ERow := ⟨r.frm, r.to, r.st⟩
def eRows (l : List TRow) : List ERow := l.map TRow.e
theorem eRows_len (l : List TRow) : (eRows l).length = l.length := by simp [eRows]
theorem eRows_at (l : List TRow) {i : Nat} (h : i < l.length) : (eRows l)[i]'(by rw [eRows_len]; exact h) = l[i].e := by simp [eRows]
theorem trow_one (r : TRow) : r.cells.toArray.all (·.oneCell') = true := by simp [TRow.cells, Value.oneCell']
theorem Try.infoRow : (Try.prog.info? 35).map (·.size) = some 12 := by kernel_rfl
/-- Rows that can be read. -/
structure RdT (w : World) (v : Value) (l : List TRow) : Prop where
  is : ∃ a cap, v = .slice a l.length cap ∧ l.length ≤ cap ∧ cap ≤ maxLen ∧ (l = [] ∨ ∃ b off, a = some ⟨b, off, none⟩ ∧ b < w.heap.size ∧ ∀ i (h : i < l.length), w.rangeAt b (off + i * 12) l[i].cells)
theorem rangeAtK {w w' : World} {b o : Nat} {cs : List Value} (h : w.rangeAt b o cs) (hb : w'.heap[b]? = w.heap[b]?) : w'.rangeAt b o cs := fun j v hj =>
  (World.cell?_of_block (a := ⟨b, o + j, none⟩) hb).trans (h j v hj)
theorem RdT.keep {w w' : World} {v : Value} {l : List TRow} (h : RdT w v l) (f : Fr w w') : RdT w' v l := by
  obtain ⟨a, cap, h1, h2, h3, h4⟩ := h
  refine ⟨a, cap, h1, h2, h3, ?_⟩
  rcases h4 with h4 | ⟨b, off, g1, g2, g3⟩
  · exact .inl h4
  · exact .inr ⟨b, off, g1, Nat.lt_of_lt_of_le g2 f.size, fun i h => rangeAtK (g3 i h) (f.block g2)⟩
theorem RdT.at {w : World} {a : Option Addr} {n cap : Nat} {l : List TRow} (h : RdT w (.slice a n cap) l) {k : Nat} (hk : k < l.length) : ∃ b off, a = some ⟨b, off, none⟩ ∧ b < w.heap.size ∧ w.rangeAt b (off + k * 12) l[k].cells := by
  obtain ⟨a', cap', h1, h2, h3, h4⟩ := h
  cases h1
  rcases h4 with h4 | ⟨b, off, g1, g2, g3⟩
  · subst h4; simp at hk
  · exact ⟨b, off, g1, g2, g3 k hk⟩
def entFlat (L : List Ent) : List Value := L.flatMap Ent.cells
theorem entFlat_len (L : List Ent) : (entFlat L).length = L.length * 3 := by
  induction L with
  | nil => rfl
  | cons e l ih =>
    have h3 : e.cells.length = 3 := rfl
    simp only [entFlat, List.flatMap_cons, List.length_append, List.length_cons] at ih ⊢
    omega
theorem entFlat_at : ∀ (L : List Ent) (i j : Nat) (h : i < L.length) (u : Value), L[i].cells[j]? = some u → (entFlat L)[i * 3 + j]? = some u
  | [], i, j, h, u, _ => by simp at h
  | x :: l, 0, j, h, u, hu => by
    unfold entFlat
    rw [List.flatMap_cons, List.getElem?_append_left]
    · simpa using hu
    · have := (List.getElem?_eq_some_iff.1 hu).1
      simp at this ⊢
      exact this
  | x :: l, i + 1, j, h, u, hu => by
    have e : (i + 1) * 3 + j = 3 + (i * 3 + j) := by omega
    have h3 : x.cells.length = 3 := rfl
    unfold entFlat
    rw [List.flatMap_cons, e, List.getElem?_append_right (by rw [h3]; omega), h3, Nat.add_sub_cancel_left]
    exact entFlat_at l i j (by simpa using h) u (by simpa using hu)
/-- Entries of the call's own. -/
def OwEnt (w0 w : World) (v : Value) (L : List Ent) : Prop := w.ownsRow w0.heap.size 73 3 v L.length (entFlat L)
theorem OwEnt.fr {w0 w w' : World} {v : Value} {L : List Ent} (h : OwEnt w0 w v L) (f : Fr w w') : OwEnt w0 w' v L := by
  have hlt := World.ownsRow.lt h
  obtain ⟨h1, h2⟩ := h
  refine ⟨h1, ?_⟩
  rcases h2 with h2 | ⟨g, cap, cur, rfl, g1, g2, g3⟩
  · exact .inl h2
  · exact .inr ⟨g, cap, cur, rfl, g1, (f.block (hlt g rfl).2).trans g2, g3⟩
theorem Try.infoEntB : (Try.prog.info? 73).map (fun i => (i.zero, i.size, i.bytes)) = some (some (.agg #[.int .i64 0, .int .i64 0, .bool false]), 3, 24) := by kernel_rfl
theorem ent_one (x : Ent) : ∀ u ∈ x.cells, u.oneCell' = true := by intro u hu; simp [Ent.cells] at hu; rcases hu with rfl | rfl | rfl <;> rfl
/-- One entry is appended. -/
theorem wpList_appendEnt {w0 w : World} {ops : Array Oper} {rest : List Oper} {o : Oper} {a : Act} {Q : Exit → Act → World → Prop} (hgd : o.guard = none) (s x : Operand)
    (ho : o.op = .call { callee := .builtin .append, args := #[s, x], argTypes := #[69, 69] }) (v : Value) (L : List Ent) (hs : a.eval s = v) (hown : OwEnt w0 w v L) (f : Fr w0 w)
    (b c : Nat) (y : Ent) (hx : a.eval x = .slice (some ⟨b, 0, none⟩) 1 c) (hy : BoxAt w b y.cells.toArray 73) (hn : L.length ≤ 7036874417600)
    (h : ∀ v' w', OwEnt w0 w' v' (L ++ [y]) → Fr w0 w' → (∀ b c t, BoxAt w b c t → v.ownBlock ≠ some b → BoxAt w' b c t) → (∀ b c, BoxAt w b c 35 → v.ownBlock ≠ some b → v'.ownBlock ≠ some b) → wpList Try.prog ops Q rest (a.put o.dst v') w') : wpList Try.prog ops Q (o :: rest) a w := by
  obtain ⟨i0, hi0, hz0, hz1, hz2⟩ := info_parts Try.infoEntB
  refine wpList_append_own_wide _ hgd s x 69 ho w0.heap.size 73 i0 _ 3 24 Try.underlying69 hi0 hz0 hz1 hz2 rfl (by omega) v L.length (entFlat L) hs hown ⟨b, 0, none⟩ 1 c y.cells hx rfl (fun j u hj => ?_) (ent_one y) (by unfold maxLen; omega) (by omega) f.size ?_
  · rw [WideShapes.add_plain, Nat.zero_add]; exact hy.at j (by simpa using hj)
  · intro v' w' hown' hgrow _
    have hbox : ∀ b c t, BoxAt w b c t → v.ownBlock ≠ some b → BoxAt w' b c t := fun b c t hB hne => (hgrow.block b hB.lt fun e => hne e.symm).trans hB
    refine h v' w' ?_ ?_ hbox (fun b c hB hne he => ?_)
    · have : entFlat (L ++ [y]) = entFlat L ++ y.cells := by simp [entFlat]
      unfold OwEnt
      rw [this]
      simpa using hown'
    · exact f.grown hgrow f.size fun k hk => (World.ownsRow.lt hown k hk).1
    · have h1 := hbox b c _ hB hne
      obtain ⟨_, h2⟩ := hown'
      rcases h2 with ⟨rfl, _⟩ | ⟨g, cap, cur, rfl, _, h3, _⟩
      · cases he
      · have hg : g = b := by simpa [Value.ownBlock] using he
        subst hg
        unfold BoxAt at h1
        rw [h3] at h1
        have := Option.some.inj h1
        injection this with _ h4 _
        exact absurd h4 (by decide)
/-- A row that is owned holds its entries. -/
theorem OwEnt.data {w0 w : World} {v : Value} {L : List Ent} (h : OwEnt w0 w v L) (hn : L ≠ []) : ∃ g cap, v = .slice (some ⟨g, 0, none⟩) L.length cap ∧ L.length ≤ cap ∧ cap ≤ maxLen ∧ w0.heap.size ≤ g ∧ DataAt w g L.toArray := by
  obtain ⟨h1, h2⟩ := h
  rcases h2 with ⟨_, h2⟩ | ⟨g, cap, cur, rfl, g1, g2, g3, g4, g5, g6⟩
  · exact absurd (List.eq_nil_of_length_eq_zero h2) hn
  · refine ⟨g, cap, rfl, g3, g4, g1, cur, g2, ?_, fun i hi => ?_⟩
    · have := Nat.mul_le_mul_right 3 g3
      simp; omega
    · have hi2 : i < L.length := by simpa using hi
      have key : ∀ j u, L[i].cells[j]? = some u → cur[i * 3 + j]? = some u := fun j u hj => by
        have h5 := entFlat_at L i j hi2 u hj
        rw [← g6] at h5
        have hlt : i * 3 + j < L.length * 3 := by
          have := (List.getElem?_eq_some_iff.1 hj).1
          have h3 : L[i].cells.length = 3 := rfl
          omega
        rw [List.getElem?_take_of_lt hlt] at h5
        simpa using h5
      have e : L.toArray[i]! = L[i] := by rw [getElem!_pos L.toArray i (by simpa using hi2)]; simp
      rw [e]
      exact ⟨key 0 _ rfl, key 1 _ rfl, key 2 _ rfl⟩
/-- Sorted entries in memory. -/
def EntsAt (w0 w : World) (v : Value) (E : List Ent) : Prop := (E = [] ∧ v = .slice none 0 0) ∨ ∃ g cap, v = .slice (some ⟨g, 0, none⟩) E.length cap ∧ E.length ≤ cap ∧ cap ≤ maxLen ∧ w0.heap.size ≤ g ∧ DataAt w g E.toArray
theorem EntsAt.fr {w0 w w' : World} {v : Value} {E : List Ent} (h : EntsAt w0 w v E) (f : Fr w w') : EntsAt w0 w' v E := by
  rcases h with h | ⟨g, cap, h1, h2, h3, h4, h5⟩
  · exact .inl h
  · exact .inr ⟨g, cap, h1, h2, h3, h4, h5.fr f⟩
set_option maxRecDepth 100000 in
theorem sortNil_c (fv : Value) (w : World) : Calls Try.prog 44 #[.slice none 0 0, fv] w fun e w' => e = .returned (.tuple #[]) ∧ Fr w w' := by
  have hins : ∀ W, Calls Try.prog 52 #[.slice none 0 0, .int .i64 0, .int .i64 0, fv] W fun e w' => e = .returned (.tuple #[]) ∧ Fr W w' := fun W => by
    go_enter Try.func52, Try.ntmps52
    go_wp2_with fail
    go_loopw [8] (fun vi wr => vi = .int .i64 1 ∧ Fr W wr) (fun _ _ => 0)
    case atStart => exact ⟨rfl, Fr.refl _⟩
    case round =>
      obtain ⟨rfl, hf⟩ := hrel
      go_wp2_with fail
      refine bodyPost_end (results_none rfl _ _ _) rfl ?_
      exact ⟨rfl, hf⟩
  have hst : ∀ W, Calls Try.prog 50 #[.slice none 0 0, .int .i64 0, fv] W fun e w' => e = .returned (.tuple #[]) ∧ Fr W w' := fun W => by
    have HI := Lib.hid hins
    clear hins
    go_enter Try.func50, Try.ntmps50
    go_wp2_with fail
    go_loopw [7, 8] (fun va vb wr => va = .int .i64 0 ∧ vb = .int .i64 20 ∧ Fr W wr) (fun _ _ _ => 0)
    case atStart => exact ⟨rfl, rfl, Fr.refl _⟩
    case round =>
      obtain ⟨rfl, rfl, hf⟩ := hrel
      go_wp2_with fail
      refine (HI.out _).mono ?_
      rintro e w1 ⟨rfl, hf1⟩
      have hf2 := hf.trans hf1
      clear hf hf1
      go_wp2_with fail
      go_loopw [6] (fun vs wr => vs = .int .i64 20 ∧ Fr W wr) (fun _ _ => 0)
      case atStart => exact ⟨rfl, hf2⟩
      case round =>
        clear hf2
        obtain ⟨rfl, hf⟩ := hrel
        go_wp2_with fail
        refine bodyPost_end (results_none rfl _ _ _) rfl ?_
        exact ⟨rfl, hf⟩
  have HS := Lib.hid hst
  clear hins hst
  go_enter Try.func44, Try.ntmps44
  go_wp2_with fail
  refine (HS.out _).mono ?_
  rintro e w1 ⟨rfl, hf1⟩
  go_wp2_with fail
  refine bodyPost_end (results_none rfl _ _ _) rfl ?_
  exact ⟨rfl, hf1⟩
theorem ents_ne {rs : List ERow} (h : 0 < rs.length) : ents rs ≠ [] := fun e => by
  have : (⟨0, rs[0].frm, true⟩ : Ent) ∈ ents rs := mem_ents.2 ⟨h, .inl ⟨rfl, rfl⟩⟩
  rw [e] at this; cases this
/-- What ordered tells. -/
def OrdP (w : World) (rs : List ERow) (e : Ending) (w' : World) : Prop := Fr w w' ∧ ((mayRows rs = true ∧ ∃ v, e = .returned (.tuple #[v, .bool true]) ∧ EntsAt w w' v (inOrder rs)) ∨ (mayRows rs = false ∧ e = .returned (.tuple #[.slice none 0 0, .bool false])))
theorem toArray_sorted {L : List Ent} {d' : Array Ent} (hP : PermIn 0 L.toArray.size L.toArray d') (hS : SortedIn entLt 0 L.toArray.size d') : d' = (L.mergeSort fun x y => !entLt y x).toArray := by
  have := sorted_unique_holds (lt := entLt) swo_ent ent_anti L.toArray d' hP hS
  rw [← this]
def goodTo (rs : List ERow) (k : Nat) : Prop := ∀ i (h : i < rs.length), i < k → badRow rs[i] = false
theorem goodTo_all {rs : List ERow} {k : Nat} (h : goodTo rs k) (hk : rs.length ≤ k) : mayRows rs = true := by
  unfold mayRows
  rw [Bool.not_eq_true', List.any_eq_false]
  intro x hx
  obtain ⟨i, hi, rfl⟩ := List.getElem_of_mem hx
  rw [h i hi (by omega)]; simp
theorem goodTo_step {rs : List ERow} {k : Nat} (h : goodTo rs k) (hk : k < rs.length) (hb : badRow rs[k] = false) : goodTo rs (k + 1) := fun i hi hik => by
  by_cases he : i = k
  · subst he; exact hb
  · exact h i hi (by omega)
theorem bad_rows {rs : List ERow} {k : Nat} (hk : k < rs.length) (hb : badRow rs[k] = true) : mayRows rs = false := by
  unfold mayRows
  rw [Bool.not_eq_false', List.any_eq_true]
  exact ⟨_, List.getElem_mem hk, hb⟩
set_option maxRecDepth 100000 in
set_option maxHeartbeats 8000000 in
theorem ordered_c (l : List TRow) (v : Value) (w : World) (hl : RdT w v l) (hn : l.length ≤ 3518437208780) : Calls Try.prog 31 #[v] w (OrdP w (eRows l)) := by
  obtain ⟨a, cap, rfl, hcap, hmax, _⟩ := id hl
  unfold maxLen at hmax
  have HL := Lib.hid hl
  have HRL := Lib.hid (eRows_len l)
  clear hl
  go_enter Try.func31, Try.ntmps31
  go_wp2_with fail
  go_loopw [2, 9] (fun vv i wr => ∃ k : Nat, k ≤ l.length ∧ i = .int .i64 k ∧ Fr w wr ∧ OwEnt w wr vv (entsTo (eRows l) k) ∧ Hid ((entsTo (eRows l) k).length ≤ 2 * k ∧ goodTo (eRows l) k ∧ (k = 0 → vv = .slice none 0 0))) (fun _ i _ => l.length - (intOf i).toNat)
  case atStart => exact ⟨0, Nat.zero_le _, rfl, Fr.refl _, World.ownsRow_nil _ _ _ _, ⟨Nat.le_refl _, fun i _ h => by omega, fun _ => rfl⟩⟩
  case round =>
    obtain ⟨k, hk, rfl, hfr, hO, HG⟩ := hrel
    by_cases hlt : k < l.length
    · obtain ⟨b1, o1, rfl, hb1, hx0⟩ := RdT.at HL.out hlt
      have hx := rangeAtK hx0 (hfr.block hb1)
      have hb1r : b1 < wr.heap.size := Nat.lt_of_lt_of_le hb1 hfr.size
      have hk1 : k < cap := by omega
      have hk2 : k < (eRows l).length := by rw [HRL.out]; exact hlt
      have hst := entsTo_succ hk2
      have hea := eRows_at l hlt
      have hgs := fun hb => goodTo_step HG.out.2.1 hk2 hb
      have hbad := fun hb => bad_rows hk2 hb
      rw [hea] at hst hgs hbad
      generalize l[k] = r at hx0 hx hst hea hgs hbad
      have HEA := Lib.hid hea
      have HX := Lib.hid hx
      have hll := HG.out.1
      generalize hL0 : entsTo (eRows l) k = L0 at hO hst hll
      clear hea hx hx0 hL0
      have hxr := HX.out
      have HOO := Lib.hid hO
      clear hO
      go_upto_region 4 with (first | ((with_reducible refine wpList_here (.load 35 (.tmp 12)) rfl ?_); refine wpList_load_midW 35 (.tmp 12) rfl b1 (o1 + k * 12) rfl r.cells _ hxr Try.underlying35 rfl Try.infoRow rfl ?_) | ((with_reducible refine wpList_here (.store 35 (.tmp 5) (.tmp 13)) rfl ?_); refine wpList_store_new 35 (.tmp 5) (.tmp 13) rfl _ r.cells.toArray _ rfl rfl rfl Try.infoRow rfl (trow_one r) rfl rfl ?_))
      refine gen_w fun W hW => ?_
      have hB : BoxAt W wr.heap.size r.cells.toArray 35 := by rw [hW]; exact BoxAt.new wr _ _
      have hrW : Fr wr W := by rw [hW]; exact (Fr.refl _).alloc _
      have hFW := hfr.trans hrW
      have hOW := HOO.out.fr hrW
      have hub : u2.ownBlock ≠ some wr.heap.size := fun e => by have := (World.ownsRow.lt HOO.out _ e).2; omega
      generalize wr.heap.size = bx at hB hub ⊢
      clear hW hxr HOO hrW
      have x9 : W.cell? ⟨bx, 9, none⟩ = some (.int .u8 r.st) := hB.at 9 rfl
      have x10 : W.cell? ⟨bx, 10, none⟩ = some (.int .i64 r.frm) := hB.at 10 rfl
      have hlx := hB.lt
      have HB := Lib.hid hB
      have HUB := Lib.hid hub
      clear hB hub
      have hy1 := BoxAt.new W (⟨k, r.frm, true⟩ : Ent).cells.toArray 73
      go_wp2_with (at_builtin; refine wpList_appendEnt (w0 := w) rfl (.tmp 14) (.tmp 19) rfl u2 L0 rfl (hOW.fr ((Fr.refl W).alloc _)) (hFW.alloc _) W.heap.size 1 ⟨k, r.frm, true⟩ rfl hy1 (by omega) ?_)
      intro v1 w1 hO1 hF1 hbx hat
      have hB1 := hbx _ _ _ (HB.out.alloc _) HUB.out
      have hub1 : v1.ownBlock ≠ some bx := hat _ _ (HB.out.alloc _) HUB.out
      have HUB1 := Lib.hid hub1
      clear hat hub1
      clear hy1 hOW hFW x9 x10 hlx hbx hfr HB HUB
      have x9 : w1.cell? ⟨bx, 9, none⟩ = some (.int .u8 r.st) := hB1.at 9 rfl
      have x10 : w1.cell? ⟨bx, 10, none⟩ = some (.int .i64 r.frm) := hB1.at 10 rfl
      have x11 : w1.cell? ⟨bx, 11, none⟩ = some (.int .i64 r.to) := hB1.at 11 rfl
      have hlx := hB1.lt
      have HB1 := Lib.hid hB1
      have HO1 := Lib.hid hO1
      clear hB1 hO1
      cases hd : r.e.done
      · have hst9 : ((r.st : Int) == 1) = false := by
          have : ¬ r.st = 1 := by unfold ERow.done TRow.e at hd; simpa using hd
          simp; omega
        have hst2 : entsTo (eRows l) (k + 1) = L0 ++ [⟨k, r.frm, true⟩] := by rw [hst]; unfold entsOf; rw [hd]; rfl
        have hb : badRow r.e = false := by unfold badRow; rw [hd]; rfl
        have hg2 := hgs hb
        have HX2 : Hid ((entsTo (eRows l) (k + 1)).length ≤ 2 * (k + 1) ∧ goodTo (eRows l) (k + 1) ∧ (k + 1 = 0 → v1 = .slice none 0 0)) := ⟨by rw [hst2]; simp; omega, hg2, fun h => by omega⟩
        have hO2 : Hid (OwEnt w w1 v1 (entsTo (eRows l) (k + 1))) := by rw [hst2]; exact HO1.out
        clear hst hst2 hgs hbad hb hg2 hd
        go_wp2_with fail
        go_roundw
        case rel => exact ⟨k + 1, by omega, by go_num, hF1, hO2.out, HX2⟩
        case measure => first | (simp [intOf]; done) | (simp [intOf]; omega)
      · have hst9 : ((r.st : Int) == 1) = true := by
          have : r.st = 1 := by unfold ERow.done TRow.e at hd; simpa using hd
          simp; omega
        have hst2 : entsTo (eRows l) (k + 1) = L0 ++ [⟨k, r.frm, true⟩] ++ [⟨k, r.to, false⟩] := by rw [hst]; unfold entsOf; rw [hd]; simp [TRow.e]
        have hb : badRow r.e = decide (r.to ≤ r.frm) := by unfold badRow; rw [hd]; rfl
        have HST := Lib.hid hst2
        have HD := Lib.hid hb
        clear hst hst2 hb hd
        have hy2 := BoxAt.new w1 (⟨k, r.to, false⟩ : Ent).cells.toArray 73
        go_wp2_with (at_builtin; refine wpList_appendEnt (w0 := w) rfl (.tmp 24) (.tmp 29) rfl v1 (L0 ++ [⟨k, r.frm, true⟩]) rfl (HO1.out.fr ((Fr.refl w1).alloc _)) (hF1.alloc _) w1.heap.size 1 ⟨k, r.to, false⟩ rfl hy2 (by simp; omega) ?_)
        intro v2 w2 hO2 hF2 hbx _
        have hB2 := hbx _ _ _ (HB1.out.alloc _) HUB1.out
        clear hy2 hbx HB1 x9 x10 x11 hlx
        have y10 : w2.cell? ⟨bx, 10, none⟩ = some (.int .i64 r.frm) := hB2.at 10 rfl
        have y11 : w2.cell? ⟨bx, 11, none⟩ = some (.int .i64 r.to) := hB2.at 11 rfl
        have hlx := hB2.lt
        have HO2 := Lib.hid hO2
        clear hB2 hO2
        by_cases hle : r.to ≤ r.frm
        · have hbd := hbad (by rw [HD.out]; exact decide_eq_true hle)
          have HBD := Lib.hid hbd
          clear hbad hbd hgs
          go_wp2_with fail
          go_ret2
          exact ⟨hF2, .inr ⟨HBD.out, rfl⟩⟩
        · have hg2 := hgs (by rw [HD.out]; exact decide_eq_false hle)
          have HX2 : Hid ((entsTo (eRows l) (k + 1)).length ≤ 2 * (k + 1) ∧ goodTo (eRows l) (k + 1) ∧ (k + 1 = 0 → v2 = .slice none 0 0)) := ⟨by rw [HST.out]; simp; omega, hg2, fun h => by omega⟩
          have hO3 : OwEnt w w2 v2 (entsTo (eRows l) (k + 1)) := by rw [HST.out, List.append_assoc]; exact HO2.out
          have HO3 := Lib.hid hO3
          clear hbad hg2 hgs hO3
          go_wp2_with fail
          go_roundw
          case rel => exact ⟨k + 1, by omega, by go_num, hF2, HO3.out, HX2⟩
          case measure => first | (simp [intOf]; done) | (simp [intOf]; omega)
    · obtain rfl : k = l.length := by omega
      have hmay := goodTo_all HG.out.2.1 (by rw [HRL.out]; exact Nat.le_refl _)
      have hfin : entsTo (eRows l) l.length = ents (eRows l) := by unfold ents; rw [HRL.out]
      have hlen := HG.out.1
      rw [hfin] at hO hlen
      have HMAY := Lib.hid hmay
      clear hfin hmay
      by_cases h0 : l.length = 0
      · have hv := HG.out.2.2 h0
        subst hv
        have hE : inOrder (eRows l) = [] := by
          have : l = [] := List.eq_nil_of_length_eq_zero h0
          subst this
          unfold inOrder
          rw [show ents (eRows []) = [] from rfl]
          simp
        have HE := Lib.hid hE
        clear hO HG hlen h0 hE
        go_wp2_with fail
        refine (sortNil_c _ _).mono ?_
        rintro e w3 ⟨rfl, hf3⟩
        have hF3 := (hfr.alloc _).trans hf3
        clear hf3 hfr
        go_wp2_with fail
        go_ret2
        exact ⟨hF3, .inl ⟨HMAY.out, _, rfl, .inl ⟨HE.out, rfl⟩⟩⟩
      · have hne : ents (eRows l) ≠ [] := ents_ne (by rw [HRL.out]; omega)
        obtain ⟨g, cap2, rfl, hc1, hc2, hg, hD⟩ := hO.data hne
        have hgl := hD.lt
        have hEL : (inOrder (eRows l)).length = (ents (eRows l)).length := List.length_mergeSort _
        have HEL := Lib.hid hEL
        have HD := Lib.hid hD
        have hIO : ∀ d', PermIn 0 (ents (eRows l)).toArray.size (ents (eRows l)).toArray d' → SortedIn entLt 0 (ents (eRows l)).toArray.size d' → d' = (inOrder (eRows l)).toArray := fun d' h1 h2 => toArray_sorted h1 h2
        have HIO := Lib.hid hIO
        generalize hLL : ents (eRows l) = L at HEL HD HIO hlen hc1
        clear hO hD hne hEL hIO hLL HG h0
        have hbnd : L.toArray.size ≤ 1152921504606846976 := by simp; omega
        have hsc := fun (W : World) (hf : Fr wr W) (hk : CmpAt W wr.heap.size) => sortStable_c g cap2 wr.heap.size L.toArray W (HD.out.fr hf) hk (by omega) hbnd
        rw [List.size_toArray] at hsc
        have HSC := Lib.hid hsc
        clear hsc hbnd
        go_wp2_with fail
        refine (HSC.out _ ((Fr.refl wr).alloc _) ((BoxAt.new wr #[.func (.func 43) #[] #[]] 91).at 0 rfl)).mono ?_
        rintro e w3 ⟨rfl, d', ⟨hP, hS⟩, hD3, hch⟩
        have hF3 : Fr w w3 := hch.fr (hfr.alloc _) fun k hk => by subst hk; exact hg
        have he := HIO.out d' hP hS
        subst he
        have hfinal : EntsAt w w3 (.slice (some ⟨g, 0, none⟩) L.length cap2) (inOrder (eRows l)) := .inr ⟨g, cap2, by rw [HEL.out], by rw [HEL.out]; exact hc1, hc2, hg, hD3⟩
        have HFI := Lib.hid hfinal
        clear hP hS hD3 hch hfr hfinal
        go_wp2_with fail
        go_ret2
        exact ⟨hF3, .inl ⟨HMAY.out, _, rfl, HFI.out⟩⟩
end Go.Proofs.Ytjomjlodmelnbaa
