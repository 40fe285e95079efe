/- The document's Cut and behind. No condition but that the text is not endless. -/
import Derived.Test.YtfklgaeejmeipaaGreatDoorPTxtRowA
import Derived.Test.YtfklgaeejmeipaaGreatDoorPTxtRefA
import Derived.Test.YtfklgaeejmeipaaGreatDoorPEvCheck
import Derived.Test.YtfklgaeejmeipaaGreatDoorPArms
set_option linter.all false
set_option linter.unusedVariables false
set_option linter.unusedSimpArgs false
set_option linter.unnecessarySimpa false
/- The document's Cut and behind. No condition but that the text is not endless. -/
namespace Go.Proofs.YtfklgaeejmeipaaGreatDoor
open Go.RowKit

theorem extract_is (s : W8) (a b : Nat) : (⟨s.toArray⟩ : ByteArray).extract a b = ⟨((s.take b).drop a).toArray⟩ := by
  apply ByteArray.ext
  rw [ByteArray.data_extract]
  simp [List.extract_eq_take_drop, List.drop_take]
theorem cut_end {c : UInt8} {s : W8} {f : Nat} {acc : List W8} (h : splitS c s = acc ++ splitS c (s.drop f)) (hn : c ∉ s.drop f) : acc ++ [s.drop f] = splitS c s := by rw [h, splitS_none hn]
theorem cut_hit {c : UInt8} {s : W8} {f k : Nat} {acc : List W8} (h : splitS c s = acc ++ splitS c (s.drop f)) (hf : f ≤ k) (hk : k < s.length) (hn : c ∉ (s.take k).drop f) (hc : s[k] = c) : splitS c s = (acc ++ [(s.take k).drop f]) ++ splitS c (s.drop (k + 1)) := by
  have e : s.drop f = (s.take k).drop f ++ c :: s.drop (k + 1) := by
    have h1 : s = s.take k ++ (c :: s.drop (k + 1)) := by rw [← hc, List.getElem_cons_drop, List.take_append_drop]
    conv => lhs; rw [h1]
    rw [List.drop_append_of_le_length (by rw [List.length_take]; omega)]
  rw [h, e, splitS_app _ hn]
  simp
theorem cut_miss {c : UInt8} {s : W8} {f k : Nat} (hf : f ≤ k) (hk : k < s.length) (hn : c ∉ (s.take k).drop f) (hc : s[k] ≠ c) : c ∉ (s.take (k + 1)).drop f := by
  rw [List.take_succ_eq_append_getElem hk, List.drop_append_of_le_length (by rw [List.length_take]; omega)]
  intro hm
  rcases List.mem_append.1 hm with h | h
  · exact hn h
  · rw [List.mem_singleton] at h; exact hc h.symm
/-- What Cut has so far. -/
def CutSt (c : UInt8) (s : W8) (f k : Nat) (acc : List W8) : Prop := (k ≤ s.length ∧ f ≤ k ∧ splitS c s = acc ++ splitS c (s.drop f) ∧ c ∉ (s.take k).drop f) ∨ (k = s.length + 1 ∧ acc = splitS c s)
theorem cut_count {c : UInt8} {s : W8} {f k : Nat} {acc : List W8} (h : CutSt c s f k acc) : acc.length ≤ s.length + 1 := by
  have hl := splitS_len c s
  have hc : s.count c ≤ s.length := List.count_le_length
  rcases h with ⟨_, _, h, _⟩ | ⟨_, h⟩
  · have := congrArg List.length h
    rw [List.length_append] at this
    omega
  · rw [h]; omega
set_option maxRecDepth 100000 in
set_option maxHeartbeats 1000000 in
theorem cut06_c (s : W8) (c : UInt8) (w : World) (hs : s.length < 1000000) :
    Calls Tryz.prog 46 #[.string ⟨s.toArray⟩, .int .u8 c.toNat] w fun e w' => ∃ v, e = .returned v ∧ RowS w w' v (splitS c s) := by
  have hsz := size_mk s
  have hcb := c.toNat_lt
  go_enter Tryz.func46, Tryz.ntmps46
  go_wp2
  go_loopw [5, 6, 7] (fun o f i wr => ∃ k g : Nat, ∃ acc : List W8, i = .int .i64 k ∧ f = .int .i64 g ∧ CutSt c s g k acc ∧ RowS w wr o acc) (fun _ _ i _ => s.length + 1 - (intOf i).toNat)
  case atStart => exact ⟨0, 0, [], rfl, rfl, .inl ⟨by omega, by omega, rfl, by simp⟩, RowS.nil (Fr.refl _)⟩
  case round =>
    obtain ⟨k, g, acc, rfl, rfl, hst, hrow⟩ := hrel
    have hcnt := cut_count hst
    rcases hst with ⟨hk, hg, he, hn⟩ | ⟨hk, he⟩
    · by_cases hend : k = s.length
      · have hD := Lib.hid (cut_end he (by rw [hend, List.take_length] at hn; exact hn))
        have hpc : (⟨s.toArray⟩ : ByteArray).extract g k = ⟨(s.drop g).toArray⟩ := by rw [extract_is, hend, List.take_length]
        have e1 : ((k : Int) == (s.length : Int)) = true := by simp; omega
        have e2 : (k : Int) ≤ s.length := by omega
        have hkl : k < 1000000 := by omega
        have HK := Lib.hid hend
        clear he hn hend
        have hlit := (RowS.lit (w0 := w) hrow.frm [s.drop g] (by simp)).rd
        go_wp2_with (at_builtin; refine wpList_appendS rfl (.tmp 25) (.tmp 30) rfl _ acc [s.drop g] rfl (hrow.fr ((Fr.refl _).alloc _)) _ rfl hlit (by simp; omega) ?_)
        intro v' w' hro'
        rw [hD.out] at hro'
        go_wp2
        go_roundw
        case rel => exact ⟨k + 1, k + 1, splitS c s, by go_num, by go_num, .inr ⟨by rw [HK.out], rfl⟩, hro'⟩
        case measure => have := HK.out; simp [intOf]; omega
      · have hlt : k < s.length := by omega
        have e1 : ((k : Int) == (s.length : Int)) = false := by simp; omega
        have e2 : (k : Int) ≤ s.length := by omega
        obtain ⟨cc, hcc⟩ : ∃ cc, cc = s[k] := ⟨_, rfl⟩
        have hgk : ∀ hh, ((⟨s.toArray⟩ : ByteArray)[k]'hh) = cc := fun _ => hcc.symm
        have hb := cc.toNat_lt
        clear hend
        by_cases hc : s[k] = c
        · have hD := Lib.hid (cut_hit he hg hlt hn hc)
          have hpc : (⟨s.toArray⟩ : ByteArray).extract g k = ⟨((s.take k).drop g).toArray⟩ := extract_is s g k
          have e3 : ((cc.toNat : Int) == (c.toNat : Int)) = true := by rw [hcc, hc]; simp
          have hlit := (RowS.lit (w0 := w) hrow.frm [(s.take k).drop g] (by simp)).rd
          clear he hn hcc hc
          generalize (s.take k).drop g = piece at hD hpc hlit
          go_wp2_with (at_builtin; refine wpList_appendS rfl (.tmp 25) (.tmp 30) rfl _ acc [piece] rfl (hrow.fr ((Fr.refl _).alloc _)) _ rfl hlit (by simp; omega) ?_)
          intro v' w' hro'
          go_wp2
          go_roundw
          case rel => exact ⟨k + 1, k + 1, acc ++ [piece], by go_num, by go_num, .inl ⟨by omega, by omega, hD.out, by simp⟩, hro'⟩
          case measure => simp [intOf]; omega
        · have hD := Lib.hid (cut_miss hg hlt hn hc)
          have HE := Lib.hid he
          have e3 : ((cc.toNat : Int) == (c.toNat : Int)) = false := by
            rw [hcc]
            have : s[k].toNat ≠ c.toNat := fun h => hc (UInt8.toNat_inj.1 h)
            simp; omega
          clear he hn hcc hc
          go_wp2
          go_roundw
          case rel => exact ⟨k + 1, g, acc, by go_num, rfl, .inl ⟨by omega, by omega, HE.out, hD.out⟩, hrow⟩
          case measure => simp [intOf]; omega
    · subst hk
      have e2 : ¬ ((s.length + 1 : Nat) : Int) ≤ s.length := by omega
      rw [he] at hrow
      clear he
      go_wp2
      go_ret
      exact ⟨_, rfl, hrow⟩
/-! behind -/
theorem split_count3 {c : UInt8} : ∀ {s : W8} {n : Nat}, s.count c < n → (splitS c s).drop n = [] := by
  intro s n h
  have := splitS_len c s
  exact List.drop_eq_nil_of_le (by omega)
theorem split_at {c : UInt8} : ∀ (n : Nat) {a b : W8}, a.count c = n → joinS c ((splitS c (a ++ c :: b)).drop (n + 1)) = b
  | n, [], b, h => by
    have : n = 0 := by simpa using h.symm
    subst this
    rw [show ([] : W8) ++ c :: b = [] ++ c :: b from rfl]
    have := splitS_app (c := c) (w := []) b (by simp)
    rw [this]
    exact joinS_split c b
  | n, x :: a, b, h => by
    by_cases hx : x = c
    · subst hx
      rw [List.count_cons_self] at h
      obtain ⟨m, rfl⟩ : ∃ m, n = m + 1 := ⟨n - 1, by omega⟩
      have ih := split_at (c := x) m (a := a) (b := b) (by omega)
      rw [List.cons_append, show x :: (a ++ x :: b) = [] ++ x :: (a ++ x :: b) from rfl, splitS_app _ (by simp), List.drop_succ_cons]
      exact ih
    · rw [List.count_cons_of_ne hx] at h
      have ih := split_at (c := c) n (a := a) (b := b) h
      rw [List.cons_append]
      unfold splitS
      rw [if_neg hx]
      cases e : splitS c (a ++ c :: b) with
      | nil => exact absurd e (splitS_ne _ _)
      | cons u us =>
        rw [e] at ih
        simp only [List.drop_succ_cons] at ih ⊢
        exact ih
theorem behindD_at {s : W8} {k : Nat} (hk : k < s.length) (hc : s[k] = 32) (h2 : (s.take k).count 32 = 2) : behindD s = s.drop (k + 1) := by
  have h1 : s = s.take k ++ (32 :: s.drop (k + 1)) := by rw [← hc, List.getElem_cons_drop, List.take_append_drop]
  unfold behindD
  conv => lhs; rw [h1]
  exact split_at 2 h2
theorem behindD_no {s : W8} (h : s.count 32 < 3) : behindD s = [] := by unfold behindD; rw [split_count3 h]; rfl
set_option maxRecDepth 100000 in
set_option maxHeartbeats 1000000 in
theorem behind06_c (s : W8) (w : World) (hs : s.length < 1000000) :
    Calls Tryz.prog 51 #[.string ⟨s.toArray⟩] w fun e w' => e = .returned (.string ⟨(behindD s).toArray⟩) ∧ Fr w w' := by
  have hsz := size_mk s
  go_enter Tryz.func51, Tryz.ntmps51
  go_wp2
  go_loop [3, 4] (fun n i => ∃ k m : Nat, k ≤ s.length ∧ i = .int .i64 k ∧ n = .int .i64 m ∧ (s.take k).count 32 = m ∧ m < 3) (fun _ i => s.length - (intOf i).toNat)
  case atStart => exact ⟨0, 0, Nat.zero_le _, rfl, rfl, rfl, by omega⟩
  case round =>
    obtain ⟨k, m, hk, rfl, rfl, hm, hm3⟩ := hrel
    by_cases hlt : k < s.length
    · obtain ⟨cc, hcc⟩ : ∃ cc, cc = s[k] := ⟨_, rfl⟩
      have hgk : ∀ hh, ((⟨s.toArray⟩ : ByteArray)[k]'hh) = cc := fun _ => hcc.symm
      have hb := cc.toNat_lt
      have hnext : (s.take (k + 1)).count 32 = m + (if s[k] = 32 then 1 else 0) := by
        rw [List.take_succ_eq_append_getElem hlt, List.count_append, hm, List.count_singleton]
        simp
      by_cases hc : s[k] = 32
      · rw [if_pos hc] at hnext
        have e3 : ((cc.toNat : Int) == 32) = true := by rw [hcc, hc]; rfl
        by_cases h2 : m = 2
        · have hD := Lib.hid (behindD_at hlt hc (by rw [hm, h2]))
          have hpc : (⟨s.toArray⟩ : ByteArray).extract (k + 1) s.length = ⟨(s.drop (k + 1)).toArray⟩ := by rw [extract_is, List.take_length]
          subst h2
          clear hm hcc hc hnext
          go_wp2
          go_ret
          exact ⟨by rw [hD.out]; rfl, Fr.refl _⟩
        · have HN := Lib.hid hnext
          have e4 : ((m : Int) + 1 == 3) = false := by simp; omega
          clear hm hcc hc hnext h2
          go_wp2
          go_round
          case rel => exact ⟨k + 1, m + 1, by omega, by go_num, by go_num, HN.out, by simp at e4; omega⟩
          case measure => simp [intOf]; omega
      · rw [if_neg hc, Nat.add_zero] at hnext
        have HN := Lib.hid hnext
        have e3 : ((cc.toNat : Int) == 32) = false := by
          rw [hcc]
          have : s[k].toNat ≠ 32 := fun h => hc (UInt8.toNat_inj.1 h)
          simp; omega
        have e4 : ((m : Int) == 3) = false := by simp; omega
        clear hm hcc hc hnext
        go_wp2
        go_round
        case rel => exact ⟨k + 1, m, by omega, by go_num, rfl, HN.out, hm3⟩
        case measure => simp [intOf]; omega
    · rw [List.take_of_length_le (by omega)] at hm
      have hD := Lib.hid (behindD_no (s := s) (by omega))
      clear hm
      go_wp2
      go_ret
      exact ⟨by rw [hD.out]; rfl, Fr.refl _⟩
end Go.Proofs.YtfklgaeejmeipaaGreatDoor

/- The document's micros. No condition but that the list is not endless. Printed by gen_refmics.py. -/
namespace Go.Proofs.YtfklgaeejmeipaaGreatDoor
open Go.RowKit

/-- A part of a list of strings. -/
theorem RdS.sub {w : World} {b off cap : Nat} {l : List W8} (m : Nat) (hcap : l.length ≤ cap) (hmax : cap ≤ maxLen) (hb : b < w.heap.size) (hc : ∀ j u, l[j]? = some u → w.cell? ⟨b, off + j, none⟩ = some (.string ⟨u.toArray⟩)) (n c : Nat) (hn : n = l.length - m) (hc' : c = cap - m) : RdS w (.slice (some ⟨b, off + m, none⟩) n c) (l.drop m) := by
  subst hn hc'
  refine ⟨_, _, by rw [List.length_drop], by rw [List.length_drop]; omega, by omega, .inr ⟨b, off + m, rfl, trivial, hb, fun j u hj => ?_⟩⟩
  unfold strCells at hj
  rw [List.getElem?_map, List.getElem?_drop] at hj
  obtain ⟨y, hy, rfl⟩ := Option.map_eq_some_iff.1 hj
  rw [show off + m + j = off + (m + j) by omega]
  exact hc (m + j) y hy
theorem RdS.none {w : World} {a : Option Addr} {n c : Nat} {l : List W8} (hl : l.length = 0) (hn : n = 0) (hc : c ≤ maxLen) : RdS w (.slice a n c) l := by
  have := List.eq_nil_of_length_eq_zero hl
  subst hn this
  exact ⟨_, _, rfl, Nat.zero_le _, hc, .inl rfl⟩
def lenV : Value → Nat
  | .slice _ n _ => n
  | _ => 0
theorem Tryz.infoMicD : (Tryz.prog.info? 58).map (fun i => (i.zero, i.size, i.bytes)) = some (some (.agg #[.bool false, .int .u8 0, .int .u16 0]), 3, 4) := by kernel_rfl
theorem micCells_snocD (l : List Mic) (m : Mic) : micCells (l ++ [m]) = micCells l ++ [.bool m.read, .int .u8 m.key, .int .u16 m.v] := by simp [micCells, Mic.cells]
/-- One micro is appended. -/
theorem wpList_appendMic {w0 w : World} {ops : Array Oper} {rest : List Oper} {o : Oper} {a : Act} {Q : Exit → Act → World → Prop} (hgd : o.guard = none) (s x : Operand)
    (ho : o.op = .call { callee := .builtin .append, args := #[s, x], argTypes := #[27, 27] }) (v : Value) (L : List Mic) (hs : a.eval s = v) (hown : w.ownsRow w0.heap.size 58 3 v L.length (micCells L)) (f : Fr w0 w)
    (b c : Nat) (m : Mic) (hx : a.eval x = .slice (some ⟨b, 0, none⟩) 1 c) (hm : BoxAt w b #[.bool m.read, .int .u8 m.key, .int .u16 m.v] 58) (hn : L.length ≤ 2000000)
    (h : ∀ v' w', w'.ownsRow w0.heap.size 58 3 v' (L ++ [m]).length (micCells (L ++ [m])) → w.grownBy w' v.ownBlock → Fr w0 w' → wpList Tryz.prog ops Q rest (a.put o.dst v') w') : wpList Tryz.prog ops Q (o :: rest) a w := by
  obtain ⟨i0, hi0, hz0, hz1, hz2⟩ := info_parts Tryz.infoMicD
  refine wpList_append_own _ hgd s x 27 ho w0.heap.size 58 i0 _ 3 4 Tryz.underlying27 hi0 hz0 hz1 hz2 rfl (by omega) v L.length (micCells L) hs hown ⟨b, 0, none⟩ 1 c [.bool m.read, .int .u8 m.key, .int .u16 m.v] hx rfl (fun j u hj => ?_) (fun u hu => ?_) (by unfold maxLen; omega) (by omega) f.size ?_
  · rw [WideShapes.add_plain]
    show w.cell? ⟨b, 0 + j, none⟩ = some u
    rw [Nat.zero_add, hm.cell]
    simpa using hj
  · simp at hu
    rcases hu with rfl | rfl | rfl <;> rfl
  · intro v' w' hown' hgrow _
    refine h v' w' ?_ hgrow (f.grown hgrow f.size fun k hk => (hown.lt k hk).1)
    rw [List.length_append, micCells_snocD]
    exact hown'
theorem ownsRow_setNew {w : World} {base b : Nat} {e : TypeId} {sz : Nat} {v : Value} {n : Nat} {xs : List Value} (h : w.ownsRow base e sz v n xs) (hb : v.ownBlock ≠ some b) (o : Nat) (u : Value) : (w.setCell ⟨b, o, none⟩ u).ownsRow base e sz v n xs := by
  obtain ⟨h1, h2⟩ := h
  refine ⟨h1, ?_⟩
  rcases h2 with h2 | ⟨g, cap, cur, hv, hg, hh, h3⟩
  · exact .inl h2
  · refine .inr ⟨g, cap, cur, hv, hg, ?_, h3⟩
    have hne : g ≠ b := fun e => hb (by rw [hv, e]; rfl)
    exact (Below.heap_setCell w ⟨b, o, none⟩ u g (by simpa using hne)).trans hh
/-- Micros, or none. -/
def MicsRet (w : World) (o : Option (List Mic)) (e : Ending) (w' : World) : Prop := ∃ v, e = .returned (.tuple #[v, .bool o.isSome]) ∧ RdMZ (w.heap.size ≤ ·) w' v (o.getD []) ∧ Fr w w'
/-- What micros has so far. -/
structure MicSt (w : World) (O : Option (List Mic)) (u o : Value) (r : List W8) (acc : List Mic) (wr : World) : Prop where
  rd : RdS w u r
  own : wr.ownsRow w.heap.size 58 3 o acc.length (micCells acc)
  frm : Fr w wr
  is : O = (micsD r).map (acc ++ ·)
  few : acc.length + r.length ≤ 1000000
theorem MicSt.no {w wr : World} {O : Option (List Mic)} {u o : Value} {r : List W8} {acc : List Mic} (h : MicSt w O u o r acc wr) (hr : r ≠ []) (hm : micD r = none) : O = none := by rw [h.is, micsD_step hr, hm]; rfl
theorem MicSt.yes {w wr : World} {O : Option (List Mic)} {u o : Value} {r q : List W8} {acc : List Mic} {m : Mic} (h : MicSt w O u o r acc wr) (hr : r ≠ []) (hm : micD r = some (m, q)) : O = (micsD q).map ((acc ++ [m]) ++ ·) := by
  rw [h.is, micsD_step hr, hm]; simp [Option.map_map, Function.comp_def]
set_option maxRecDepth 100000 in
set_option maxHeartbeats 4000000 in
theorem micros06_c (v : Value) (l : List W8) (w : World) (hv : RdS w v l) (hn : l.length ≤ 1000000) :
    Calls Tryz.prog 52 #[v] w (MicsRet w (micsD l)) := by
  generalize hO : micsD l = O
  have H0 : Hid (MicSt w O v (.slice none 0 0) l [] w) := Lib.hid ⟨hv, World.ownsRow_nil _ _ _ _, Fr.refl _, by rw [hO]; cases O <;> rfl, by simpa using hn⟩
  obtain ⟨a, cap, rfl, hcap, hmax⟩ := hv.form
  clear hv hO
  go_enter Tryz.func52, Tryz.ntmps52
  go_wp2_with fail
  go_loopw [0, 4] (fun u o wr => ∃ (r : List W8) (acc : List Mic), MicSt w O u o r acc wr) (fun u _ _ => lenV u)
  case atStart => exact ⟨l, [], H0.out⟩
  case round =>
    clear H0 hcap hmax hn
    obtain ⟨r, acc, hst⟩ := hrel
    have HST := Lib.hid hst
    rcases r with _ | ⟨s, r⟩
    · obtain ⟨a1, cap1, rfl, hcap1, hmax1⟩ := hst.rd.form
      have hz : O = some acc := by rw [hst.is]; simp [micsD_nil]
      subst hz
      clear hst
      go_wp2_with fail
      go_ret2
      exact ⟨_, rfl, SlAt.own HST.out.own, HST.out.frm⟩
    rcases r with _ | ⟨k, q⟩
    · obtain ⟨a1, cap1, rfl, hcap1, hmax1⟩ := hst.rd.form
      have hz : O = none := by rw [hst.is]; rfl
      subst hz
      clear hst
      go_wp2_with fail
      go_ret2
      exact ⟨_, rfl, RdMZ.nil _ _, HST.out.frm⟩
    obtain ⟨b, off, cap1, rfl, hcap1, hmax1, hb, hc⟩ := hst.rd.at (k := 0) (by simp)
    have HSUB := Lib.hid (fun m n c h1 h2 => RdS.sub (w := w) m hcap1 hmax1 hb hc n c h1 h2)
    have HC := Lib.hid (fun W (f : Fr w W) j u (h : (s :: k :: q)[j]? = some u) => f.keep (hc j u h))
    have c0 : wr.cell? ⟨b, off + 0, none⟩ = some (.string ⟨s.toArray⟩) := HC.out wr hst.frm 0 s rfl
    have c1 : wr.cell? ⟨b, off + 1, none⟩ = some (.string ⟨k.toArray⟩) := HC.out wr hst.frm 1 k rfl
    rw [Nat.add_zero] at c0
    have hfew := hst.few
    have HF := Lib.hid hst.frm
    have HO := Lib.hid hst.own
    have HY := Lib.hid (fun m q' (h : micD (s :: k :: q) = some (m, q')) => hst.yes (by simp) h)
    have HN := Lib.hid (fun (h : micD (s :: k :: q) = none) => hst.no (by simp) h)
    simp only [List.length_cons] at hcap1 hfew
    unfold maxLen at hmax1
    have HK := Lib.hid (fun W => small06_c k W)
    have hkb := smallD_ge k
    clear hst hc HST hb
    by_cases hs1 : s = readW
    · subst hs1
      have HD : Hid (micD (readW :: k :: q) = if 0 ≤ smallD k ∧ smallD k ≤ 7 then some (⟨true, (smallD k).toNat, 0⟩, q) else none) := Lib.hid (by rw [micD_two, if_pos rfl])
      unfold readW at c0 HC
      generalize smallD k = kk at HK HD hkb
      by_cases hk : 0 ≤ kk ∧ kk ≤ 7
      · obtain ⟨n, rfl⟩ := Int.eq_ofNat_of_zero_le hk.1
        have HYY := Lib.hid (HY.out _ _ (HD.out.trans (if_pos hk)))
        have hn7 : n ≤ 7 := by omega
        have hw8 : IntKind.u8.wrap (n : Int) = n := by simp [IntKind.wrap, IntKind.bits, IntKind.signed]; omega
        have hcc : cap1 = 2 ∨ 2 < cap1 := by omega
        clear hk HD HY HN hkb
        go_wp2_with fail
        refine (HK.out _).mono ?_
        rintro e w1 ⟨rfl, f1⟩
        have F1 := Lib.hid (HF.out.trans f1)
        have d0 : w1.cell? ⟨b, off + 0, none⟩ = some (.string ⟨(readW : W8).toArray⟩) := HC.out w1 F1.out 0 readW rfl
        rw [Nat.add_zero] at d0
        unfold readW at d0
        have hbw := lt_of_cell d0
        have hO1 := ownsRow_frT HO.out f1
        clear c0 c1 f1 HO HF
        have hO2 := ownsRow_frT hO1 (((Fr.refl w1).alloc (.cells #[.bool true, .int .u8 n, .int .u16 0] 58)).alloc (.cells #[.bool true, .int .u8 n, .int .u16 0] 58))
        have HO2 := Lib.hid hO2
        have F2 := Lib.hid ((F1.out.alloc (.cells #[.bool true, .int .u8 n, .int .u16 0] 58)).alloc (.cells #[.bool true, .int .u8 n, .int .u16 0] 58))
        have HB2 : Hid (BoxAt ((w1.alloc (.cells #[.bool true, .int .u8 n, .int .u16 0] 58)).alloc (.cells #[.bool true, .int .u8 n, .int .u16 0] 58)) (w1.heap.size + 1) #[.bool true, .int .u8 n, .int .u16 0] 58) := Lib.hid (by simpa using BoxAt.new (w1.alloc (.cells #[.bool true, .int .u8 n, .int .u16 0] 58)) #[.bool true, .int .u8 n, .int .u16 0] 58)
        clear hO1 hO2
        rcases hcc with rfl | hcc
        all_goals
          go_wp2_with (at_builtin; refine wpList_appendMic rfl (.tmp 70) (.tmp 72) rfl _ acc rfl HO2.out F2.out _ 1 ⟨true, n, 0⟩ rfl HB2.out (by omega) ?_)
          intro v' w' hown' _ f'
          have HOW := Lib.hid hown'
          have HFW := Lib.hid f'
          clear hown' f'
          go_wp2_with fail
          go_roundw
          case rel => exact ⟨q, acc ++ [⟨true, n, 0⟩], by first | exact HSUB.out 2 _ _ (by simp) (by omega) | exact RdS.none (by omega) (by omega) (by unfold maxLen; omega), by simpa using HOW.out, HFW.out, HYY.out, by simp; omega⟩
          case measure => simp [lenV]; try omega
      · have hz := HN.out (HD.out.trans (if_neg hk))
        subst hz
        have hk2 : kk < 0 ∨ ¬ kk < 0 ∧ 7 < kk := by omega
        clear HD HN hk HY
        rcases hk2 with hk2 | ⟨hk2, hk3⟩
        all_goals
          go_wp2_with fail
          refine (HK.out _).mono ?_
          rintro e w1 ⟨rfl, f1⟩
          have F1 := Lib.hid (HF.out.trans f1)
          clear f1
          go_wp2_with fail
          go_ret2
          exact ⟨_, rfl, RdMZ.nil _ _, F1.out⟩
    · by_cases hs2 : s = appendW
      · subst hs2
        rcases q with _ | ⟨v, q⟩
        · have hz := HN.out (by rw [micD_two, if_neg (by decide), if_pos rfl])
          subst hz
          unfold appendW at c0
          clear HN HY hs1
          go_wp2_with fail
          go_ret2
          exact ⟨_, rfl, RdMZ.nil _ _, HF.out⟩
        have HD : Hid (micD (appendW :: k :: v :: q) = if (0 ≤ smallD k ∧ smallD k ≤ 7) ∧ 0 ≤ smallD v then some (⟨false, (smallD k).toNat, (smallD v).toNat⟩, q) else none) := Lib.hid (by rw [micD_two, if_neg (by decide), if_pos rfl])
        unfold appendW at c0 HC
        have HV := Lib.hid (fun W => small06_c v W)
        have hvb := smallD_ge v
        have c2 : wr.cell? ⟨b, off + 2, none⟩ = some (.string ⟨v.toArray⟩) := HC.out wr HF.out 2 v rfl
        generalize smallD k = kk at HK HD hkb
        generalize smallD v = vv at HV HD hvb
        simp only [List.length_cons] at hcap1 hfew
        clear hs1
        by_cases hk : 0 ≤ kk ∧ kk ≤ 7
        · obtain ⟨n, rfl⟩ := Int.eq_ofNat_of_zero_le hk.1
          have hn7 : n ≤ 7 := by omega
          have hw8 : IntKind.u8.wrap (n : Int) = n := by simp [IntKind.wrap, IntKind.bits, IntKind.signed]; omega
          have hcc : 2 < cap1 := by omega
          go_wp2_with fail
          refine (HK.out _).mono ?_
          rintro e w1 ⟨rfl, f1⟩
          have F1 := Lib.hid (HF.out.trans f1)
          have d0 : w1.cell? ⟨b, off + 0, none⟩ = some (.string ⟨(appendW : W8).toArray⟩) := HC.out w1 F1.out 0 appendW rfl
          rw [Nat.add_zero] at d0
          unfold appendW at d0
          have d2 : w1.cell? ⟨b, off + 2, none⟩ = some (.string ⟨v.toArray⟩) := HC.out w1 F1.out 2 v rfl
          have hbw := lt_of_cell d0
          have HO1 := Lib.hid (ownsRow_frT HO.out f1)
          clear c0 c1 c2 f1 HO HF HK
          go_wp2_with fail
          refine (HV.out _).mono ?_
          rintro e w2 ⟨rfl, f2⟩
          have B2 : Hid (BoxAt w2 w1.heap.size #[.bool false, .int .u8 n, .int .u16 0] 58) := Lib.hid ((BoxAt.new w1 #[.bool false, .int .u8 n, .int .u16 0] 58).fr f2)
          have F2 := Lib.hid ((F1.out.alloc (.cells #[.bool false, .int .u8 n, .int .u16 0] 58)).trans f2)
          have HO2 := Lib.hid (ownsRow_frT HO1.out (((Fr.refl w1).alloc (.cells #[.bool false, .int .u8 n, .int .u16 0] 58)).trans f2))
          have hM : Hid (∃ M, M = w1.heap.size) := Lib.hid ⟨_, rfl⟩
          have e0 : w2.cell? ⟨w1.heap.size, 0, none⟩ = some (.bool false) := B2.out.at 0 rfl
          have e1 : w2.cell? ⟨w1.heap.size, 1, none⟩ = some (.int .u8 n) := B2.out.at 1 rfl
          have e2 : w2.cell? ⟨w1.heap.size, 2, none⟩ = some (.int .u16 0) := B2.out.at 2 rfl
          have g2 := B2.out.free 2
          have hlt2 := B2.out.lt
          have hgeW : w.heap.size ≤ w1.heap.size := F1.out.size
          clear f2 d0 d2 hM
          by_cases hv0 : 0 ≤ vv
          · obtain ⟨m, rfl⟩ := Int.eq_ofNat_of_zero_le hv0
            have HYY := Lib.hid (HY.out _ _ (HD.out.trans (if_pos ⟨hk, hv0⟩)))
            have hm16 : m ≤ 65535 := by omega
            have hw16 : IntKind.u16.wrap (m : Int) = m := by simp [IntKind.wrap, IntKind.bits, IntKind.signed]; omega
            have hcc3 : cap1 - 2 = 1 ∨ 1 < cap1 - 2 := by omega
            have hBox : BoxAt (w2.setCell ⟨w1.heap.size, 2, none⟩ (.int .u16 (m : Nat))) w1.heap.size #[.bool false, .int .u8 n, .int .u16 (m : Nat)] 58 := B2.out.setAt 2 (.int .u16 (m : Nat))
            have hFS : Fr w (w2.setCell ⟨w1.heap.size, 2, none⟩ (.int .u16 (m : Nat))) := F2.out.setCell (p := ⟨w1.heap.size, 2, none⟩) hgeW _
            have hOS : (w2.setCell ⟨w1.heap.size, 2, none⟩ (.int .u16 (m : Nat))).ownsRow w.heap.size 58 3 u4 acc.length (micCells acc) := ownsRow_setNew HO2.out (fun e => by have := (HO1.out.lt _ e).2; omega) 2 _
            have HO3 := Lib.hid (ownsRow_frT hOS ((Fr.refl _).alloc (.cells #[.bool false, .int .u8 n, .int .u16 (m : Nat)] 58)))
            have F3 := Lib.hid (hFS.alloc (.cells #[.bool false, .int .u8 n, .int .u16 (m : Nat)] 58))
            have HB3 : Hid (BoxAt ((w2.setCell ⟨w1.heap.size, 2, none⟩ (.int .u16 (m : Nat))).alloc (.cells #[.bool false, .int .u8 n, .int .u16 (m : Nat)] 58)) w2.heap.size #[.bool false, .int .u8 n, .int .u16 (m : Nat)] 58) := Lib.hid (by simpa using BoxAt.new (w2.setCell ⟨w1.heap.size, 2, none⟩ (.int .u16 (m : Nat))) #[.bool false, .int .u8 n, .int .u16 (m : Nat)] 58)
            clear hk hv0 HD HY HN hkb hvb hBox hFS hOS HO1 HO2
            rcases hcc3 with hcc3 | hcc3
            all_goals
              go_wp2_with (at_builtin; refine wpList_appendMic rfl (.tmp 70) (.tmp 72) rfl _ acc rfl HO3.out F3.out _ 1 ⟨false, n, m⟩ rfl HB3.out (by omega) ?_)
              intro v' w' hown' _ f'
              have HOW := Lib.hid hown'
              have HFW := Lib.hid f'
              clear hown' f'
              go_wp2_with fail
              go_roundw
              case rel => exact ⟨q, acc ++ [⟨false, n, m⟩], by first | exact HSUB.out 3 _ _ (by simp) (by omega) | exact RdS.none (by omega) (by omega) (by unfold maxLen; omega), by simpa using HOW.out, HFW.out, HYY.out, by simp; omega⟩
              case measure => simp [lenV]; try omega
          · have hz := HN.out (HD.out.trans (if_neg fun h => hv0 h.2))
            subst hz
            have hv1 : vv < 0 := by omega
            clear HD HN HY hk hv0
            go_wp2_with fail
            go_ret2
            exact ⟨_, rfl, RdMZ.nil _ _, F2.out⟩
        · have hz := HN.out (HD.out.trans (if_neg fun h => hk h.1))
          subst hz
          have hk2 : kk < 0 ∨ ¬ kk < 0 ∧ 7 < kk := by omega
          clear HD HN hk HY
          rcases hk2 with hk2 | ⟨hk2, hk3⟩
          all_goals
            go_wp2_with fail
            refine (HK.out _).mono ?_
            rintro e w1 ⟨rfl, f1⟩
            have F1 := Lib.hid (HF.out.trans f1)
            clear f1
            go_wp2_with fail
            go_ret2
            exact ⟨_, rfl, RdMZ.nil _ _, F1.out⟩
      · have hz := HN.out (by rw [micD_two, if_neg hs1, if_neg hs2])
        subst hz
        have n1 : (s == [114, 101, 97, 100]) = false := by simpa [readW] using hs1
        have n2 : (s != [114, 101, 97, 100]) = true := by simpa [readW] using hs1
        have n3 : (s == [97, 112, 112, 101, 110, 100]) = false := by simpa [appendW] using hs2
        have n4 : (s != [97, 112, 112, 101, 110, 100]) = true := by simpa [appendW] using hs2
        clear HN HY hs1 hs2
        go_wp2_with fail
        go_ret2
        exact ⟨_, rfl, RdMZ.nil _ _, HF.out⟩
end Go.Proofs.YtfklgaeejmeipaaGreatDoor

/- The document's config. No condition. -/
namespace Go.Proofs.YtfklgaeejmeipaaGreatDoor
open Go.RowKit
attribute [local go_sem] Oper.semAt_some

def Cfg.rowT (g : Cfg) : Array Value := #[.int .u8 g.model, .int .i64 g.opens, .int .i64 g.states, .int .i64 g.steps, .bool g.part, .bool g.cut, .bool g.memo]
theorem cfgT_one (g : Cfg) : (g.rowT).all (·.oneCell') = true := by simp [Cfg.rowT, Value.oneCell']
theorem Tryz.infoCfgR : (Tryz.prog.info? 30).map (·.size) = some 7 := by kernel_rfl
theorem results_cfg2 {fn : Func} {p r : Tmp} (h : fn.results = #[.cell p 30, .tmp r]) (tmps : Array Value) (w : World) (g : Nat) (c : Array Value) (v : Value) (hp : tmps.getD p undef = .pointer (some ⟨g, 0, none⟩)) (hr : tmps.getD r undef = v) (hB : BoxAt w g c 30) (hc : c.size = 7) :
    (results fn tmps).run Tryz.prog w = .ok (.tuple #[.agg c, v]) w := by
  have hp' : tmps[p]?.getD undef = .pointer (some ⟨g, 0, none⟩) := by simpa using hp
  have hr' : tmps[r]?.getD undef = v := by simpa using hr
  have hl := run_loadVar_row (P := Tryz.prog) w g 30 30 c (0, 0) _ hB Tryz.underlying30 rfl (by rw [hc]; exact Tryz.infoCfgR)
  simp [results, h, hp', hr', asAddr, hl]
/-- The result and the config, in two blocks. -/
structure CfgTwo (w : World) (g : Cfg) (wr : World) : Prop where
  frm : Fr w wr
  res : BoxAt wr w.heap.size Cfg.zero.rowT 30
  box : BoxAt wr (w.heap.size + 1) g.rowT 30
theorem CfgTwo.new (w : World) : CfgTwo w Cfg.zero ((w.alloc (.cells Cfg.zero.rowT 30)).alloc (.cells Cfg.zero.rowT 30)) :=
  ⟨((Fr.refl w).alloc _).alloc _, (BoxAt.new w _ _).alloc _, by simpa using BoxAt.new (w.alloc (.cells Cfg.zero.rowT 30)) Cfg.zero.rowT 30⟩
theorem CfgTwo.fr {w wr w1 : World} {g : Cfg} (h : CfgTwo w g wr) (f : Fr wr w1) : CfgTwo w g w1 := ⟨h.frm.trans f, h.res.fr f, h.box.fr f⟩
theorem CfgTwo.set {w wr : World} {g g' : Cfg} (h : CfgTwo w g wr) (k : Nat) (v : Value) (e : g.rowT.setIfInBounds k v = g'.rowT) : CfgTwo w g' (wr.setCell ⟨w.heap.size + 1, k, none⟩ v) :=
  ⟨h.frm.setCell (p := ⟨w.heap.size + 1, k, none⟩) (Nat.le_succ _) _, h.res.set (p := ⟨w.heap.size + 1, k, none⟩) (by simp) v, by have := h.box.setAt k v; rw [e] at this; exact this⟩
def CfgRet (w : World) (o : Cfg × Bool) (e : Ending) (w' : World) : Prop := e = .returned (.tuple #[.agg o.1.rowT, .bool o.2]) ∧ Fr w w'
def mcfgD (s : W8) (k : Nat) : Cfg := { Cfg.zero with model := modelOf s k - 1 }
theorem modelOf_hit {s : W8} {k : Nat} (h : modelW k = s) : modelOf s (k + 1) = k + 1 := by unfold modelOf; rw [if_pos h]
theorem modelOf_miss {s : W8} {k : Nat} (h : modelW k ≠ s) : modelOf s (k + 1) = modelOf s k := by conv => lhs; unfold modelOf; rw [if_neg h]
set_option maxRecDepth 100000 in
set_option maxHeartbeats 2000000 in
theorem config06_short (v : Value) (l : List W8) (w : World) (hv : RdS w v l) (hn : l.length < 4) :
    Calls Tryz.prog 47 #[v] w (CfgRet w (.zero, false)) := by
  obtain ⟨a, cap, rfl, hcap, hmax⟩ := hv.form
  have H0 := Lib.hid (CfgTwo.new w)
  have e4 : ¬ (4 : Int) ≤ l.length := by omega
  have e4' : decide (4 ≤ l.length) = false := by simp; omega
  have e4b : decide ((4 : Int) ≤ (l.length : Int)) = false := by simp; omega
  clear hv
  go_enter Tryz.func47, Tryz.ntmps47
  go_wp2_with fail
  go_loopw [5, 6] (fun i m wr => ∃ k : Nat, k ≤ 5 ∧ m = .int .u8 k ∧ i = .bool false ∧ CfgTwo w Cfg.zero wr) (fun _ m _ => 5 - (intOf m).toNat)
  case atStart => exact ⟨0, by omega, rfl, rfl, H0.out⟩
  case round =>
    obtain ⟨k, hk, rfl, rfl, hst⟩ := hrel
    have HST := Lib.hid hst
    by_cases hlt : k < 5
    · clear hst H0
      go_wp2_with fail
      refine wp_region_fr (by kernel_rfl) (by kernel_rfl) ?_
      repeat (go_big_quiet_step (fail))
      refine wpQuiet_nil ?_
      rintro w5 ⟨⟨_, hf5⟩, rfl⟩
      have H5 := Lib.hid (HST.out.fr hf5)
      clear hf5
      go_wp2_with fail
      go_roundw
      case rel => exact ⟨k + 1, by omega, by go_num, rfl, H5.out⟩
      case measure => simp [intOf]; omega
    · have hB := hst.box
      have hR := hst.res
      clear hst H0
      go_wp2_with (first | ((with_reducible refine wpList_here (.load 30 (.tmp 4)) rfl ?_); refine wpList_load_box 30 (.tmp 4) rfl _ rfl _ hB _ Tryz.underlying30 rfl Tryz.infoCfgR rfl ?_) | ((with_reducible refine wpList_here (.store 30 (.tmp 2) (.tmp 28)) rfl ?_); refine wpList_store_old 30 (.tmp 2) (.tmp 28) rfl w.heap.size _ _ rfl rfl hR Tryz.infoCfgR rfl (cfgT_one _) rfl rfl ?_; intro w2 hR2))
      exact bodyPost_ret (v := .tuple #[.agg Cfg.zero.rowT, .bool false]) (results_cfg2 rfl _ _ w.heap.size _ _ rfl rfl hR2.box rfl) rfl ⟨rfl, hR2.fr HST.out.frm (Nat.le_refl _)⟩
set_option maxRecDepth 100000 in
set_option maxHeartbeats 4000000 in
theorem config06_long (v : Value) (s s1 s2 s3 : W8) (l : List W8) (w : World) (hv : RdS w v (s :: s1 :: s2 :: s3 :: l)) (hn : l.length ≤ 1000000) :
    Calls Tryz.prog 47 #[v] w (CfgRet w (cfgD (s :: s1 :: s2 :: s3 :: l))) := by
  obtain ⟨b, off, cap, rfl, hcap, hmax, hb, hc⟩ := hv.at (k := 0) (by simp)
  have H0 := Lib.hid (CfgTwo.new w)
  have c0 : w.cell? ⟨b, off + 0, none⟩ = some (.string ⟨s.toArray⟩) := hc 0 s rfl
  have c1 : w.cell? ⟨b, off + 1, none⟩ = some (.string ⟨s1.toArray⟩) := hc 1 s1 rfl
  have c2 : w.cell? ⟨b, off + 2, none⟩ = some (.string ⟨s2.toArray⟩) := hc 2 s2 rfl
  have c3 : w.cell? ⟨b, off + 3, none⟩ = some (.string ⟨s3.toArray⟩) := hc 3 s3 rfl
  rw [Nat.add_zero] at c0
  have HCC := Lib.hid (fun (i : Nat) (h : i < l.length) => show w.cell? ⟨b, off + (4 + i), none⟩ = some (.string ⟨l[i].toArray⟩) from hc (4 + i) l[i] (by rw [show 4 + i = i + 1 + 1 + 1 + 1 by omega]; simp [h]))
  simp only [List.length_cons] at hcap
  have e4' : decide (4 ≤ l.length + 1 + 1 + 1 + 1) = true := by simp
  have e4b : decide ((4 : Int) ≤ (l.length : Int) + 1 + 1 + 1 + 1) = true := by simp; omega
  have HM := Lib.hid (fun k W (h : k < 5) => model06_c k W h)
  unfold maxLen at hmax
  clear hv hc
  go_enter Tryz.func47, Tryz.ntmps47
  go_wp2_with fail
  go_loopw [5, 6] (fun i m wr => ∃ k : Nat, k ≤ 5 ∧ m = .int .u8 k ∧ i = .bool (decide (modelOf s k ≠ 0)) ∧ CfgTwo w (mcfgD s k) wr) (fun _ m _ => 5 - (intOf m).toNat)
  case atStart => exact ⟨0, by omega, rfl, rfl, H0.out⟩
  case round =>
    obtain ⟨k, hk, rfl, rfl, hst⟩ := hrel
    have HST := Lib.hid hst
    by_cases hlt : k < 5
    · have k3 := FrW.cell (hst.frm.keep c0)
      have hmk := fun W => HM.out k W hlt
      have HH := Lib.hid (fun (h : modelW k = s) => modelOf_hit h)
      have HI := Lib.hid (fun (h : modelW k ≠ s) => modelOf_miss h)
      by_cases hs : modelW k = s
      · rw [hs] at hmk
        have HMK := Lib.hid hmk
        have HH := Lib.hid (HH.out hs)
        have hlt2 := hst.frm.size
        have b0 := hst.box.at 0 rfl
        have f0 := hst.box.free 0
        clear hs hst H0 hmk HM HI HCC c1 c2 c3
        generalize decide (modelOf s k ≠ 0) = ib
        go_wp2_with fail
        refine wp_region_fr (by kernel_rfl) (by kernel_rfl) ?_
        repeat (go_big_quiet_step ((go_at_call 37; exact frq (HMK.out _))))
        refine wpQuiet_nil ?_
        rintro w5 ⟨⟨_, hf5⟩, rfl⟩
        have H5 := Lib.hid (HST.out.fr hf5)
        have b0 := hf5.keep b0
        have f0 : w5.frozen? ⟨w.heap.size + 1, 0, none⟩ = false := H5.out.box.free 0
        have z0 := H5.out.box.lt
        have HS := Lib.hid (H5.out.set (g' := mcfgD s (k + 1)) 0 (.int .u8 k) (by unfold mcfgD; rw [HH.out]; rfl))
        clear hf5 k3 HST HMK
        go_wp2_with fail
        go_roundw
        case rel => exact ⟨k + 1, by omega, by go_num, by rw [HH.out]; simp, HS.out⟩
        case measure => simp [intOf]; omega
      · have HI := Lib.hid (HI.out hs)
        generalize modelW k = mw at hmk hs
        have HMK := Lib.hid hmk
        have n1 : (s == mw) = false := by simpa using fun e : s = mw => hs e.symm
        have n2 : (mw == s) = false := by simpa using hs
        have n3 : (s != mw) = true := by simpa using fun e : s = mw => hs e.symm
        clear hs hst H0 hmk HM HH HCC c1 c2 c3
        generalize hib : decide (modelOf s k ≠ 0) = ib
        have HIB := Lib.hid hib
        clear hib
        go_wp2_with fail
        refine wp_region_fr (by kernel_rfl) (by kernel_rfl) ?_
        repeat (go_big_quiet_step ((go_at_call 37; exact frq (HMK.out _))))
        refine wpQuiet_nil ?_
        rintro w5 ⟨⟨_, hf5⟩, rfl⟩
        have H5 := Lib.hid (HST.out.fr hf5)
        clear hf5 k3 HST HMK
        go_wp2_with fail
        go_roundw
        case rel => exact ⟨k + 1, by omega, by go_num, by rw [HI.out, ← HIB.out], by unfold mcfgD; rw [HI.out]; exact H5.out⟩
        case measure => simp [intOf]; omega
    · have hk5 : k = 5 := by omega
      subst hk5
      clear HM H0 hlt hk e4' e4b
      by_cases hm : modelOf s 5 = 0
      · have hB := hst.box
        have hR := hst.res
        have hD : decide (modelOf s 5 ≠ 0) = false := by simp [hm]
        rw [hD]
        have HZ := Lib.hid (show CfgRet w (cfgD (s :: s1 :: s2 :: s3 :: l)) = CfgRet w (.zero, false) by rw [cfgD, if_pos hm])
        have HG := Lib.hid (show mcfgD s 5 = Cfg.zero by unfold mcfgD; rw [hm]; rfl)
        rw [HG.out] at hB
        clear hst hm hD HCC c0 c1 c2 c3
        go_wp2_with (first | ((with_reducible refine wpList_here (.load 30 (.tmp 4)) rfl ?_); refine wpList_load_box 30 (.tmp 4) rfl _ rfl _ hB _ Tryz.underlying30 rfl Tryz.infoCfgR rfl ?_) | ((with_reducible refine wpList_here (.store 30 (.tmp 2) (.tmp 28)) rfl ?_); refine wpList_store_old 30 (.tmp 2) (.tmp 28) rfl w.heap.size _ _ rfl rfl hR Tryz.infoCfgR rfl (cfgT_one _) rfl rfl ?_; intro w2 hR2))
        exact bodyPost_ret (v := .tuple #[.agg Cfg.zero.rowT, .bool false]) (results_cfg2 rfl _ _ w.heap.size _ _ rfl rfl hR2.box rfl) rfl (by rw [HZ.out]; exact ⟨rfl, hR2.fr HST.out.frm (Nat.le_refl _)⟩)
      · have hD : decide (modelOf s 5 ≠ 0) = true := by simp [hm]
        rw [hD]
        have HZ := Lib.hid (show cfgD (s :: s1 :: s2 :: s3 :: l) = (⟨modelOf s 5 - 1, numD s1, numD s2, numD s3, l.any (· == partitionW), l.any (· == cutW), l.any (· == memoW)⟩, true) by rw [cfgD, if_neg hm])
        have hb2 := Nat.lt_of_lt_of_le hb hst.frm.size
        have hbq : b ≠ w.heap.size + 1 := by omega
        have d1 := hst.frm.keep c1
        have hN1 := Lib.hid (fun W => number06_c s1 W)
        have hN2 := Lib.hid (fun W => number06_c s2 W)
        have hN3 := Lib.hid (fun W => number06_c s3 W)
        generalize numD s1 = x1 at hN1 HZ
        generalize numD s2 = x2 at hN2 HZ
        generalize numD s3 = x3 at hN3 HZ
        generalize hM : modelOf s 5 - 1 = M at HZ
        have HM0 : Hid (mcfgD s 5 = { Cfg.zero with model := M }) := Lib.hid (by unfold mcfgD; rw [hM])
        clear hM hm hD hst c0
        go_wp2_with fail
        refine (hN1.out _).mono ?_
        rintro e w1 ⟨rfl, f1⟩
        have T1 := Lib.hid ((HM0.out ▸ HST.out : CfgTwo w { Cfg.zero with model := M } wr).fr f1)
        have b1 := T1.out.box.at 1 (show (Cfg.rowT _)[1]? = _ from rfl)
        have g1 : w1.frozen? ⟨w.heap.size + 1, 1, none⟩ = false := T1.out.box.free 1
        have z1 := T1.out.box.lt
        have T1s := Lib.hid (T1.out.set (g' := { Cfg.zero with model := M, opens := x1 }) 1 (.int .i64 x1) rfl)
        have d2 := T1s.out.frm.keep c2
        have hb3 := Nat.lt_of_lt_of_le hb T1s.out.frm.size
        clear f1 d1 T1 HST
        go_wp2_with fail
        refine (hN2.out _).mono ?_
        rintro e w2 ⟨rfl, f2⟩
        have T2 := Lib.hid (T1s.out.fr f2)
        have b2 := T2.out.box.at 2 (show (Cfg.rowT _)[2]? = _ from rfl)
        have g2 : w2.frozen? ⟨w.heap.size + 1, 2, none⟩ = false := T2.out.box.free 2
        have z2 := T2.out.box.lt
        have T2s := Lib.hid (T2.out.set (g' := { Cfg.zero with model := M, opens := x1, states := x2 }) 2 (.int .i64 x2) rfl)
        have d3 := T2s.out.frm.keep c3
        have hb4 := Nat.lt_of_lt_of_le hb T2s.out.frm.size
        clear f2 d2 T2 T1s b1 g1 z1 hb3
        go_wp2_with fail
        refine (hN3.out _).mono ?_
        rintro e w3 ⟨rfl, f3⟩
        have T3 := Lib.hid (T2s.out.fr f3)
        have b3 := T3.out.box.at 3 (show (Cfg.rowT _)[3]? = _ from rfl)
        have g3 : w3.frozen? ⟨w.heap.size + 1, 3, none⟩ = false := T3.out.box.free 3
        have z3 := T3.out.box.lt
        have T3s := Lib.hid (T3.out.set (g' := { Cfg.zero with model := M, opens := x1, states := x2, steps := x3 }) 3 (.int .i64 x3) rfl)
        clear f3 d3 T3 T2s b2 g2 z2 hb4 c1 c2 c3 hb2
        go_wp2_with fail
        clear b3 g3 z3
        obtain ⟨wo, hwo⟩ : ∃ wo, wo = wr := ⟨_, rfl⟩
        subst hwo
        go_loopw [7] (fun i wr => ∃ k : Nat, k ≤ l.length ∧ i = .int .i64 (4 + k : Nat) ∧ CfgTwo w ⟨M, x1, x2, x3, (l.take k).any (· == partitionW), (l.take k).any (· == cutW), (l.take k).any (· == memoW)⟩ wr) (fun i _ => 4 + l.length - (intOf i).toNat)
        case atStart => exact ⟨0, by omega, rfl, T3s.out⟩
        case round =>
          obtain ⟨k, hk, rfl, hst⟩ := hrel
          have HST := Lib.hid hst
          by_cases hlt : k < l.length
          · have d := hst.frm.keep (HCC.out k hlt)
            have HA := Lib.hid (fun p => show (l.take (k + 1)).any (· == p) = ((l.take k).any (· == p) || (l[k] == p)) by rw [List.take_succ_eq_append_getElem hlt, List.any_append]; simp)
            generalize l[k] = x at d HA
            have b4 : wr.cell? ⟨w.heap.size + 1, 4, none⟩ = some (.bool ((l.take k).any (· == partitionW))) := hst.box.at 4 rfl
            have b5 : wr.cell? ⟨w.heap.size + 1, 5, none⟩ = some (.bool ((l.take k).any (· == cutW))) := hst.box.at 5 rfl
            have b6 : wr.cell? ⟨w.heap.size + 1, 6, none⟩ = some (.bool ((l.take k).any (· == memoW))) := hst.box.at 6 rfl
            have g4 := hst.box.free 4
            have g5 := hst.box.free 5
            have g6 := hst.box.free 6
            have z := hst.box.lt
            have hb2 := Nat.lt_of_lt_of_le hb hst.frm.size
            have hk1 : 4 + k < cap := by omega
            have hk2 : (4 : Int) + (k : Int) < (l.length : Int) + 1 + 1 + 1 + 1 := by omega
            clear hst HCC T3s
            have HA4 := Lib.hid (HA.out partitionW)
            have HA5 := Lib.hid (HA.out cutW)
            have HA6 := Lib.hid (HA.out memoW)
            clear HA
            generalize (l.take k).any (· == partitionW) = a4 at HST b4 HA4
            generalize (l.take k).any (· == cutW) = a5 at HST b5 HA5
            generalize (l.take k).any (· == memoW) = a6 at HST b6 HA6
            obtain ⟨p4, q4⟩ : ∃ p, (x == partitionW) = p := ⟨_, rfl⟩
            obtain ⟨p5, q5⟩ : ∃ p, (x == cutW) = p := ⟨_, rfl⟩
            obtain ⟨p6, q6⟩ : ∃ p, (x == memoW) = p := ⟨_, rfl⟩
            rw [q4] at HA4
            rw [q5] at HA5
            rw [q6] at HA6
            unfold partitionW at q4
            unfold cutW at q5
            unfold memoW at q6
            have HS := Lib.hid (((HST.out.set (g' := ⟨M, x1, x2, x3, a4 || p4, a5, a6⟩) 4 (.bool (a4 || p4)) rfl).set (g' := ⟨M, x1, x2, x3, a4 || p4, a5 || p5, a6⟩) 5 (.bool (a5 || p5)) rfl).set (g' := ⟨M, x1, x2, x3, a4 || p4, a5 || p5, a6 || p6⟩) 6 (.bool (a6 || p6)) rfl)
            clear HST
            cases a4 <;> cases a5 <;> cases a6
            all_goals
              simp only [Bool.true_or, Bool.false_or] at HS
              go_wp2_with fail
              go_roundw
              case rel => exact ⟨k + 1, by omega, by go_num, by rw [HA4.out, HA5.out, HA6.out]; exact HS.out⟩
              case measure => simp [intOf]; omega
          · have hkl : l.take k = l := List.take_of_length_le (by omega)
            rw [hkl] at hst HST
            have hB := hst.box
            have hR := hst.res
            clear hst HCC T3s hkl
            generalize l.any (· == partitionW) = a4 at HST hB HZ
            generalize l.any (· == cutW) = a5 at HST hB HZ
            generalize l.any (· == memoW) = a6 at HST hB HZ
            go_wp2_with (first | ((with_reducible refine wpList_here (.load 30 (.tmp 4)) rfl ?_); refine wpList_load_box 30 (.tmp 4) rfl _ rfl _ hB _ Tryz.underlying30 rfl Tryz.infoCfgR rfl ?_) | ((with_reducible refine wpList_here (.store 30 (.tmp 2) (.tmp 80)) rfl ?_); refine wpList_store_old 30 (.tmp 2) (.tmp 80) rfl w.heap.size _ _ rfl rfl hR Tryz.infoCfgR rfl (cfgT_one _) rfl rfl ?_; intro w2 hR2))
            exact bodyPost_ret (v := .tuple #[.agg (Cfg.rowT ⟨M, x1, x2, x3, a4, a5, a6⟩), .bool true]) (results_cfg2 rfl _ _ w.heap.size _ _ rfl rfl hR2.box rfl) rfl (by rw [HZ.out]; exact ⟨rfl, hR2.fr HST.out.frm (Nat.le_refl _)⟩)
theorem config06_c (v : Value) (l : List W8) (w : World) (hv : RdS w v l) (hn : l.length ≤ 1000000) :
    Calls Tryz.prog 47 #[v] w (CfgRet w (cfgD l)) := by
  match l, hv, hn with
  | [], hv, _ => exact config06_short v [] w hv (by simp)
  | [a], hv, _ => exact config06_short v [a] w hv (by simp)
  | [a, b], hv, _ => exact config06_short v [a, b] w hv (by simp)
  | [a, b, c], hv, _ => exact config06_short v [a, b, c] w hv (by simp)
  | a :: b :: c :: d :: r, hv, hn => exact config06_long v a b c d r w hv (by simp at hn; omega)
end Go.Proofs.YtfklgaeejmeipaaGreatDoor
