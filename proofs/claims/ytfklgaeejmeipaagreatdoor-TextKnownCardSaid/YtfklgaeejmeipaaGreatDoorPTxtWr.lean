/- text.Write answers what writeT says. Of at most 1000 events that can be read; the tables' content. -/
import Derived.Test.YtfklgaeejmeipaaGreatDoorPEvCheck
import Derived.Test.YtfklgaeejmeipaaGreatDoorPTxtLen
import Derived.Test.YtfklgaeejmeipaaGreatDoorPTxtLine
set_option linter.all false
set_option linter.unusedVariables false
set_option linter.unusedSimpArgs false
set_option linter.unnecessarySimpa false
/- text.Write answers what writeT says. Of at most 1000 events that can be read; the tables' content. -/
namespace Go.Proofs.YtfklgaeejmeipaaGreatDoor
open Go.RowKit
attribute [local go_sem] Oper.semAt_some

theorem isBuilder_fr {T e : TypeId} {B b : Nat} {bs : List Value} {w w' : World} (h : Lib.IsBuilder T e B b bs w) (f : Fr w w') : Lib.IsBuilder T e B b bs w' := by
  rcases h with h | h
  · have hlt := h.lt
    obtain ⟨hB, v, hb, hown, hne⟩ := h
    exact .inl ⟨hB, v, (f.block hlt).trans hb, ownsRow_frT hown f, hne⟩
  · have hlt := h.lt
    obtain ⟨hB, v, hb, hown, hne⟩ := h
    exact .inr ⟨hB, v, (f.block hlt).trans hb, ownsRow_frT hown f, hne⟩
theorem wrStr_c (B b : Nat) (l s : W8) (w : World) (h : Lib.IsBuilder 109 5 B b (Lib.byteCells l) w) (hlen : l.length + s.length ≤ 1000000000) (hBw : B ≤ w.heap.size) :
    Calls Tryz.prog 60 #[.pointer (some ⟨b, 0, none⟩), .string ⟨s.toArray⟩] w fun e w' => e = .returned (.tuple #[.int .i64 s.length, .nilIface]) ∧ Lib.IsBuilder 109 5 B b (Lib.byteCells (l ++ s)) w' ∧ Below B w w' := by
  have hsz := size_mk s
  have h1 : (Lib.byteCells l).length = l.length := by simp [Lib.byteCells]
  refine (Any.Builder_WriteString { Tryz.lays156 with } Tryz.Builder_Extra_156 B b (Lib.byteCells l) ⟨s.toArray⟩ w h (by rw [h1, hsz]; omega) hBw).mono ?_
  rintro e w' ⟨rfl, hb, hw⟩
  refine ⟨by rw [hsz], .inr ?_, hw⟩
  have : Lib.byteCells l ++ Lib.strCells ⟨s.toArray⟩ = Lib.byteCells (l ++ s) := by simp [Lib.byteCells, Lib.strCells]
  rw [← this]
  exact hb
theorem ends_len {l : List Ev} (ok : ∀ x ∈ l, x.Ok) (hm : ∀ x ∈ l, x.may = true) : (endsOf (l.map Ev.line)).length ≤ l.length * 12031 := by
  induction l with
  | nil => simp [endsOf]
  | cons x l ih =>
    have := ih (fun y hy => ok y (by simp [hy])) fun y hy => hm y (by simp [hy])
    have h2 := line_short (ok x (by simp)) (hm x (by simp))
    rw [List.map_cons, endsOf_cons, List.length_append, List.length_cons, List.length_cons]
    omega
theorem ends_next {l : List Ev} {k : Nat} (hk : k < l.length) : endsOf ((l.take (k + 1)).map Ev.line) = endsOf ((l.take k).map Ev.line) ++ l[k].line ++ [10] := by
  rw [List.take_succ_eq_append_getElem hk, List.map_append, endsOf_app, List.map_cons, List.map_nil, endsOf_cons]
  simp [endsOf]
set_option maxRecDepth 100000 in
set_option maxHeartbeats 4000000 in
theorem Write_txt (l : List Ev) (v : Value) (w : World) (hE : EnvT w) (hl : RdE w v l) (hok : ∀ x ∈ l, x.Ok) (hn : l.length ≤ 1000) : Calls Tryz.prog 20 #[v] w (StrRet w (writeT l)) := by
  obtain ⟨a, cap, rfl, hcap, hmax, _⟩ := id hl
  unfold maxLen at hmax
  have HL := Lib.hid hl
  have HEN := Lib.hid hE
  have HOK := Lib.hid hok
  have HG := Lib.hid (fun (h : ∀ x ∈ l, x.may = true) => show writeT l = (endsOf (l.map Ev.line), 0) by unfold writeT; rw [if_pos (List.all_eq_true.2 h)])
  have HBD := Lib.hid (fun x (hx : x ∈ l) (h : ¬ x.may = true) => show writeT l = ([], 4) by unfold writeT; rw [if_neg (fun hh => h (List.all_eq_true.1 hh x hx))])
  generalize writeT l = Y at HG HBD ⊢
  clear hl hE hok
  go_enter Tryz.func20, Tryz.ntmps20
  go_wp2_with fail
  go_loopw [11] (fun i wr => ∃ k : Nat, k ≤ l.length ∧ i = .int .i64 k ∧ Fr w wr ∧ Lib.IsBuilder 109 5 w.heap.size w.heap.size (Lib.byteCells (endsOf ((l.take k).map Ev.line))) wr ∧ Hid (∀ x ∈ l.take k, x.may = true)) (fun i _ => l.length - (intOf i).toNat)
  case atStart => exact ⟨0, Nat.zero_le _, rfl, (Fr.refl w).alloc _, Lib.fresh_isBuilder _ _ w, Lib.hid (fun x hx => by cases hx)⟩
  case round =>
    obtain ⟨k, hk, rfl, hf, hbd, HM⟩ := hrel
    have HF := Lib.hid hf
    have HB := Lib.hid hbd
    by_cases hlt : k < l.length
    · obtain ⟨b1, o1, t, r, rfl, hb1, hx, ht, hr⟩ := RdE.at (HL.out.keep hf) hlt
      have hmem := List.getElem_mem hlt
      have ok := HOK.out l[k] hmem
      have HN := Lib.hid (ends_next hlt)
      have hle := ends_len (l := l.take k) (fun x h => HOK.out x (List.mem_of_mem_take h)) HM.out
      rw [List.length_take] at hle
      have hle2 : (endsOf ((l.take k).map Ev.line)).length ≤ 13000000 := by omega
      have HBX := Lib.hid (fun (h : ¬ l[k].may = true) => HBD.out l[k] hmem h)
      have HMN := Lib.hid (fun (h : l[k].may = true) => show ∀ x ∈ l.take (k + 1), x.may = true by
        intro x hx
        rw [List.take_succ_eq_append_getElem hlt] at hx
        rcases List.mem_append.1 hx with hx | hx
        · exact HM.out x hx
        · rw [List.mem_singleton.1 hx]; exact h)
      generalize l[k] = x at hx ht hr ok HN HBX HMN
      generalize endsOf ((l.take k).map Ev.line) = acc at HB hle2 HN
      have hk1 : k < cap := by omega
      obtain ⟨ta, tn, tc, rfl⟩ := ht.slice
      obtain ⟨ra, rn, rc, rfl⟩ := hr.slice
      obtain ⟨ax, nx, HSX⟩ : ∃ a, ∃ n : Int, Hid (x.said.1 = a ∧ (x.said.2 : Int) = n) := ⟨_, _, Lib.hid ⟨rfl, rfl⟩⟩
      have FA := Lib.hid (hf.alloc (.cells (x.cells (.slice ta tn tc) (.slice ra rn rc)) 32))
      have HLX : Hid (Calls Tryz.prog 11 #[x.val (.slice ta tn tc) (.slice ra rn rc)] (wr.alloc (.cells (x.cells (.slice ta tn tc) (.slice ra rn rc)) 32)) fun e w' => e = .returned (.tuple #[.string ⟨ax.toArray⟩, .int .i64 nx]) ∧ Fr (wr.alloc (.cells (x.cells (.slice ta tn tc) (.slice ra rn rc)) 32)) w') := Lib.hid (by
        have := Line_c x (x.val (.slice ta tn tc) (.slice ra rn rc)) (wr.alloc (.cells (x.cells (.slice ta tn tc) (.slice ra rn rc)) 32)) (HEN.out.keep FA.out) ⟨_, _, rfl, ht.keep ((Fr.refl wr).alloc _), hr.keep ((Fr.refl wr).alloc _)⟩ ok
        unfold StrRet at this
        rw [HSX.out.1, HSX.out.2] at this
        exact this)
      have hNB := BoxAt.new wr (x.cells (.slice ta tn tc) (.slice ra rn rc)) 32
      have OK := Lib.hid ok
      clear ht hr hf hbd hle ok hmem
      unfold Ev.val at HLX
      go_wp2_with (first | ((with_reducible refine wpList_here (.load 32 (.tmp 13)) rfl ?_); refine wpList_load_midW 32 (.tmp 13) rfl b1 (o1 + k * 19) rfl (x.cells (.slice ta tn tc) (.slice ra rn rc)).toList _ hx Tryz.underlying32 rfl Tryz.infoEv rfl ?_) | ((with_reducible refine wpList_here (.store 32 (.tmp 6) (.tmp 14)) rfl ?_); refine wpList_store_new 32 (.tmp 6) (.tmp 14) rfl _ (x.cells (.slice ta tn tc) (.slice ra rn rc)) _ rfl rfl rfl Tryz.infoEv rfl (Ev.oneCell x ta ra tn tc rn rc) rfl rfl ?_) | ((with_reducible refine wpList_here (.load 32 (.tmp 6)) rfl ?_); refine wpList_load_box 32 (.tmp 6) rfl _ rfl (x.cells (.slice ta tn tc) (.slice ra rn rc)) hNB _ Tryz.underlying32 rfl Tryz.infoEv rfl ?_))
      refine HLX.out.mono ?_
      rintro e w2 ⟨rfl, f2⟩
      have F2 := Lib.hid (FA.out.trans f2)
      have HB2 := Lib.hid (isBuilder_fr HB.out (((Fr.refl wr).alloc (.cells (x.cells (.slice ta tn tc) (.slice ra rn rc)) 32)).trans f2))
      clear f2 hx hNB HLX FA
      by_cases hm : x.may = true
      · have hsx := HSX.out
        rw [Ev.said_iff.2 ⟨hm, rfl⟩] at hsx
        obtain ⟨h1, h2⟩ : x.line = ax ∧ (0 : Int) = nx := hsx
        subst h1 h2
        have hls := line_short OK.out hm
        have HMM := Lib.hid (HMN.out hm)
        clear hm HSX HBX HMN OK
        generalize x.line = q at hls HN ⊢
        have HW1 := Lib.hid (wrStr_c w.heap.size w.heap.size acc q w2 HB2.out (by omega) F2.out.size)
        go_wp2_with fail
        refine HW1.out.mono ?_
        rintro e w3 ⟨rfl, hb3, f3⟩
        have F3 := Lib.hid (F2.out.trans' f3)
        have HW2 := Lib.hid (wrStr_c w.heap.size w.heap.size (acc ++ q) [10] w3 hb3 (by rw [List.length_append]; show acc.length + q.length + 1 ≤ _; omega) F3.out.size)
        clear hb3 f3 HW1
        go_wp2_with fail
        refine HW2.out.mono ?_
        rintro e w4 ⟨rfl, hb4, f4⟩
        have F4 := Lib.hid (F3.out.trans' f4)
        have HB4 := Lib.hid hb4
        clear hb4 f4 HW2
        go_wp2_with fail
        go_roundw
        case rel => exact ⟨k + 1, by omega, by go_num, F4.out, by rw [HN.out]; exact HB4.out, HMM⟩
        case measure => simp [intOf]; omega
      · have hsx := HSX.out
        rw [show x.said = ([], 4) by unfold Ev.said; rw [if_neg hm]] at hsx
        obtain ⟨h1, h2⟩ : [] = ax ∧ (4 : Int) = nx := hsx
        subst h1 h2
        have hY := HBX.out hm
        subst hY
        clear hm HSX HMN HG HBX HBD
        go_wp2_with fail
        go_ret2
        exact ⟨rfl, F2.out⟩
    · have hkl : l.take k = l := List.take_of_length_le (by omega)
      rw [hkl] at HB HM
      have hY := HG.out HM.out
      subst hY
      have HS := Lib.hid (Tryz.Builder_String_any w.heap.size w.heap.size _ wr HB.out hf.size)
      clear hbd hf hkl HG HBD
      go_wp2_with fail
      refine HS.out.mono ?_
      rintro e w3 ⟨rfl, f3⟩
      have F3 := Lib.hid (HF.out.trans' f3)
      clear f3
      go_wp2_with fail
      go_ret2
      exact ⟨rfl, F3.out⟩
end Go.Proofs.YtfklgaeejmeipaaGreatDoor
