/- Layer 28: scc.Groups: its walk. No condition but the graph's bound. -/
import Derived.Test.YtadognaafgndnaaPSccStep
import Derived.Test.YtadognaafgndnaaPSccNum
import Derived.Test.YtadognaafgndnaaPSccOwn
import Derived.Shelf.SlSortCmp.NoneTotal
set_option linter.all false
set_option linter.unusedVariables false
set_option linter.unusedSimpArgs false
set_option linter.unnecessarySimpa false
/- Layer 28: scc.Groups: its walk. No condition but the graph's bound. -/
namespace Go.Proofs.Ytadognaafgndnaa
open Go.RowKit Go.Sort Go.Shelf
attribute [local go_sem] Oper.semAt_some

/-- The components sorted, none or some. -/
theorem sortsAll_c {w0 w : World} {ve : Value} {gs : List Value} {L : List (List Nat)} (H : GrpAt w0 w ve gs L) (hne : ∀ g ∈ L, g ≠ []) (hd : L.flatten.Nodup) (hb : ∀ g ∈ L, ∀ a ∈ g, a ≤ 5864062014634) (hl : L.length ≤ 5864062014634) (hgl : ∀ g ∈ L, g.length ≤ 5864062014634) :
    Calls Try.prog 29 #[ve, .func (.func 30) #[] #[]] w fun e w' => e = .returned (.tuple #[]) ∧ RdGr w' ve (sortG L) ∧ Fr w0 w' := by
  by_cases h0 : L = []
  · subst h0
    obtain ⟨a, c, rfl⟩ := vals_form H.row
    have hN := AnyF.slices_SortFunc_none (P := Try.prog) { Try.sortF with } a c (.func (.func 30) #[] #[]) w
    refine hN.mono ?_
    rintro e w' ⟨rfl, rfl⟩
    exact ⟨rfl, ⟨a, c, rfl, Nat.zero_le _, fun i hi => absurd hi (Nat.not_lt_zero i)⟩, H.frm⟩
  · exact sorts_c H hne hd hb hl hgl h0
set_option maxRecDepth 100000 in
set_option maxHeartbeats 1000000 in
theorem Groups_c {w : World} {v : Value} {G : List (List Int)} (hv : RdGZ w v G) (hb : G.length ≤ 5864062014634) (hm : mayZ G = true) :
    Calls Try.prog 16 #[v] w fun e w' => ∃ ve, e = .returned (.tuple #[ve, .int .i64 0]) ∧ RdGr w' ve (sortG (groupsOf (natG G))) ∧ Fr w w' := by
  have HG := Lib.hid (groups_c hv hb hm)
  have HI := Lib.hid (groupsOf_is (natG_may hm))
  have HL := groups_len (natG_may hm)
  rw [natG_length] at HL
  have HS : Hid (∀ w1 ve gs, GrpAt w w1 ve gs (groupsOf (natG G)) → Calls Try.prog 29 #[ve, .func (.func 30) #[] #[]] w1 fun e w' => e = .returned (.tuple #[]) ∧ RdGr w' ve (sortG (groupsOf (natG G))) ∧ Fr w w') := Lib.hid (fun w1 ve gs h =>
    sortsAll_c h HI.out.some_ HI.out.nodup (fun g hg a ha => by have := (HL.2 g hg).2 a ha; omega) (by omega) (fun g hg => by have := (HL.2 g hg).1; omega))
  clear hv hm HL HI hb
  generalize groupsOf (natG G) = N at HG HS ⊢
  go_enter Try.func16, Try.ntmps16
  go_wp2_with fail
  refine HG.out.mono ?_
  rintro e w1 ⟨ve, gs, rfl, hgr⟩
  have HS1 := Lib.hid (HS.out w1 ve gs hgr)
  clear hgr HG HS
  go_wp2_with fail
  refine HS1.out.mono ?_
  rintro e w2 ⟨rfl, hrd, hf⟩
  have HR := Lib.hid (And.intro hrd hf)
  clear hrd hf HS1
  go_wp2_with fail
  go_ret2
  exact ⟨ve, rfl, HR.out⟩
set_option maxRecDepth 100000 in
theorem GroupsNo_c {w : World} {v : Value} {G : List (List Int)} (hv : RdGZ w v G) (hm : mayZ G = false) :
    Calls Try.prog 16 #[v] w fun e w' => e = .returned (.tuple #[.slice none 0 0, .int .i64 2]) ∧ Fr w w' := by
  have HG := Lib.hid (groupsNo_c hv hm)
  have HN := Lib.hid (fun w1 => AnyF.slices_SortFunc_none (P := Try.prog) { Try.sortF with } none 0 (.func (.func 30) #[] #[]) w1)
  clear hv hm
  go_enter Try.func16, Try.ntmps16
  go_wp2_with fail
  refine HG.out.mono ?_
  rintro e w1 ⟨rfl, hf⟩
  have HF := Lib.hid hf
  have HN1 := Lib.hid (HN.out w1)
  clear hf HG HN
  go_wp2_with fail
  refine HN1.out.mono ?_
  rintro e w2 ⟨rfl, rfl⟩
  clear HN1
  go_wp2_with fail
  go_ret2
  exact ⟨rfl, HF.out⟩
end Go.Proofs.Ytadognaafgndnaa
