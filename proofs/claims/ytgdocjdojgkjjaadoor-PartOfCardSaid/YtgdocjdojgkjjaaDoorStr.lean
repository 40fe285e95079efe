/- Small laws on strings of this program's types: string([]byte{a}), string([]byte{a, b}). -/
import Derived.Test.YtgdocjdojgkjjaaDoorBase
import Derived.Laws.BytesArg
namespace Go.Proofs.YtgdocjdojgkjjaaDoor
open Go.RowKit

/-- 'string(b)' at a literal that the call has just made. -/
theorem conv1 (W : World) (x : Int) (c : Nat) : (convert 52 9 (.slice (some ⟨W.heap.size, 0, none⟩) 1 c)).run Tryd.prog (W.alloc (.cells #[.int .u8 x] 5)) = .ok (.string ⟨#[UInt8.ofNat x.toNat]⟩) (W.alloc (.cells #[.int .u8 x] 5)) :=
  run_convert_bytes_arg _ 52 5 Tryd.underlying52 Tryd.underlying5 _ 0 1 c [x] rfl (fun i hi => by
    rcases (show i = 0 by omega) with rfl; simp) _ Tryd.underlying9
theorem conv2 (W : World) (x y : Int) (c : Nat) : (convert 52 9 (.slice (some ⟨W.heap.size, 0, none⟩) 2 c)).run Tryd.prog (W.alloc (.cells #[.int .u8 x, .int .u8 y] 5)) = .ok (.string ⟨#[UInt8.ofNat x.toNat, UInt8.ofNat y.toNat]⟩) (W.alloc (.cells #[.int .u8 x, .int .u8 y] 5)) :=
  run_convert_bytes_arg _ 52 5 Tryd.underlying52 Tryd.underlying5 _ 0 2 c [x, y] rfl (fun i hi => by
    rcases (show i = 0 ∨ i = 1 by omega) with rfl | rfl <;> simp) _ Tryd.underlying9
attribute [go_sem] conv1 conv2
theorem mk_append (x y : List UInt8) : (⟨x.toArray⟩ : ByteArray) ++ ⟨y.toArray⟩ = ⟨(x ++ y).toArray⟩ := ByteArray.mk_append_mk x y
theorem size_mk (l : List UInt8) : (⟨l.toArray⟩ : ByteArray).size = l.length := by simp [ByteArray.size]
theorem ret_str {a : ByteArray} {l : List UInt8} (h : a.data.toList = l) : Ending.returned (.string a) = Ending.returned (.string ⟨l.toArray⟩) := by subst h; simp
end Go.Proofs.YtgdocjdojgkjjaaDoor
