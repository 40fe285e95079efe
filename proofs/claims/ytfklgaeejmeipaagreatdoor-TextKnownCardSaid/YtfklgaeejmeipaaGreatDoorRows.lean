/-
  NARROWER THAN 'FOR EVERY INPUT', by the rows' own cells (each row's printed sentence says how): TextLines: laid · TextBack: laid · TextWrites: laid · TextReads: laid · TextKnown: laid · TextScripts: laid.
  DERIVED. THE GIVEN ROWS OF THIS SEAT. 6 by the template 'for every input the law returns true; each argument reads behind the call as it read before'; 0 by the template 'total and deterministic' (their statements: YtfklgaeejmeipaaGreatDoorTotals.lean).
  GIVEN WITH THE SEED: the statements are not yours to turn. If you find one false, say at which input.
  Laid BY PROGRAM, IN A SANDBOX (cutbox-rows.mjs): the forced cells as the released guide's own fill.sh prints them over the translation 15b0d647b729c620… (all of the seat's roots in one cut). By AI agents, Wed Nov 11 2026. No macro, syntax, notation, axiom, sorry.
-/
import Derived.Test.YtfklgaeejmeipaaGreatDoorChecked
import GoSem.PinnedTables
import GoSem.Claim
import GoSem.ClaimJoined
import GoSem.ClaimMapViews
import Derived.JoinedTies
import Derived.KernelRfl
namespace Go.Proofs.YtfklgaeejmeipaaGreatDoor
/- THE CELL 'sum', in the pinned program and in every row, IS THE sha256 OF THE DUMP (.gsa) THAT YtfklgaeejmeipaaGreatDoorProg.lean LOADS. Nothing in Lean hashes anything: it is a label: what it is worth is what the hold of that sum in a sandbox is worth. -/
noncomputable def Tryz.pinned : Pinned := { name := "ytfklgaeejmeipaagreatdoor", sum := "15b0d647b729c620326b6e2409d86e742a5ffb73a27c58da5b6705a7f71f9f20", checked := Tryz.checked }
namespace Rows
def none {H : Type} : Left H := { results := [], args := [] }

/- WHAT THE LISTED PACKAGE-LEVEL VARIABLES READ AS WHEN THE CALL BEGINS. Each datum BY PROGRAM (the guide's laid-datum.mjs) off the statement by which the dump's own 'gosem.cut.vars' lays the variable. In a bare row this is a premise. The card (YtfklgaeejmeipaaGreatDoorCards.lean) ties it to the program's text. -/
def laid_math_bits_deBruijn32tab {H : Type} : DataW H := .agg [.lit (.int .u8 0), .lit (.int .u8 1), .lit (.int .u8 28), .lit (.int .u8 2), .lit (.int .u8 29), .lit (.int .u8 14), .lit (.int .u8 24), .lit (.int .u8 3), .lit (.int .u8 30), .lit (.int .u8 22), .lit (.int .u8 20), .lit (.int .u8 15), .lit (.int .u8 25), .lit (.int .u8 17), .lit (.int .u8 4), .lit (.int .u8 8), .lit (.int .u8 31), .lit (.int .u8 27), .lit (.int .u8 13), .lit (.int .u8 23), .lit (.int .u8 21), .lit (.int .u8 19), .lit (.int .u8 16), .lit (.int .u8 7), .lit (.int .u8 26), .lit (.int .u8 12), .lit (.int .u8 18), .lit (.int .u8 6), .lit (.int .u8 11), .lit (.int .u8 5), .lit (.int .u8 10), .lit (.int .u8 9)]
def laid_math_bits_deBruijn64tab {H : Type} : DataW H := .agg [.lit (.int .u8 0), .lit (.int .u8 1), .lit (.int .u8 56), .lit (.int .u8 2), .lit (.int .u8 57), .lit (.int .u8 49), .lit (.int .u8 28), .lit (.int .u8 3), .lit (.int .u8 61), .lit (.int .u8 58), .lit (.int .u8 42), .lit (.int .u8 50), .lit (.int .u8 38), .lit (.int .u8 29), .lit (.int .u8 17), .lit (.int .u8 4), .lit (.int .u8 62), .lit (.int .u8 47), .lit (.int .u8 59), .lit (.int .u8 36), .lit (.int .u8 45), .lit (.int .u8 43), .lit (.int .u8 51), .lit (.int .u8 22), .lit (.int .u8 53), .lit (.int .u8 39), .lit (.int .u8 33), .lit (.int .u8 30), .lit (.int .u8 24), .lit (.int .u8 18), .lit (.int .u8 12), .lit (.int .u8 5), .lit (.int .u8 63), .lit (.int .u8 55), .lit (.int .u8 48), .lit (.int .u8 27), .lit (.int .u8 60), .lit (.int .u8 41), .lit (.int .u8 37), .lit (.int .u8 16), .lit (.int .u8 46), .lit (.int .u8 35), .lit (.int .u8 44), .lit (.int .u8 21), .lit (.int .u8 52), .lit (.int .u8 32), .lit (.int .u8 23), .lit (.int .u8 11), .lit (.int .u8 54), .lit (.int .u8 26), .lit (.int .u8 40), .lit (.int .u8 15), .lit (.int .u8 34), .lit (.int .u8 20), .lit (.int .u8 31), .lit (.int .u8 10), .lit (.int .u8 25), .lit (.int .u8 14), .lit (.int .u8 19), .lit (.int .u8 9), .lit (.int .u8 13), .lit (.int .u8 8), .lit (.int .u8 7), .lit (.int .u8 6)]
def laid_internal_strconv_uint64pow10 {H : Type} : DataW H := .agg [.lit (.int .u64 1), .lit (.int .u64 10), .lit (.int .u64 100), .lit (.int .u64 1000), .lit (.int .u64 10000), .lit (.int .u64 100000), .lit (.int .u64 1000000), .lit (.int .u64 10000000), .lit (.int .u64 100000000), .lit (.int .u64 1000000000), .lit (.int .u64 10000000000), .lit (.int .u64 100000000000), .lit (.int .u64 1000000000000), .lit (.int .u64 10000000000000), .lit (.int .u64 100000000000000), .lit (.int .u64 1000000000000000), .lit (.int .u64 10000000000000000), .lit (.int .u64 100000000000000000), .lit (.int .u64 1000000000000000000), .lit (.int .u64 10000000000000000000)]
def laid_unicode_utf8_acceptRanges {H : Type} : DataW H := .agg [.agg [.lit (.int .u8 128), .lit (.int .u8 191)], .agg [.lit (.int .u8 160), .lit (.int .u8 191)], .agg [.lit (.int .u8 128), .lit (.int .u8 159)], .agg [.lit (.int .u8 144), .lit (.int .u8 191)], .agg [.lit (.int .u8 128), .lit (.int .u8 143)], .agg [.lit (.int .u8 0), .lit (.int .u8 0)], .agg [.lit (.int .u8 0), .lit (.int .u8 0)], .agg [.lit (.int .u8 0), .lit (.int .u8 0)], .agg [.lit (.int .u8 0), .lit (.int .u8 0)], .agg [.lit (.int .u8 0), .lit (.int .u8 0)], .agg [.lit (.int .u8 0), .lit (.int .u8 0)], .agg [.lit (.int .u8 0), .lit (.int .u8 0)], .agg [.lit (.int .u8 0), .lit (.int .u8 0)], .agg [.lit (.int .u8 0), .lit (.int .u8 0)], .agg [.lit (.int .u8 0), .lit (.int .u8 0)], .agg [.lit (.int .u8 0), .lit (.int .u8 0)]]
def laid_strconv_ErrRange {H : Type} : DataW H := .iface "*errors.errorString" (.ptr (.agg [.lit (.string [118, 97, 108, 117, 101, 32, 111, 117, 116, 32, 111, 102, 32, 114, 97, 110, 103, 101])]))
def laid_strconv_ErrSyntax {H : Type} : DataW H := .iface "*errors.errorString" (.ptr (.agg [.lit (.string [105, 110, 118, 97, 108, 105, 100, 32, 115, 121, 110, 116, 97, 120])]))
def laid_umpire_op_kinds {H : Type} : DataW H := .agg [.agg [.lit (.int .u8 0), .lit (.string []), .lit (.int .u8 0)], .agg [.lit (.int .u8 0), .lit (.string [114, 101, 97, 100]), .lit (.int .u8 0)], .agg [.lit (.int .u8 0), .lit (.string [119, 114, 105, 116, 101]), .lit (.int .u8 2)], .agg [.lit (.int .u8 0), .lit (.string [99, 97, 115]), .lit (.int .u8 6)], .agg [.lit (.int .u8 1), .lit (.string [101, 110, 113]), .lit (.int .u8 2)], .agg [.lit (.int .u8 1), .lit (.string [100, 101, 113]), .lit (.int .u8 0)], .agg [.lit (.int .u8 2), .lit (.string [103, 101, 116]), .lit (.int .u8 1)], .agg [.lit (.int .u8 2), .lit (.string [112, 117, 116]), .lit (.int .u8 3)], .agg [.lit (.int .u8 2), .lit (.string [100, 101, 108]), .lit (.int .u8 1)], .agg [.lit (.int .u8 2), .lit (.string [115, 119, 97, 112]), .lit (.int .u8 7)], .agg [.lit (.int .u8 3), .lit (.string [97, 99, 113, 117, 105, 114, 101]), .lit (.int .u8 0)], .agg [.lit (.int .u8 3), .lit (.string [114, 101, 108, 101, 97, 115, 101]), .lit (.int .u8 0)]]
def laid_umpire_result_words {H : Type} : DataW H := .agg [.lit (.string [100, 111, 110, 101]), .lit (.string [118, 97, 108, 117, 101]), .lit (.string [110, 111, 110, 101]), .lit (.string [121, 101, 115]), .lit (.string [110, 111])]
def laid_umpire_text_kinds {H : Type} : DataW H := .agg [.lit (.string []), .lit (.string [99, 111, 110, 102, 105, 103]), .lit (.string [105, 110, 118, 111, 107, 101]), .lit (.string [114, 101, 116, 117, 114, 110]), .lit (.string [105, 110, 102, 111]), .lit (.string [98, 101, 103, 105, 110]), .lit (.string [99, 111, 109, 109, 105, 116]), .lit (.string [97, 98, 111, 114, 116])]
def laid_umpire_text_models {H : Type} : DataW H := .agg [.lit (.string [114, 101, 103, 105, 115, 116, 101, 114]), .lit (.string [113, 117, 101, 117, 101]), .lit (.string [109, 97, 112]), .lit (.string [108, 111, 99, 107]), .lit (.string [97, 112, 112, 101, 110, 100])]
/-- One of Go's own tables, pinned by name: the form's constant. -/
def laid_unicode_utf8_first : DataW Unit := Go.Pinned.utf8First

/-- 'umpirelaw06.TextLines': WHATEVER THE INPUT: true; the input reads as it did. -/
def textLinesSpec : ChangeSpec := { name := "textLines", fn := fun _ => fun
  | [d1, d2] => { results := [.lit (.bool true)], args := [d1, d2] }
  | _ => none }
def textLinesRow : OpenClaim := { program := "ytfklgaeejmeipaagreatdoor", sum := "15b0d647b729c620326b6e2409d86e742a5ffb73a27c58da5b6705a7f71f9f20", func := "umpire/umpirelaw06.TextLines", spec := "textLines", inPlace := ["internal/abi.NoEscape", "internal/bytealg.MakeNoZero", "internal/bytealg.CountString", "internal/bytealg.IndexByteString", "internal/bytealg.IndexString"], unfollowed := true, recurses := true, named := ["umpire/text.kinds", "umpire/op.kinds", "umpire/text.models", "internal/strconv.uint64pow10", "math/bits.deBruijn32tab", "math/bits.deBruijn64tab", "umpire/result.words", "unicode/utf8.first", "unicode/utf8.acceptRanges", "internal/bytealg.MaxLen", "strconv.ErrSyntax", "strconv.ErrRange"], apart := false, laid := [("math/bits.deBruijn32tab", laid_math_bits_deBruijn32tab), ("math/bits.deBruijn64tab", laid_math_bits_deBruijn64tab), ("internal/strconv.uint64pow10", laid_internal_strconv_uint64pow10), ("unicode/utf8.acceptRanges", laid_unicode_utf8_acceptRanges), ("strconv.ErrRange", laid_strconv_ErrRange), ("strconv.ErrSyntax", laid_strconv_ErrSyntax), ("umpire/op.kinds", laid_umpire_op_kinds), ("umpire/result.words", laid_umpire_result_words), ("umpire/text.kinds", laid_umpire_text_kinds), ("umpire/text.models", laid_umpire_text_models), ("unicode/utf8.first", laid_unicode_utf8_first)] }
def TextLinesSaid : Prop := textLinesRow.holds Tryz.pinned (OpenSpec.ofChange textLinesSpec)

/-- ITS FALSE NEIGHBOUR: 'it returns false'. Refute it at one input. -/
def textLinesWrong : ChangeSpec := { name := "textLines", fn := fun _ => fun
  | [d1, d2] => { results := [.lit (.bool false)], args := [d1, d2] }
  | _ => none }
def TextLinesWrongFalsely : Prop := textLinesRow.holds Tryz.pinned (OpenSpec.ofChange textLinesWrong)

/-- 'umpirelaw06.TextBack': WHATEVER THE INPUT: true; the input reads as it did. -/
def textBackSpec : ChangeSpec := { name := "textBack", fn := fun _ => fun
  | [d1, d2, d3] => { results := [.lit (.bool true)], args := [d1, d2, d3] }
  | _ => none }
def textBackRow : OpenClaim := { program := "ytfklgaeejmeipaagreatdoor", sum := "15b0d647b729c620326b6e2409d86e742a5ffb73a27c58da5b6705a7f71f9f20", func := "umpire/umpirelaw06.TextBack", spec := "textBack", inPlace := ["internal/abi.NoEscape", "internal/bytealg.MakeNoZero", "internal/bytealg.CountString", "internal/bytealg.IndexByteString", "internal/bytealg.IndexString"], unfollowed := true, recurses := true, named := ["umpire/text.kinds", "umpire/op.kinds", "umpire/text.models", "internal/strconv.uint64pow10", "math/bits.deBruijn32tab", "math/bits.deBruijn64tab", "umpire/result.words", "unicode/utf8.first", "unicode/utf8.acceptRanges", "internal/bytealg.MaxLen", "strconv.ErrSyntax", "strconv.ErrRange"], apart := false, laid := [("math/bits.deBruijn32tab", laid_math_bits_deBruijn32tab), ("math/bits.deBruijn64tab", laid_math_bits_deBruijn64tab), ("internal/strconv.uint64pow10", laid_internal_strconv_uint64pow10), ("unicode/utf8.acceptRanges", laid_unicode_utf8_acceptRanges), ("strconv.ErrRange", laid_strconv_ErrRange), ("strconv.ErrSyntax", laid_strconv_ErrSyntax), ("umpire/op.kinds", laid_umpire_op_kinds), ("umpire/result.words", laid_umpire_result_words), ("umpire/text.kinds", laid_umpire_text_kinds), ("umpire/text.models", laid_umpire_text_models), ("unicode/utf8.first", laid_unicode_utf8_first)] }
def TextBackSaid : Prop := textBackRow.holds Tryz.pinned (OpenSpec.ofChange textBackSpec)

/-- ITS FALSE NEIGHBOUR: 'it returns false'. Refute it at one input. -/
def textBackWrong : ChangeSpec := { name := "textBack", fn := fun _ => fun
  | [d1, d2, d3] => { results := [.lit (.bool false)], args := [d1, d2, d3] }
  | _ => none }
def TextBackWrongFalsely : Prop := textBackRow.holds Tryz.pinned (OpenSpec.ofChange textBackWrong)

/-- 'umpirelaw06.TextWrites': WHATEVER THE INPUT: true; the input reads as it did. -/
def textWritesSpec : ChangeSpec := { name := "textWrites", fn := fun _ => fun
  | [d] => { results := [.lit (.bool true)], args := [d] }
  | _ => none }
def textWritesRow : OpenClaim := { program := "ytfklgaeejmeipaagreatdoor", sum := "15b0d647b729c620326b6e2409d86e742a5ffb73a27c58da5b6705a7f71f9f20", func := "umpire/umpirelaw06.TextWrites", spec := "textWrites", inPlace := ["internal/abi.NoEscape", "internal/bytealg.MakeNoZero", "internal/bytealg.CountString", "internal/bytealg.IndexByteString", "internal/bytealg.IndexString"], unfollowed := true, recurses := true, named := ["umpire/text.kinds", "umpire/op.kinds", "umpire/text.models", "internal/strconv.uint64pow10", "math/bits.deBruijn32tab", "math/bits.deBruijn64tab", "umpire/result.words", "unicode/utf8.first", "unicode/utf8.acceptRanges", "internal/bytealg.MaxLen", "strconv.ErrSyntax", "strconv.ErrRange"], apart := false, laid := [("math/bits.deBruijn32tab", laid_math_bits_deBruijn32tab), ("math/bits.deBruijn64tab", laid_math_bits_deBruijn64tab), ("internal/strconv.uint64pow10", laid_internal_strconv_uint64pow10), ("unicode/utf8.acceptRanges", laid_unicode_utf8_acceptRanges), ("strconv.ErrRange", laid_strconv_ErrRange), ("strconv.ErrSyntax", laid_strconv_ErrSyntax), ("umpire/op.kinds", laid_umpire_op_kinds), ("umpire/result.words", laid_umpire_result_words), ("umpire/text.kinds", laid_umpire_text_kinds), ("umpire/text.models", laid_umpire_text_models), ("unicode/utf8.first", laid_unicode_utf8_first)] }
def TextWritesSaid : Prop := textWritesRow.holds Tryz.pinned (OpenSpec.ofChange textWritesSpec)

/-- ITS FALSE NEIGHBOUR: 'it returns false'. Refute it at one input. -/
def textWritesWrong : ChangeSpec := { name := "textWrites", fn := fun _ => fun
  | [d] => { results := [.lit (.bool false)], args := [d] }
  | _ => none }
def TextWritesWrongFalsely : Prop := textWritesRow.holds Tryz.pinned (OpenSpec.ofChange textWritesWrong)

/-- 'umpirelaw06.TextReads': WHATEVER THE INPUT: true; the input reads as it did. -/
def textReadsSpec : ChangeSpec := { name := "textReads", fn := fun _ => fun
  | [d] => { results := [.lit (.bool true)], args := [d] }
  | _ => none }
def textReadsRow : OpenClaim := { program := "ytfklgaeejmeipaagreatdoor", sum := "15b0d647b729c620326b6e2409d86e742a5ffb73a27c58da5b6705a7f71f9f20", func := "umpire/umpirelaw06.TextReads", spec := "textReads", inPlace := ["internal/abi.NoEscape", "internal/bytealg.MakeNoZero", "internal/bytealg.CountString", "internal/bytealg.IndexByteString", "internal/bytealg.IndexString"], unfollowed := true, recurses := true, named := ["umpire/text.kinds", "umpire/op.kinds", "umpire/text.models", "internal/strconv.uint64pow10", "math/bits.deBruijn32tab", "math/bits.deBruijn64tab", "umpire/result.words", "unicode/utf8.first", "unicode/utf8.acceptRanges", "internal/bytealg.MaxLen", "strconv.ErrSyntax", "strconv.ErrRange"], apart := false, laid := [("math/bits.deBruijn32tab", laid_math_bits_deBruijn32tab), ("math/bits.deBruijn64tab", laid_math_bits_deBruijn64tab), ("internal/strconv.uint64pow10", laid_internal_strconv_uint64pow10), ("unicode/utf8.acceptRanges", laid_unicode_utf8_acceptRanges), ("strconv.ErrRange", laid_strconv_ErrRange), ("strconv.ErrSyntax", laid_strconv_ErrSyntax), ("umpire/op.kinds", laid_umpire_op_kinds), ("umpire/result.words", laid_umpire_result_words), ("umpire/text.kinds", laid_umpire_text_kinds), ("umpire/text.models", laid_umpire_text_models), ("unicode/utf8.first", laid_unicode_utf8_first)] }
def TextReadsSaid : Prop := textReadsRow.holds Tryz.pinned (OpenSpec.ofChange textReadsSpec)

/-- ITS FALSE NEIGHBOUR: 'it returns false'. Refute it at one input. -/
def textReadsWrong : ChangeSpec := { name := "textReads", fn := fun _ => fun
  | [d] => { results := [.lit (.bool false)], args := [d] }
  | _ => none }
def TextReadsWrongFalsely : Prop := textReadsRow.holds Tryz.pinned (OpenSpec.ofChange textReadsWrong)

/-- 'umpirelaw06.TextKnown': WHATEVER THE INPUT: true; the input reads as it did. -/
def textKnownSpec : ChangeSpec := { name := "textKnown", fn := fun _ => fun
  | [] => { results := [.lit (.bool true)], args := [] }
  | _ => none }
def textKnownRow : OpenClaim := { program := "ytfklgaeejmeipaagreatdoor", sum := "15b0d647b729c620326b6e2409d86e742a5ffb73a27c58da5b6705a7f71f9f20", func := "umpire/umpirelaw06.TextKnown", spec := "textKnown", inPlace := ["internal/abi.NoEscape", "internal/bytealg.MakeNoZero", "internal/bytealg.CountString", "internal/bytealg.IndexByteString", "internal/bytealg.IndexString"], unfollowed := true, recurses := true, named := ["umpire/text.kinds", "umpire/op.kinds", "umpire/text.models", "internal/strconv.uint64pow10", "math/bits.deBruijn32tab", "math/bits.deBruijn64tab", "umpire/result.words", "unicode/utf8.first", "unicode/utf8.acceptRanges", "internal/bytealg.MaxLen", "strconv.ErrSyntax", "strconv.ErrRange"], apart := false, laid := [("math/bits.deBruijn32tab", laid_math_bits_deBruijn32tab), ("math/bits.deBruijn64tab", laid_math_bits_deBruijn64tab), ("internal/strconv.uint64pow10", laid_internal_strconv_uint64pow10), ("unicode/utf8.acceptRanges", laid_unicode_utf8_acceptRanges), ("strconv.ErrRange", laid_strconv_ErrRange), ("strconv.ErrSyntax", laid_strconv_ErrSyntax), ("umpire/op.kinds", laid_umpire_op_kinds), ("umpire/result.words", laid_umpire_result_words), ("umpire/text.kinds", laid_umpire_text_kinds), ("umpire/text.models", laid_umpire_text_models), ("unicode/utf8.first", laid_unicode_utf8_first)] }
def TextKnownSaid : Prop := textKnownRow.holds Tryz.pinned (OpenSpec.ofChange textKnownSpec)

/-- ITS FALSE NEIGHBOUR: 'it returns false'. Refute it at one input. -/
def textKnownWrong : ChangeSpec := { name := "textKnown", fn := fun _ => fun
  | [] => { results := [.lit (.bool false)], args := [] }
  | _ => none }
def TextKnownWrongFalsely : Prop := textKnownRow.holds Tryz.pinned (OpenSpec.ofChange textKnownWrong)

/-- 'umpirelaw06.TextScripts': WHATEVER THE INPUT: true; the input reads as it did. -/
def textScriptsSpec : ChangeSpec := { name := "textScripts", fn := fun _ => fun
  | [d1, d2] => { results := [.lit (.bool true)], args := [d1, d2] }
  | _ => none }
def textScriptsRow : OpenClaim := { program := "ytfklgaeejmeipaagreatdoor", sum := "15b0d647b729c620326b6e2409d86e742a5ffb73a27c58da5b6705a7f71f9f20", func := "umpire/umpirelaw06.TextScripts", spec := "textScripts", inPlace := ["internal/abi.NoEscape", "internal/bytealg.MakeNoZero", "internal/bytealg.CountString", "internal/bytealg.IndexByteString", "internal/bytealg.IndexString"], unfollowed := true, recurses := true, named := ["umpire/text.kinds", "umpire/op.kinds", "umpire/text.models", "internal/strconv.uint64pow10", "math/bits.deBruijn32tab", "math/bits.deBruijn64tab", "umpire/result.words", "unicode/utf8.first", "unicode/utf8.acceptRanges", "internal/bytealg.MaxLen", "strconv.ErrSyntax", "strconv.ErrRange"], apart := false, laid := [("math/bits.deBruijn32tab", laid_math_bits_deBruijn32tab), ("math/bits.deBruijn64tab", laid_math_bits_deBruijn64tab), ("internal/strconv.uint64pow10", laid_internal_strconv_uint64pow10), ("unicode/utf8.acceptRanges", laid_unicode_utf8_acceptRanges), ("strconv.ErrRange", laid_strconv_ErrRange), ("strconv.ErrSyntax", laid_strconv_ErrSyntax), ("umpire/op.kinds", laid_umpire_op_kinds), ("umpire/result.words", laid_umpire_result_words), ("umpire/text.kinds", laid_umpire_text_kinds), ("umpire/text.models", laid_umpire_text_models), ("unicode/utf8.first", laid_unicode_utf8_first)] }
def TextScriptsSaid : Prop := textScriptsRow.holds Tryz.pinned (OpenSpec.ofChange textScriptsSpec)

/-- ITS FALSE NEIGHBOUR: 'it returns false'. Refute it at one input. -/
def textScriptsWrong : ChangeSpec := { name := "textScripts", fn := fun _ => fun
  | [d1, d2] => { results := [.lit (.bool false)], args := [d1, d2] }
  | _ => none }
def TextScriptsWrongFalsely : Prop := textScriptsRow.holds Tryz.pinned (OpenSpec.ofChange textScriptsWrong)

/- THE SECOND FORM. 'bulk': how many values and letters a reading holds, each counted each time it is reached (what is shared counts as often as it is met; a slice's spare places count too). A statement '..UptoSaid' is the law's where the arguments, and the package variables that the reading takes, are together of bulk at most 1048576: NARROWER than '..Said'. Prove '..Said' where nothing that the law and all that it calls make is longer than what came in: it says more and counts as full. Else prove '..UptoSaid'. A law counts once. -/
mutual
def uptoBulk {H : Type} : DataW H → Nat
  | .lit (.string bytes) => bytes.length + 1
  | .lit _ => 1
  | .nil => 1
  | .ptr d => uptoBulk d + 1
  | .slice elems spare => uptoBulkAll elems + uptoBulkAll spare + 1
  | .agg parts => uptoBulkAll parts + 1
  | .iface _ d => uptoBulk d + 1
  | .map entries => uptoBulkEntries entries + 1
  | .held _ => 1
def uptoBulkAll {H : Type} : List (DataW H) → Nat
  | [] => 0
  | d :: r => uptoBulk d + uptoBulkAll r
def uptoBulkEntries {H : Type} : List (Lit × DataW H) → Nat
  | [] => 0
  | x :: r => uptoBulkEntry x + uptoBulkEntries r
def uptoBulkEntry {H : Type} : Lit × DataW H → Nat
  | (.string bytes, d) => bytes.length + uptoBulk d + 1
  | (_, d) => uptoBulk d + 1
 end
def uptoSmall : (H : Type) → List (DataW H) → Bool := fun _ ds => decide (uptoBulkAll ds ≤ 1048576)
def OpenSpec.upto (s : _root_.Go.ChangeSpec) : _root_.Go.OpenSpec := { _root_.Go.OpenSpec.ofChange s with cond := some uptoSmall }

/-- 'umpirelaw06.TextLines', WHERE WHAT IT READS IS OF BULK AT MOST 1048576: true; the input reads as it did. -/
def textLinesUptoRow : OpenClaim := { program := "ytfklgaeejmeipaagreatdoor", sum := "15b0d647b729c620326b6e2409d86e742a5ffb73a27c58da5b6705a7f71f9f20", func := "umpire/umpirelaw06.TextLines", spec := "textLines", inPlace := ["internal/abi.NoEscape", "internal/bytealg.MakeNoZero", "internal/bytealg.CountString", "internal/bytealg.IndexByteString", "internal/bytealg.IndexString"], unfollowed := true, recurses := true, named := ["umpire/text.kinds", "umpire/op.kinds", "umpire/text.models", "internal/strconv.uint64pow10", "math/bits.deBruijn32tab", "math/bits.deBruijn64tab", "umpire/result.words", "unicode/utf8.first", "unicode/utf8.acceptRanges", "internal/bytealg.MaxLen", "strconv.ErrSyntax", "strconv.ErrRange"], apart := false, laid := [("math/bits.deBruijn32tab", laid_math_bits_deBruijn32tab), ("math/bits.deBruijn64tab", laid_math_bits_deBruijn64tab), ("internal/strconv.uint64pow10", laid_internal_strconv_uint64pow10), ("unicode/utf8.acceptRanges", laid_unicode_utf8_acceptRanges), ("strconv.ErrRange", laid_strconv_ErrRange), ("strconv.ErrSyntax", laid_strconv_ErrSyntax), ("umpire/op.kinds", laid_umpire_op_kinds), ("umpire/result.words", laid_umpire_result_words), ("umpire/text.kinds", laid_umpire_text_kinds), ("umpire/text.models", laid_umpire_text_models), ("unicode/utf8.first", laid_unicode_utf8_first)], narrowed := true }
def TextLinesUptoSaid : Prop := textLinesUptoRow.holds Tryz.pinned (OpenSpec.upto textLinesSpec)

/-- 'umpirelaw06.TextBack', WHERE WHAT IT READS IS OF BULK AT MOST 1048576: true; the input reads as it did. -/
def textBackUptoRow : OpenClaim := { program := "ytfklgaeejmeipaagreatdoor", sum := "15b0d647b729c620326b6e2409d86e742a5ffb73a27c58da5b6705a7f71f9f20", func := "umpire/umpirelaw06.TextBack", spec := "textBack", inPlace := ["internal/abi.NoEscape", "internal/bytealg.MakeNoZero", "internal/bytealg.CountString", "internal/bytealg.IndexByteString", "internal/bytealg.IndexString"], unfollowed := true, recurses := true, named := ["umpire/text.kinds", "umpire/op.kinds", "umpire/text.models", "internal/strconv.uint64pow10", "math/bits.deBruijn32tab", "math/bits.deBruijn64tab", "umpire/result.words", "unicode/utf8.first", "unicode/utf8.acceptRanges", "internal/bytealg.MaxLen", "strconv.ErrSyntax", "strconv.ErrRange"], apart := false, laid := [("math/bits.deBruijn32tab", laid_math_bits_deBruijn32tab), ("math/bits.deBruijn64tab", laid_math_bits_deBruijn64tab), ("internal/strconv.uint64pow10", laid_internal_strconv_uint64pow10), ("unicode/utf8.acceptRanges", laid_unicode_utf8_acceptRanges), ("strconv.ErrRange", laid_strconv_ErrRange), ("strconv.ErrSyntax", laid_strconv_ErrSyntax), ("umpire/op.kinds", laid_umpire_op_kinds), ("umpire/result.words", laid_umpire_result_words), ("umpire/text.kinds", laid_umpire_text_kinds), ("umpire/text.models", laid_umpire_text_models), ("unicode/utf8.first", laid_unicode_utf8_first)], narrowed := true }
def TextBackUptoSaid : Prop := textBackUptoRow.holds Tryz.pinned (OpenSpec.upto textBackSpec)

/-- 'umpirelaw06.TextWrites', WHERE WHAT IT READS IS OF BULK AT MOST 1048576: true; the input reads as it did. -/
def textWritesUptoRow : OpenClaim := { program := "ytfklgaeejmeipaagreatdoor", sum := "15b0d647b729c620326b6e2409d86e742a5ffb73a27c58da5b6705a7f71f9f20", func := "umpire/umpirelaw06.TextWrites", spec := "textWrites", inPlace := ["internal/abi.NoEscape", "internal/bytealg.MakeNoZero", "internal/bytealg.CountString", "internal/bytealg.IndexByteString", "internal/bytealg.IndexString"], unfollowed := true, recurses := true, named := ["umpire/text.kinds", "umpire/op.kinds", "umpire/text.models", "internal/strconv.uint64pow10", "math/bits.deBruijn32tab", "math/bits.deBruijn64tab", "umpire/result.words", "unicode/utf8.first", "unicode/utf8.acceptRanges", "internal/bytealg.MaxLen", "strconv.ErrSyntax", "strconv.ErrRange"], apart := false, laid := [("math/bits.deBruijn32tab", laid_math_bits_deBruijn32tab), ("math/bits.deBruijn64tab", laid_math_bits_deBruijn64tab), ("internal/strconv.uint64pow10", laid_internal_strconv_uint64pow10), ("unicode/utf8.acceptRanges", laid_unicode_utf8_acceptRanges), ("strconv.ErrRange", laid_strconv_ErrRange), ("strconv.ErrSyntax", laid_strconv_ErrSyntax), ("umpire/op.kinds", laid_umpire_op_kinds), ("umpire/result.words", laid_umpire_result_words), ("umpire/text.kinds", laid_umpire_text_kinds), ("umpire/text.models", laid_umpire_text_models), ("unicode/utf8.first", laid_unicode_utf8_first)], narrowed := true }
def TextWritesUptoSaid : Prop := textWritesUptoRow.holds Tryz.pinned (OpenSpec.upto textWritesSpec)

/-- 'umpirelaw06.TextReads', WHERE WHAT IT READS IS OF BULK AT MOST 1048576: true; the input reads as it did. -/
def textReadsUptoRow : OpenClaim := { program := "ytfklgaeejmeipaagreatdoor", sum := "15b0d647b729c620326b6e2409d86e742a5ffb73a27c58da5b6705a7f71f9f20", func := "umpire/umpirelaw06.TextReads", spec := "textReads", inPlace := ["internal/abi.NoEscape", "internal/bytealg.MakeNoZero", "internal/bytealg.CountString", "internal/bytealg.IndexByteString", "internal/bytealg.IndexString"], unfollowed := true, recurses := true, named := ["umpire/text.kinds", "umpire/op.kinds", "umpire/text.models", "internal/strconv.uint64pow10", "math/bits.deBruijn32tab", "math/bits.deBruijn64tab", "umpire/result.words", "unicode/utf8.first", "unicode/utf8.acceptRanges", "internal/bytealg.MaxLen", "strconv.ErrSyntax", "strconv.ErrRange"], apart := false, laid := [("math/bits.deBruijn32tab", laid_math_bits_deBruijn32tab), ("math/bits.deBruijn64tab", laid_math_bits_deBruijn64tab), ("internal/strconv.uint64pow10", laid_internal_strconv_uint64pow10), ("unicode/utf8.acceptRanges", laid_unicode_utf8_acceptRanges), ("strconv.ErrRange", laid_strconv_ErrRange), ("strconv.ErrSyntax", laid_strconv_ErrSyntax), ("umpire/op.kinds", laid_umpire_op_kinds), ("umpire/result.words", laid_umpire_result_words), ("umpire/text.kinds", laid_umpire_text_kinds), ("umpire/text.models", laid_umpire_text_models), ("unicode/utf8.first", laid_unicode_utf8_first)], narrowed := true }
def TextReadsUptoSaid : Prop := textReadsUptoRow.holds Tryz.pinned (OpenSpec.upto textReadsSpec)

/-- 'umpirelaw06.TextKnown', WHERE WHAT IT READS IS OF BULK AT MOST 1048576: true; the input reads as it did. -/
def textKnownUptoRow : OpenClaim := { program := "ytfklgaeejmeipaagreatdoor", sum := "15b0d647b729c620326b6e2409d86e742a5ffb73a27c58da5b6705a7f71f9f20", func := "umpire/umpirelaw06.TextKnown", spec := "textKnown", inPlace := ["internal/abi.NoEscape", "internal/bytealg.MakeNoZero", "internal/bytealg.CountString", "internal/bytealg.IndexByteString", "internal/bytealg.IndexString"], unfollowed := true, recurses := true, named := ["umpire/text.kinds", "umpire/op.kinds", "umpire/text.models", "internal/strconv.uint64pow10", "math/bits.deBruijn32tab", "math/bits.deBruijn64tab", "umpire/result.words", "unicode/utf8.first", "unicode/utf8.acceptRanges", "internal/bytealg.MaxLen", "strconv.ErrSyntax", "strconv.ErrRange"], apart := false, laid := [("math/bits.deBruijn32tab", laid_math_bits_deBruijn32tab), ("math/bits.deBruijn64tab", laid_math_bits_deBruijn64tab), ("internal/strconv.uint64pow10", laid_internal_strconv_uint64pow10), ("unicode/utf8.acceptRanges", laid_unicode_utf8_acceptRanges), ("strconv.ErrRange", laid_strconv_ErrRange), ("strconv.ErrSyntax", laid_strconv_ErrSyntax), ("umpire/op.kinds", laid_umpire_op_kinds), ("umpire/result.words", laid_umpire_result_words), ("umpire/text.kinds", laid_umpire_text_kinds), ("umpire/text.models", laid_umpire_text_models), ("unicode/utf8.first", laid_unicode_utf8_first)], narrowed := true }
def TextKnownUptoSaid : Prop := textKnownUptoRow.holds Tryz.pinned (OpenSpec.upto textKnownSpec)

/-- 'umpirelaw06.TextScripts', WHERE WHAT IT READS IS OF BULK AT MOST 1048576: true; the input reads as it did. -/
def textScriptsUptoRow : OpenClaim := { program := "ytfklgaeejmeipaagreatdoor", sum := "15b0d647b729c620326b6e2409d86e742a5ffb73a27c58da5b6705a7f71f9f20", func := "umpire/umpirelaw06.TextScripts", spec := "textScripts", inPlace := ["internal/abi.NoEscape", "internal/bytealg.MakeNoZero", "internal/bytealg.CountString", "internal/bytealg.IndexByteString", "internal/bytealg.IndexString"], unfollowed := true, recurses := true, named := ["umpire/text.kinds", "umpire/op.kinds", "umpire/text.models", "internal/strconv.uint64pow10", "math/bits.deBruijn32tab", "math/bits.deBruijn64tab", "umpire/result.words", "unicode/utf8.first", "unicode/utf8.acceptRanges", "internal/bytealg.MaxLen", "strconv.ErrSyntax", "strconv.ErrRange"], apart := false, laid := [("math/bits.deBruijn32tab", laid_math_bits_deBruijn32tab), ("math/bits.deBruijn64tab", laid_math_bits_deBruijn64tab), ("internal/strconv.uint64pow10", laid_internal_strconv_uint64pow10), ("unicode/utf8.acceptRanges", laid_unicode_utf8_acceptRanges), ("strconv.ErrRange", laid_strconv_ErrRange), ("strconv.ErrSyntax", laid_strconv_ErrSyntax), ("umpire/op.kinds", laid_umpire_op_kinds), ("umpire/result.words", laid_umpire_result_words), ("umpire/text.kinds", laid_umpire_text_kinds), ("umpire/text.models", laid_umpire_text_models), ("unicode/utf8.first", laid_unicode_utf8_first)], narrowed := true }
def TextScriptsUptoSaid : Prop := textScriptsUptoRow.holds Tryz.pinned (OpenSpec.upto textScriptsSpec)

end Rows
end Go.Proofs.YtfklgaeejmeipaaGreatDoor
