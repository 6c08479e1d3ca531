/-
  NARROWER THAN 'FOR EVERY INPUT', by the rows' own cells (each row's printed sentence says how): FnReadRule: laid · FnRulesValid: laid · FnExactRulesValid: laid · FnExactFirstRule: laid · FnFirstRule: laid · FnExactRulesAllow: laid · FnRulesAllow: laid · FnDeadRules: laid · FnExactDeadRules: laid · FnExactRuleText: laid · FnExactReadRule: laid · FnRuleText: laid.
  DERIVED. THE GIVEN ROWS OF THIS SEAT. 12 by the template 'for every input the law returns true; each argument reads behind the call as it read before'; 0 by the template 'total and deterministic' (their statements: YtpmelhkhmichcaaDoorTotals.lean).
  GIVEN WITH THE SEED: the statements are not yours to turn. If you find one false, say at which input.
  Laid BY PROGRAM, IN A SANDBOX (cutbox-rows.mjs): the forced cells as the released guide's own fill.sh prints them over the translation b9b4f705c341cb2d… (all of the seat's roots in one cut). By AI agents, Wed Nov 11 2026. No macro, syntax, notation, axiom, sorry.
-/
import Derived.Test.YtpmelhkhmichcaaDoorChecked
import GoSem.PinnedTables
import GoSem.Claim
import GoSem.ClaimJoined
import GoSem.ClaimMapViews
import Derived.JoinedTies
import Derived.KernelRfl
namespace Go.Proofs.YtpmelhkhmichcaaDoor
/- THE CELL 'sum', in the pinned program and in every row, IS THE sha256 OF THE DUMP (.gsa) THAT YtpmelhkhmichcaaDoorProg.lean LOADS. Nothing in Lean hashes anything: it is a label: what it is worth is what the hold of that sum in a sandbox is worth. -/
noncomputable def Tryd.pinned : Pinned := { name := "ytpmelhkhmichcaadoor", sum := "b9b4f705c341cb2de7892bf4d42c5d8655355261b2e9ee81d8304b889e4e9046", checked := Tryd.checked }
namespace Rows
def none {H : Type} : Left H := { results := [], args := [] }

/- WHAT THE LISTED PACKAGE-LEVEL VARIABLES READ AS WHEN THE CALL BEGINS. Each datum BY PROGRAM (the guide's laid-datum.mjs) off the statement by which the dump's own 'gosem.cut.vars' lays the variable. In a bare row this is a premise. The card (YtpmelhkhmichcaaDoorCards.lean) ties it to the program's text. -/
def laid_math_bits_deBruijn32tab {H : Type} : DataW H := .agg [.lit (.int .u8 0), .lit (.int .u8 1), .lit (.int .u8 28), .lit (.int .u8 2), .lit (.int .u8 29), .lit (.int .u8 14), .lit (.int .u8 24), .lit (.int .u8 3), .lit (.int .u8 30), .lit (.int .u8 22), .lit (.int .u8 20), .lit (.int .u8 15), .lit (.int .u8 25), .lit (.int .u8 17), .lit (.int .u8 4), .lit (.int .u8 8), .lit (.int .u8 31), .lit (.int .u8 27), .lit (.int .u8 13), .lit (.int .u8 23), .lit (.int .u8 21), .lit (.int .u8 19), .lit (.int .u8 16), .lit (.int .u8 7), .lit (.int .u8 26), .lit (.int .u8 12), .lit (.int .u8 18), .lit (.int .u8 6), .lit (.int .u8 11), .lit (.int .u8 5), .lit (.int .u8 10), .lit (.int .u8 9)]
def laid_math_bits_deBruijn64tab {H : Type} : DataW H := .agg [.lit (.int .u8 0), .lit (.int .u8 1), .lit (.int .u8 56), .lit (.int .u8 2), .lit (.int .u8 57), .lit (.int .u8 49), .lit (.int .u8 28), .lit (.int .u8 3), .lit (.int .u8 61), .lit (.int .u8 58), .lit (.int .u8 42), .lit (.int .u8 50), .lit (.int .u8 38), .lit (.int .u8 29), .lit (.int .u8 17), .lit (.int .u8 4), .lit (.int .u8 62), .lit (.int .u8 47), .lit (.int .u8 59), .lit (.int .u8 36), .lit (.int .u8 45), .lit (.int .u8 43), .lit (.int .u8 51), .lit (.int .u8 22), .lit (.int .u8 53), .lit (.int .u8 39), .lit (.int .u8 33), .lit (.int .u8 30), .lit (.int .u8 24), .lit (.int .u8 18), .lit (.int .u8 12), .lit (.int .u8 5), .lit (.int .u8 63), .lit (.int .u8 55), .lit (.int .u8 48), .lit (.int .u8 27), .lit (.int .u8 60), .lit (.int .u8 41), .lit (.int .u8 37), .lit (.int .u8 16), .lit (.int .u8 46), .lit (.int .u8 35), .lit (.int .u8 44), .lit (.int .u8 21), .lit (.int .u8 52), .lit (.int .u8 32), .lit (.int .u8 23), .lit (.int .u8 11), .lit (.int .u8 54), .lit (.int .u8 26), .lit (.int .u8 40), .lit (.int .u8 15), .lit (.int .u8 34), .lit (.int .u8 20), .lit (.int .u8 31), .lit (.int .u8 10), .lit (.int .u8 25), .lit (.int .u8 14), .lit (.int .u8 19), .lit (.int .u8 9), .lit (.int .u8 13), .lit (.int .u8 8), .lit (.int .u8 7), .lit (.int .u8 6)]
def laid_internal_strconv_uint64pow10 {H : Type} : DataW H := .agg [.lit (.int .u64 1), .lit (.int .u64 10), .lit (.int .u64 100), .lit (.int .u64 1000), .lit (.int .u64 10000), .lit (.int .u64 100000), .lit (.int .u64 1000000), .lit (.int .u64 10000000), .lit (.int .u64 100000000), .lit (.int .u64 1000000000), .lit (.int .u64 10000000000), .lit (.int .u64 100000000000), .lit (.int .u64 1000000000000), .lit (.int .u64 10000000000000), .lit (.int .u64 100000000000000), .lit (.int .u64 1000000000000000), .lit (.int .u64 10000000000000000), .lit (.int .u64 100000000000000000), .lit (.int .u64 1000000000000000000), .lit (.int .u64 10000000000000000000)]
def laid_unicode_utf8_acceptRanges {H : Type} : DataW H := .agg [.agg [.lit (.int .u8 128), .lit (.int .u8 191)], .agg [.lit (.int .u8 160), .lit (.int .u8 191)], .agg [.lit (.int .u8 128), .lit (.int .u8 159)], .agg [.lit (.int .u8 144), .lit (.int .u8 191)], .agg [.lit (.int .u8 128), .lit (.int .u8 143)], .agg [.lit (.int .u8 0), .lit (.int .u8 0)], .agg [.lit (.int .u8 0), .lit (.int .u8 0)], .agg [.lit (.int .u8 0), .lit (.int .u8 0)], .agg [.lit (.int .u8 0), .lit (.int .u8 0)], .agg [.lit (.int .u8 0), .lit (.int .u8 0)], .agg [.lit (.int .u8 0), .lit (.int .u8 0)], .agg [.lit (.int .u8 0), .lit (.int .u8 0)], .agg [.lit (.int .u8 0), .lit (.int .u8 0)], .agg [.lit (.int .u8 0), .lit (.int .u8 0)], .agg [.lit (.int .u8 0), .lit (.int .u8 0)], .agg [.lit (.int .u8 0), .lit (.int .u8 0)]]
def laid_strconv_ErrRange {H : Type} : DataW H := .iface "*errors.errorString" (.ptr (.agg [.lit (.string [118, 97, 108, 117, 101, 32, 111, 117, 116, 32, 111, 102, 32, 114, 97, 110, 103, 101])]))
def laid_strconv_ErrSyntax {H : Type} : DataW H := .iface "*errors.errorString" (.ptr (.agg [.lit (.string [105, 110, 118, 97, 108, 105, 100, 32, 115, 121, 110, 116, 97, 120])]))
/-- One of Go's own tables, pinned by name: the form's constant. -/
def laid_unicode_utf8_first : DataW Unit := Go.Pinned.utf8First

/-- 'laws.FnReadRule': WHATEVER THE INPUT: true; the input reads as it did. -/
def fnReadRuleSpec : ChangeSpec := { name := "fnReadRule", fn := fun _ => fun
  | [d] => { results := [.lit (.bool true)], args := [d] }
  | _ => none }
def fnReadRuleRow : OpenClaim := { program := "ytpmelhkhmichcaadoor", sum := "b9b4f705c341cb2de7892bf4d42c5d8655355261b2e9ee81d8304b889e4e9046", func := "loop.example/accesspolicies/laws.FnReadRule", spec := "fnReadRule", inPlace := ["internal/bytealg.CountString", "internal/bytealg.IndexByteString", "internal/bytealg.IndexString"], unfollowed := true, recurses := true, named := ["unicode/utf8.first", "unicode/utf8.acceptRanges", "internal/bytealg.MaxLen", "strconv.ErrSyntax", "strconv.ErrRange", "internal/strconv.uint64pow10", "math/bits.deBruijn32tab", "math/bits.deBruijn64tab"], apart := false, laid := [("math/bits.deBruijn32tab", laid_math_bits_deBruijn32tab), ("math/bits.deBruijn64tab", laid_math_bits_deBruijn64tab), ("internal/strconv.uint64pow10", laid_internal_strconv_uint64pow10), ("unicode/utf8.acceptRanges", laid_unicode_utf8_acceptRanges), ("strconv.ErrRange", laid_strconv_ErrRange), ("strconv.ErrSyntax", laid_strconv_ErrSyntax), ("unicode/utf8.first", laid_unicode_utf8_first)] }
def FnReadRuleSaid : Prop := fnReadRuleRow.holds Tryd.pinned (OpenSpec.ofChange fnReadRuleSpec)

/-- ITS FALSE NEIGHBOUR: 'it returns false'. Refute it at one input. -/
def fnReadRuleWrong : ChangeSpec := { name := "fnReadRule", fn := fun _ => fun
  | [d] => { results := [.lit (.bool false)], args := [d] }
  | _ => none }
def FnReadRuleWrongFalsely : Prop := fnReadRuleRow.holds Tryd.pinned (OpenSpec.ofChange fnReadRuleWrong)

/-- 'laws.FnRulesValid': WHATEVER THE INPUT: true; the input reads as it did. -/
def fnRulesValidSpec : ChangeSpec := { name := "fnRulesValid", fn := fun _ => fun
  | [d] => { results := [.lit (.bool true)], args := [d] }
  | _ => none }
def fnRulesValidRow : OpenClaim := { program := "ytpmelhkhmichcaadoor", sum := "b9b4f705c341cb2de7892bf4d42c5d8655355261b2e9ee81d8304b889e4e9046", func := "loop.example/accesspolicies/laws.FnRulesValid", spec := "fnRulesValid", inPlace := ["internal/bytealg.CountString", "internal/bytealg.IndexByteString", "internal/bytealg.IndexString"], unfollowed := true, recurses := true, named := ["unicode/utf8.first", "unicode/utf8.acceptRanges", "internal/bytealg.MaxLen"], apart := false, laid := [("unicode/utf8.acceptRanges", laid_unicode_utf8_acceptRanges), ("unicode/utf8.first", laid_unicode_utf8_first)] }
def FnRulesValidSaid : Prop := fnRulesValidRow.holds Tryd.pinned (OpenSpec.ofChange fnRulesValidSpec)

/-- ITS FALSE NEIGHBOUR: 'it returns false'. Refute it at one input. -/
def fnRulesValidWrong : ChangeSpec := { name := "fnRulesValid", fn := fun _ => fun
  | [d] => { results := [.lit (.bool false)], args := [d] }
  | _ => none }
def FnRulesValidWrongFalsely : Prop := fnRulesValidRow.holds Tryd.pinned (OpenSpec.ofChange fnRulesValidWrong)

/-- 'laws.FnExactRulesValid': WHATEVER THE INPUT: true; the input reads as it did. -/
def fnExactRulesValidSpec : ChangeSpec := { name := "fnExactRulesValid", fn := fun _ => fun
  | [d] => { results := [.lit (.bool true)], args := [d] }
  | _ => none }
def fnExactRulesValidRow : OpenClaim := { program := "ytpmelhkhmichcaadoor", sum := "b9b4f705c341cb2de7892bf4d42c5d8655355261b2e9ee81d8304b889e4e9046", func := "loop.example/accesspolicies/laws.FnExactRulesValid", spec := "fnExactRulesValid", inPlace := ["internal/bytealg.CountString", "internal/bytealg.IndexByteString", "internal/bytealg.IndexString"], unfollowed := true, recurses := true, named := ["unicode/utf8.first", "unicode/utf8.acceptRanges", "internal/bytealg.MaxLen"], apart := false, laid := [("unicode/utf8.acceptRanges", laid_unicode_utf8_acceptRanges), ("unicode/utf8.first", laid_unicode_utf8_first)] }
def FnExactRulesValidSaid : Prop := fnExactRulesValidRow.holds Tryd.pinned (OpenSpec.ofChange fnExactRulesValidSpec)

/-- ITS FALSE NEIGHBOUR: 'it returns false'. Refute it at one input. -/
def fnExactRulesValidWrong : ChangeSpec := { name := "fnExactRulesValid", fn := fun _ => fun
  | [d] => { results := [.lit (.bool false)], args := [d] }
  | _ => none }
def FnExactRulesValidWrongFalsely : Prop := fnExactRulesValidRow.holds Tryd.pinned (OpenSpec.ofChange fnExactRulesValidWrong)

/-- 'laws.FnExactFirstRule': WHATEVER THE INPUT: true; the input reads as it did. -/
def fnExactFirstRuleSpec : ChangeSpec := { name := "fnExactFirstRule", fn := fun _ => fun
  | [d1, d2, d3] => { results := [.lit (.bool true)], args := [d1, d2, d3] }
  | _ => none }
def fnExactFirstRuleRow : OpenClaim := { program := "ytpmelhkhmichcaadoor", sum := "b9b4f705c341cb2de7892bf4d42c5d8655355261b2e9ee81d8304b889e4e9046", func := "loop.example/accesspolicies/laws.FnExactFirstRule", spec := "fnExactFirstRule", inPlace := ["internal/bytealg.CountString", "internal/bytealg.IndexByteString", "internal/bytealg.IndexString"], unfollowed := true, recurses := true, named := ["unicode/utf8.first", "unicode/utf8.acceptRanges", "internal/bytealg.MaxLen"], apart := false, laid := [("unicode/utf8.acceptRanges", laid_unicode_utf8_acceptRanges), ("unicode/utf8.first", laid_unicode_utf8_first)] }
def FnExactFirstRuleSaid : Prop := fnExactFirstRuleRow.holds Tryd.pinned (OpenSpec.ofChange fnExactFirstRuleSpec)

/-- ITS FALSE NEIGHBOUR: 'it returns false'. Refute it at one input. -/
def fnExactFirstRuleWrong : ChangeSpec := { name := "fnExactFirstRule", fn := fun _ => fun
  | [d1, d2, d3] => { results := [.lit (.bool false)], args := [d1, d2, d3] }
  | _ => none }
def FnExactFirstRuleWrongFalsely : Prop := fnExactFirstRuleRow.holds Tryd.pinned (OpenSpec.ofChange fnExactFirstRuleWrong)

/-- 'laws.FnFirstRule': WHATEVER THE INPUT: true; the input reads as it did. -/
def fnFirstRuleSpec : ChangeSpec := { name := "fnFirstRule", fn := fun _ => fun
  | [d] => { results := [.lit (.bool true)], args := [d] }
  | _ => none }
def fnFirstRuleRow : OpenClaim := { program := "ytpmelhkhmichcaadoor", sum := "b9b4f705c341cb2de7892bf4d42c5d8655355261b2e9ee81d8304b889e4e9046", func := "loop.example/accesspolicies/laws.FnFirstRule", spec := "fnFirstRule", inPlace := ["internal/bytealg.CountString", "internal/bytealg.IndexByteString", "internal/bytealg.IndexString"], unfollowed := true, recurses := true, named := ["unicode/utf8.first", "unicode/utf8.acceptRanges", "internal/bytealg.MaxLen"], apart := false, laid := [("unicode/utf8.acceptRanges", laid_unicode_utf8_acceptRanges), ("unicode/utf8.first", laid_unicode_utf8_first)] }
def FnFirstRuleSaid : Prop := fnFirstRuleRow.holds Tryd.pinned (OpenSpec.ofChange fnFirstRuleSpec)

/-- ITS FALSE NEIGHBOUR: 'it returns false'. Refute it at one input. -/
def fnFirstRuleWrong : ChangeSpec := { name := "fnFirstRule", fn := fun _ => fun
  | [d] => { results := [.lit (.bool false)], args := [d] }
  | _ => none }
def FnFirstRuleWrongFalsely : Prop := fnFirstRuleRow.holds Tryd.pinned (OpenSpec.ofChange fnFirstRuleWrong)

/-- 'laws.FnExactRulesAllow': WHATEVER THE INPUT: true; the input reads as it did. -/
def fnExactRulesAllowSpec : ChangeSpec := { name := "fnExactRulesAllow", fn := fun _ => fun
  | [d1, d2, d3] => { results := [.lit (.bool true)], args := [d1, d2, d3] }
  | _ => none }
def fnExactRulesAllowRow : OpenClaim := { program := "ytpmelhkhmichcaadoor", sum := "b9b4f705c341cb2de7892bf4d42c5d8655355261b2e9ee81d8304b889e4e9046", func := "loop.example/accesspolicies/laws.FnExactRulesAllow", spec := "fnExactRulesAllow", inPlace := ["internal/bytealg.CountString", "internal/bytealg.IndexByteString", "internal/bytealg.IndexString"], unfollowed := true, recurses := true, named := ["unicode/utf8.first", "unicode/utf8.acceptRanges", "internal/bytealg.MaxLen"], apart := false, laid := [("unicode/utf8.acceptRanges", laid_unicode_utf8_acceptRanges), ("unicode/utf8.first", laid_unicode_utf8_first)] }
def FnExactRulesAllowSaid : Prop := fnExactRulesAllowRow.holds Tryd.pinned (OpenSpec.ofChange fnExactRulesAllowSpec)

/-- ITS FALSE NEIGHBOUR: 'it returns false'. Refute it at one input. -/
def fnExactRulesAllowWrong : ChangeSpec := { name := "fnExactRulesAllow", fn := fun _ => fun
  | [d1, d2, d3] => { results := [.lit (.bool false)], args := [d1, d2, d3] }
  | _ => none }
def FnExactRulesAllowWrongFalsely : Prop := fnExactRulesAllowRow.holds Tryd.pinned (OpenSpec.ofChange fnExactRulesAllowWrong)

/-- 'laws.FnRulesAllow': WHATEVER THE INPUT: true; the input reads as it did. -/
def fnRulesAllowSpec : ChangeSpec := { name := "fnRulesAllow", fn := fun _ => fun
  | [d] => { results := [.lit (.bool true)], args := [d] }
  | _ => none }
def fnRulesAllowRow : OpenClaim := { program := "ytpmelhkhmichcaadoor", sum := "b9b4f705c341cb2de7892bf4d42c5d8655355261b2e9ee81d8304b889e4e9046", func := "loop.example/accesspolicies/laws.FnRulesAllow", spec := "fnRulesAllow", inPlace := ["internal/bytealg.CountString", "internal/bytealg.IndexByteString", "internal/bytealg.IndexString"], unfollowed := true, recurses := true, named := ["unicode/utf8.first", "unicode/utf8.acceptRanges", "internal/bytealg.MaxLen"], apart := false, laid := [("unicode/utf8.acceptRanges", laid_unicode_utf8_acceptRanges), ("unicode/utf8.first", laid_unicode_utf8_first)] }
def FnRulesAllowSaid : Prop := fnRulesAllowRow.holds Tryd.pinned (OpenSpec.ofChange fnRulesAllowSpec)

/-- ITS FALSE NEIGHBOUR: 'it returns false'. Refute it at one input. -/
def fnRulesAllowWrong : ChangeSpec := { name := "fnRulesAllow", fn := fun _ => fun
  | [d] => { results := [.lit (.bool false)], args := [d] }
  | _ => none }
def FnRulesAllowWrongFalsely : Prop := fnRulesAllowRow.holds Tryd.pinned (OpenSpec.ofChange fnRulesAllowWrong)

/-- 'laws.FnDeadRules': WHATEVER THE INPUT: true; the input reads as it did. -/
def fnDeadRulesSpec : ChangeSpec := { name := "fnDeadRules", fn := fun _ => fun
  | [d1, d2] => { results := [.lit (.bool true)], args := [d1, d2] }
  | _ => none }
def fnDeadRulesRow : OpenClaim := { program := "ytpmelhkhmichcaadoor", sum := "b9b4f705c341cb2de7892bf4d42c5d8655355261b2e9ee81d8304b889e4e9046", func := "loop.example/accesspolicies/laws.FnDeadRules", spec := "fnDeadRules", inPlace := ["internal/bytealg.CountString", "internal/bytealg.IndexByteString", "internal/bytealg.IndexString"], unfollowed := true, recurses := true, named := ["unicode/utf8.first", "unicode/utf8.acceptRanges", "internal/bytealg.MaxLen"], apart := false, laid := [("unicode/utf8.acceptRanges", laid_unicode_utf8_acceptRanges), ("unicode/utf8.first", laid_unicode_utf8_first)] }
def FnDeadRulesSaid : Prop := fnDeadRulesRow.holds Tryd.pinned (OpenSpec.ofChange fnDeadRulesSpec)

/-- ITS FALSE NEIGHBOUR: 'it returns false'. Refute it at one input. -/
def fnDeadRulesWrong : ChangeSpec := { name := "fnDeadRules", fn := fun _ => fun
  | [d1, d2] => { results := [.lit (.bool false)], args := [d1, d2] }
  | _ => none }
def FnDeadRulesWrongFalsely : Prop := fnDeadRulesRow.holds Tryd.pinned (OpenSpec.ofChange fnDeadRulesWrong)

/-- 'laws.FnExactDeadRules': WHATEVER THE INPUT: true; the input reads as it did. -/
def fnExactDeadRulesSpec : ChangeSpec := { name := "fnExactDeadRules", fn := fun _ => fun
  | [d] => { results := [.lit (.bool true)], args := [d] }
  | _ => none }
def fnExactDeadRulesRow : OpenClaim := { program := "ytpmelhkhmichcaadoor", sum := "b9b4f705c341cb2de7892bf4d42c5d8655355261b2e9ee81d8304b889e4e9046", func := "loop.example/accesspolicies/laws.FnExactDeadRules", spec := "fnExactDeadRules", inPlace := ["internal/bytealg.CountString", "internal/bytealg.IndexByteString", "internal/bytealg.IndexString"], unfollowed := true, recurses := true, named := ["unicode/utf8.first", "unicode/utf8.acceptRanges", "internal/bytealg.MaxLen"], apart := false, laid := [("unicode/utf8.acceptRanges", laid_unicode_utf8_acceptRanges), ("unicode/utf8.first", laid_unicode_utf8_first)] }
def FnExactDeadRulesSaid : Prop := fnExactDeadRulesRow.holds Tryd.pinned (OpenSpec.ofChange fnExactDeadRulesSpec)

/-- ITS FALSE NEIGHBOUR: 'it returns false'. Refute it at one input. -/
def fnExactDeadRulesWrong : ChangeSpec := { name := "fnExactDeadRules", fn := fun _ => fun
  | [d] => { results := [.lit (.bool false)], args := [d] }
  | _ => none }
def FnExactDeadRulesWrongFalsely : Prop := fnExactDeadRulesRow.holds Tryd.pinned (OpenSpec.ofChange fnExactDeadRulesWrong)

/-- 'laws.FnExactRuleText': WHATEVER THE INPUT: true; the input reads as it did. -/
def fnExactRuleTextSpec : ChangeSpec := { name := "fnExactRuleText", fn := fun _ => fun
  | [d] => { results := [.lit (.bool true)], args := [d] }
  | _ => none }
def fnExactRuleTextRow : OpenClaim := { program := "ytpmelhkhmichcaadoor", sum := "b9b4f705c341cb2de7892bf4d42c5d8655355261b2e9ee81d8304b889e4e9046", func := "loop.example/accesspolicies/laws.FnExactRuleText", spec := "fnExactRuleText", inPlace := ["internal/bytealg.CountString", "internal/bytealg.IndexByteString", "internal/bytealg.IndexString"], unfollowed := true, recurses := true, named := ["unicode/utf8.first", "unicode/utf8.acceptRanges", "internal/bytealg.MaxLen", "internal/strconv.uint64pow10", "math/bits.deBruijn32tab", "math/bits.deBruijn64tab"], apart := false, laid := [("math/bits.deBruijn32tab", laid_math_bits_deBruijn32tab), ("math/bits.deBruijn64tab", laid_math_bits_deBruijn64tab), ("internal/strconv.uint64pow10", laid_internal_strconv_uint64pow10), ("unicode/utf8.acceptRanges", laid_unicode_utf8_acceptRanges), ("unicode/utf8.first", laid_unicode_utf8_first)] }
def FnExactRuleTextSaid : Prop := fnExactRuleTextRow.holds Tryd.pinned (OpenSpec.ofChange fnExactRuleTextSpec)

/-- ITS FALSE NEIGHBOUR: 'it returns false'. Refute it at one input. -/
def fnExactRuleTextWrong : ChangeSpec := { name := "fnExactRuleText", fn := fun _ => fun
  | [d] => { results := [.lit (.bool false)], args := [d] }
  | _ => none }
def FnExactRuleTextWrongFalsely : Prop := fnExactRuleTextRow.holds Tryd.pinned (OpenSpec.ofChange fnExactRuleTextWrong)

/-- 'laws.FnExactReadRule': WHATEVER THE INPUT: true; the input reads as it did. -/
def fnExactReadRuleSpec : ChangeSpec := { name := "fnExactReadRule", fn := fun _ => fun
  | [d] => { results := [.lit (.bool true)], args := [d] }
  | _ => none }
def fnExactReadRuleRow : OpenClaim := { program := "ytpmelhkhmichcaadoor", sum := "b9b4f705c341cb2de7892bf4d42c5d8655355261b2e9ee81d8304b889e4e9046", func := "loop.example/accesspolicies/laws.FnExactReadRule", spec := "fnExactReadRule", inPlace := ["internal/bytealg.CountString", "internal/bytealg.IndexByteString", "internal/bytealg.IndexString"], unfollowed := true, recurses := true, named := ["unicode/utf8.first", "unicode/utf8.acceptRanges", "internal/bytealg.MaxLen", "strconv.ErrSyntax", "strconv.ErrRange", "internal/strconv.uint64pow10", "math/bits.deBruijn32tab", "math/bits.deBruijn64tab"], apart := false, laid := [("math/bits.deBruijn32tab", laid_math_bits_deBruijn32tab), ("math/bits.deBruijn64tab", laid_math_bits_deBruijn64tab), ("internal/strconv.uint64pow10", laid_internal_strconv_uint64pow10), ("unicode/utf8.acceptRanges", laid_unicode_utf8_acceptRanges), ("strconv.ErrRange", laid_strconv_ErrRange), ("strconv.ErrSyntax", laid_strconv_ErrSyntax), ("unicode/utf8.first", laid_unicode_utf8_first)] }
def FnExactReadRuleSaid : Prop := fnExactReadRuleRow.holds Tryd.pinned (OpenSpec.ofChange fnExactReadRuleSpec)

/-- ITS FALSE NEIGHBOUR: 'it returns false'. Refute it at one input. -/
def fnExactReadRuleWrong : ChangeSpec := { name := "fnExactReadRule", fn := fun _ => fun
  | [d] => { results := [.lit (.bool false)], args := [d] }
  | _ => none }
def FnExactReadRuleWrongFalsely : Prop := fnExactReadRuleRow.holds Tryd.pinned (OpenSpec.ofChange fnExactReadRuleWrong)

/-- 'laws.FnRuleText': WHATEVER THE INPUT: true; the input reads as it did. -/
def fnRuleTextSpec : ChangeSpec := { name := "fnRuleText", fn := fun _ => fun
  | [d] => { results := [.lit (.bool true)], args := [d] }
  | _ => none }
def fnRuleTextRow : OpenClaim := { program := "ytpmelhkhmichcaadoor", sum := "b9b4f705c341cb2de7892bf4d42c5d8655355261b2e9ee81d8304b889e4e9046", func := "loop.example/accesspolicies/laws.FnRuleText", spec := "fnRuleText", inPlace := ["internal/bytealg.CountString", "internal/bytealg.IndexByteString", "internal/bytealg.IndexString"], unfollowed := true, recurses := true, named := ["unicode/utf8.first", "unicode/utf8.acceptRanges", "internal/bytealg.MaxLen", "internal/strconv.uint64pow10", "math/bits.deBruijn32tab", "math/bits.deBruijn64tab", "strconv.ErrSyntax", "strconv.ErrRange"], apart := false, laid := [("math/bits.deBruijn32tab", laid_math_bits_deBruijn32tab), ("math/bits.deBruijn64tab", laid_math_bits_deBruijn64tab), ("internal/strconv.uint64pow10", laid_internal_strconv_uint64pow10), ("unicode/utf8.acceptRanges", laid_unicode_utf8_acceptRanges), ("strconv.ErrRange", laid_strconv_ErrRange), ("strconv.ErrSyntax", laid_strconv_ErrSyntax), ("unicode/utf8.first", laid_unicode_utf8_first)] }
def FnRuleTextSaid : Prop := fnRuleTextRow.holds Tryd.pinned (OpenSpec.ofChange fnRuleTextSpec)

/-- ITS FALSE NEIGHBOUR: 'it returns false'. Refute it at one input. -/
def fnRuleTextWrong : ChangeSpec := { name := "fnRuleText", fn := fun _ => fun
  | [d] => { results := [.lit (.bool false)], args := [d] }
  | _ => none }
def FnRuleTextWrongFalsely : Prop := fnRuleTextRow.holds Tryd.pinned (OpenSpec.ofChange fnRuleTextWrong)

/- THE SECOND FORM. 'bulk': how many values and letters a reading holds, each counted each time it is reached (what is shared counts as often as it is met; a slice's spare places count too). A statement '..UptoSaid' is the law's where the arguments, and the package variables that the reading takes, are together of bulk at most 1048576: NARROWER than '..Said'. Prove '..Said' where nothing that the law and all that it calls make is longer than what came in: it says more and counts as full. Else prove '..UptoSaid'. A law counts once. -/
mutual
def uptoBulk {H : Type} : DataW H → Nat
  | .lit (.string bytes) => bytes.length + 1
  | .lit _ => 1
  | .nil => 1
  | .ptr d => uptoBulk d + 1
  | .slice elems spare => uptoBulkAll elems + uptoBulkAll spare + 1
  | .agg parts => uptoBulkAll parts + 1
  | .iface _ d => uptoBulk d + 1
  | .map entries => uptoBulkEntries entries + 1
  | .held _ => 1
def uptoBulkAll {H : Type} : List (DataW H) → Nat
  | [] => 0
  | d :: r => uptoBulk d + uptoBulkAll r
def uptoBulkEntries {H : Type} : List (Lit × DataW H) → Nat
  | [] => 0
  | x :: r => uptoBulkEntry x + uptoBulkEntries r
def uptoBulkEntry {H : Type} : Lit × DataW H → Nat
  | (.string bytes, d) => bytes.length + uptoBulk d + 1
  | (_, d) => uptoBulk d + 1
 end
def uptoSmall : (H : Type) → List (DataW H) → Bool := fun _ ds => decide (uptoBulkAll ds ≤ 1048576)
def OpenSpec.upto (s : _root_.Go.ChangeSpec) : _root_.Go.OpenSpec := { _root_.Go.OpenSpec.ofChange s with cond := some uptoSmall }

/-- 'laws.FnReadRule', WHERE WHAT IT READS IS OF BULK AT MOST 1048576: true; the input reads as it did. -/
def fnReadRuleUptoRow : OpenClaim := { program := "ytpmelhkhmichcaadoor", sum := "b9b4f705c341cb2de7892bf4d42c5d8655355261b2e9ee81d8304b889e4e9046", func := "loop.example/accesspolicies/laws.FnReadRule", spec := "fnReadRule", inPlace := ["internal/bytealg.CountString", "internal/bytealg.IndexByteString", "internal/bytealg.IndexString"], unfollowed := true, recurses := true, named := ["unicode/utf8.first", "unicode/utf8.acceptRanges", "internal/bytealg.MaxLen", "strconv.ErrSyntax", "strconv.ErrRange", "internal/strconv.uint64pow10", "math/bits.deBruijn32tab", "math/bits.deBruijn64tab"], apart := false, laid := [("math/bits.deBruijn32tab", laid_math_bits_deBruijn32tab), ("math/bits.deBruijn64tab", laid_math_bits_deBruijn64tab), ("internal/strconv.uint64pow10", laid_internal_strconv_uint64pow10), ("unicode/utf8.acceptRanges", laid_unicode_utf8_acceptRanges), ("strconv.ErrRange", laid_strconv_ErrRange), ("strconv.ErrSyntax", laid_strconv_ErrSyntax), ("unicode/utf8.first", laid_unicode_utf8_first)], narrowed := true }
def FnReadRuleUptoSaid : Prop := fnReadRuleUptoRow.holds Tryd.pinned (OpenSpec.upto fnReadRuleSpec)

/-- 'laws.FnRulesValid', WHERE WHAT IT READS IS OF BULK AT MOST 1048576: true; the input reads as it did. -/
def fnRulesValidUptoRow : OpenClaim := { program := "ytpmelhkhmichcaadoor", sum := "b9b4f705c341cb2de7892bf4d42c5d8655355261b2e9ee81d8304b889e4e9046", func := "loop.example/accesspolicies/laws.FnRulesValid", spec := "fnRulesValid", inPlace := ["internal/bytealg.CountString", "internal/bytealg.IndexByteString", "internal/bytealg.IndexString"], unfollowed := true, recurses := true, named := ["unicode/utf8.first", "unicode/utf8.acceptRanges", "internal/bytealg.MaxLen"], apart := false, laid := [("unicode/utf8.acceptRanges", laid_unicode_utf8_acceptRanges), ("unicode/utf8.first", laid_unicode_utf8_first)], narrowed := true }
def FnRulesValidUptoSaid : Prop := fnRulesValidUptoRow.holds Tryd.pinned (OpenSpec.upto fnRulesValidSpec)

/-- 'laws.FnExactRulesValid', WHERE WHAT IT READS IS OF BULK AT MOST 1048576: true; the input reads as it did. -/
def fnExactRulesValidUptoRow : OpenClaim := { program := "ytpmelhkhmichcaadoor", sum := "b9b4f705c341cb2de7892bf4d42c5d8655355261b2e9ee81d8304b889e4e9046", func := "loop.example/accesspolicies/laws.FnExactRulesValid", spec := "fnExactRulesValid", inPlace := ["internal/bytealg.CountString", "internal/bytealg.IndexByteString", "internal/bytealg.IndexString"], unfollowed := true, recurses := true, named := ["unicode/utf8.first", "unicode/utf8.acceptRanges", "internal/bytealg.MaxLen"], apart := false, laid := [("unicode/utf8.acceptRanges", laid_unicode_utf8_acceptRanges), ("unicode/utf8.first", laid_unicode_utf8_first)], narrowed := true }
def FnExactRulesValidUptoSaid : Prop := fnExactRulesValidUptoRow.holds Tryd.pinned (OpenSpec.upto fnExactRulesValidSpec)

/-- 'laws.FnExactFirstRule', WHERE WHAT IT READS IS OF BULK AT MOST 1048576: true; the input reads as it did. -/
def fnExactFirstRuleUptoRow : OpenClaim := { program := "ytpmelhkhmichcaadoor", sum := "b9b4f705c341cb2de7892bf4d42c5d8655355261b2e9ee81d8304b889e4e9046", func := "loop.example/accesspolicies/laws.FnExactFirstRule", spec := "fnExactFirstRule", inPlace := ["internal/bytealg.CountString", "internal/bytealg.IndexByteString", "internal/bytealg.IndexString"], unfollowed := true, recurses := true, named := ["unicode/utf8.first", "unicode/utf8.acceptRanges", "internal/bytealg.MaxLen"], apart := false, laid := [("unicode/utf8.acceptRanges", laid_unicode_utf8_acceptRanges), ("unicode/utf8.first", laid_unicode_utf8_first)], narrowed := true }
def FnExactFirstRuleUptoSaid : Prop := fnExactFirstRuleUptoRow.holds Tryd.pinned (OpenSpec.upto fnExactFirstRuleSpec)

/-- 'laws.FnFirstRule', WHERE WHAT IT READS IS OF BULK AT MOST 1048576: true; the input reads as it did. -/
def fnFirstRuleUptoRow : OpenClaim := { program := "ytpmelhkhmichcaadoor", sum := "b9b4f705c341cb2de7892bf4d42c5d8655355261b2e9ee81d8304b889e4e9046", func := "loop.example/accesspolicies/laws.FnFirstRule", spec := "fnFirstRule", inPlace := ["internal/bytealg.CountString", "internal/bytealg.IndexByteString", "internal/bytealg.IndexString"], unfollowed := true, recurses := true, named := ["unicode/utf8.first", "unicode/utf8.acceptRanges", "internal/bytealg.MaxLen"], apart := false, laid := [("unicode/utf8.acceptRanges", laid_unicode_utf8_acceptRanges), ("unicode/utf8.first", laid_unicode_utf8_first)], narrowed := true }
def FnFirstRuleUptoSaid : Prop := fnFirstRuleUptoRow.holds Tryd.pinned (OpenSpec.upto fnFirstRuleSpec)

/-- 'laws.FnExactRulesAllow', WHERE WHAT IT READS IS OF BULK AT MOST 1048576: true; the input reads as it did. -/
def fnExactRulesAllowUptoRow : OpenClaim := { program := "ytpmelhkhmichcaadoor", sum := "b9b4f705c341cb2de7892bf4d42c5d8655355261b2e9ee81d8304b889e4e9046", func := "loop.example/accesspolicies/laws.FnExactRulesAllow", spec := "fnExactRulesAllow", inPlace := ["internal/bytealg.CountString", "internal/bytealg.IndexByteString", "internal/bytealg.IndexString"], unfollowed := true, recurses := true, named := ["unicode/utf8.first", "unicode/utf8.acceptRanges", "internal/bytealg.MaxLen"], apart := false, laid := [("unicode/utf8.acceptRanges", laid_unicode_utf8_acceptRanges), ("unicode/utf8.first", laid_unicode_utf8_first)], narrowed := true }
def FnExactRulesAllowUptoSaid : Prop := fnExactRulesAllowUptoRow.holds Tryd.pinned (OpenSpec.upto fnExactRulesAllowSpec)

/-- 'laws.FnRulesAllow', WHERE WHAT IT READS IS OF BULK AT MOST 1048576: true; the input reads as it did. -/
def fnRulesAllowUptoRow : OpenClaim := { program := "ytpmelhkhmichcaadoor", sum := "b9b4f705c341cb2de7892bf4d42c5d8655355261b2e9ee81d8304b889e4e9046", func := "loop.example/accesspolicies/laws.FnRulesAllow", spec := "fnRulesAllow", inPlace := ["internal/bytealg.CountString", "internal/bytealg.IndexByteString", "internal/bytealg.IndexString"], unfollowed := true, recurses := true, named := ["unicode/utf8.first", "unicode/utf8.acceptRanges", "internal/bytealg.MaxLen"], apart := false, laid := [("unicode/utf8.acceptRanges", laid_unicode_utf8_acceptRanges), ("unicode/utf8.first", laid_unicode_utf8_first)], narrowed := true }
def FnRulesAllowUptoSaid : Prop := fnRulesAllowUptoRow.holds Tryd.pinned (OpenSpec.upto fnRulesAllowSpec)

/-- 'laws.FnDeadRules', WHERE WHAT IT READS IS OF BULK AT MOST 1048576: true; the input reads as it did. -/
def fnDeadRulesUptoRow : OpenClaim := { program := "ytpmelhkhmichcaadoor", sum := "b9b4f705c341cb2de7892bf4d42c5d8655355261b2e9ee81d8304b889e4e9046", func := "loop.example/accesspolicies/laws.FnDeadRules", spec := "fnDeadRules", inPlace := ["internal/bytealg.CountString", "internal/bytealg.IndexByteString", "internal/bytealg.IndexString"], unfollowed := true, recurses := true, named := ["unicode/utf8.first", "unicode/utf8.acceptRanges", "internal/bytealg.MaxLen"], apart := false, laid := [("unicode/utf8.acceptRanges", laid_unicode_utf8_acceptRanges), ("unicode/utf8.first", laid_unicode_utf8_first)], narrowed := true }
def FnDeadRulesUptoSaid : Prop := fnDeadRulesUptoRow.holds Tryd.pinned (OpenSpec.upto fnDeadRulesSpec)

/-- 'laws.FnExactDeadRules', WHERE WHAT IT READS IS OF BULK AT MOST 1048576: true; the input reads as it did. -/
def fnExactDeadRulesUptoRow : OpenClaim := { program := "ytpmelhkhmichcaadoor", sum := "b9b4f705c341cb2de7892bf4d42c5d8655355261b2e9ee81d8304b889e4e9046", func := "loop.example/accesspolicies/laws.FnExactDeadRules", spec := "fnExactDeadRules", inPlace := ["internal/bytealg.CountString", "internal/bytealg.IndexByteString", "internal/bytealg.IndexString"], unfollowed := true, recurses := true, named := ["unicode/utf8.first", "unicode/utf8.acceptRanges", "internal/bytealg.MaxLen"], apart := false, laid := [("unicode/utf8.acceptRanges", laid_unicode_utf8_acceptRanges), ("unicode/utf8.first", laid_unicode_utf8_first)], narrowed := true }
def FnExactDeadRulesUptoSaid : Prop := fnExactDeadRulesUptoRow.holds Tryd.pinned (OpenSpec.upto fnExactDeadRulesSpec)

/-- 'laws.FnExactRuleText', WHERE WHAT IT READS IS OF BULK AT MOST 1048576: true; the input reads as it did. -/
def fnExactRuleTextUptoRow : OpenClaim := { program := "ytpmelhkhmichcaadoor", sum := "b9b4f705c341cb2de7892bf4d42c5d8655355261b2e9ee81d8304b889e4e9046", func := "loop.example/accesspolicies/laws.FnExactRuleText", spec := "fnExactRuleText", inPlace := ["internal/bytealg.CountString", "internal/bytealg.IndexByteString", "internal/bytealg.IndexString"], unfollowed := true, recurses := true, named := ["unicode/utf8.first", "unicode/utf8.acceptRanges", "internal/bytealg.MaxLen", "internal/strconv.uint64pow10", "math/bits.deBruijn32tab", "math/bits.deBruijn64tab"], apart := false, laid := [("math/bits.deBruijn32tab", laid_math_bits_deBruijn32tab), ("math/bits.deBruijn64tab", laid_math_bits_deBruijn64tab), ("internal/strconv.uint64pow10", laid_internal_strconv_uint64pow10), ("unicode/utf8.acceptRanges", laid_unicode_utf8_acceptRanges), ("unicode/utf8.first", laid_unicode_utf8_first)], narrowed := true }
def FnExactRuleTextUptoSaid : Prop := fnExactRuleTextUptoRow.holds Tryd.pinned (OpenSpec.upto fnExactRuleTextSpec)

/-- 'laws.FnExactReadRule', WHERE WHAT IT READS IS OF BULK AT MOST 1048576: true; the input reads as it did. -/
def fnExactReadRuleUptoRow : OpenClaim := { program := "ytpmelhkhmichcaadoor", sum := "b9b4f705c341cb2de7892bf4d42c5d8655355261b2e9ee81d8304b889e4e9046", func := "loop.example/accesspolicies/laws.FnExactReadRule", spec := "fnExactReadRule", inPlace := ["internal/bytealg.CountString", "internal/bytealg.IndexByteString", "internal/bytealg.IndexString"], unfollowed := true, recurses := true, named := ["unicode/utf8.first", "unicode/utf8.acceptRanges", "internal/bytealg.MaxLen", "strconv.ErrSyntax", "strconv.ErrRange", "internal/strconv.uint64pow10", "math/bits.deBruijn32tab", "math/bits.deBruijn64tab"], apart := false, laid := [("math/bits.deBruijn32tab", laid_math_bits_deBruijn32tab), ("math/bits.deBruijn64tab", laid_math_bits_deBruijn64tab), ("internal/strconv.uint64pow10", laid_internal_strconv_uint64pow10), ("unicode/utf8.acceptRanges", laid_unicode_utf8_acceptRanges), ("strconv.ErrRange", laid_strconv_ErrRange), ("strconv.ErrSyntax", laid_strconv_ErrSyntax), ("unicode/utf8.first", laid_unicode_utf8_first)], narrowed := true }
def FnExactReadRuleUptoSaid : Prop := fnExactReadRuleUptoRow.holds Tryd.pinned (OpenSpec.upto fnExactReadRuleSpec)

/-- 'laws.FnRuleText', WHERE WHAT IT READS IS OF BULK AT MOST 1048576: true; the input reads as it did. -/
def fnRuleTextUptoRow : OpenClaim := { program := "ytpmelhkhmichcaadoor", sum := "b9b4f705c341cb2de7892bf4d42c5d8655355261b2e9ee81d8304b889e4e9046", func := "loop.example/accesspolicies/laws.FnRuleText", spec := "fnRuleText", inPlace := ["internal/bytealg.CountString", "internal/bytealg.IndexByteString", "internal/bytealg.IndexString"], unfollowed := true, recurses := true, named := ["unicode/utf8.first", "unicode/utf8.acceptRanges", "internal/bytealg.MaxLen", "internal/strconv.uint64pow10", "math/bits.deBruijn32tab", "math/bits.deBruijn64tab", "strconv.ErrSyntax", "strconv.ErrRange"], apart := false, laid := [("math/bits.deBruijn32tab", laid_math_bits_deBruijn32tab), ("math/bits.deBruijn64tab", laid_math_bits_deBruijn64tab), ("internal/strconv.uint64pow10", laid_internal_strconv_uint64pow10), ("unicode/utf8.acceptRanges", laid_unicode_utf8_acceptRanges), ("strconv.ErrRange", laid_strconv_ErrRange), ("strconv.ErrSyntax", laid_strconv_ErrSyntax), ("unicode/utf8.first", laid_unicode_utf8_first)], narrowed := true }
def FnRuleTextUptoSaid : Prop := fnRuleTextUptoRow.holds Tryd.pinned (OpenSpec.upto fnRuleTextSpec)

end Rows
end Go.Proofs.YtpmelhkhmichcaaDoor
