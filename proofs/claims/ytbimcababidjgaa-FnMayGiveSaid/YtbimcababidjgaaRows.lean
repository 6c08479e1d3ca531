/-
  No cell of these rows narrows 'for every input' (looked for: loops, veiled, ifaces, maps, wideKeys, modest, calm, conditions, laid).
  DERIVED. THE GIVEN ROWS OF THIS SEAT. 4 by the template 'for every input the law returns true; each argument reads behind the call as it read before'; 0 by the template 'total and deterministic' (their statements: YtbimcababidjgaaTotals.lean).
  GIVEN WITH THE SEED: the statements are not yours to turn. If you find one false, say at which input.
  Laid BY PROGRAM, IN A SANDBOX (cutbox-rows.mjs): the forced cells as the released guide's own fill.sh prints them over the translation 5066f2d4e4eb55cf… (all of the seat's roots in one cut). By AI agents, Wed Nov 11 2026. No macro, syntax, notation, axiom, sorry.
-/
import Derived.Test.YtbimcababidjgaaChecked
import GoSem.Claim
import GoSem.ClaimJoined
import GoSem.ClaimMapViews
import Derived.JoinedTies
import Derived.KernelRfl
namespace Go.Proofs.Ytbimcababidjgaa
/- THE CELL 'sum', in the pinned program and in every row, IS THE sha256 OF THE DUMP (.gsa) THAT YtbimcababidjgaaProg.lean LOADS. Nothing in Lean hashes anything: it is a label: what it is worth is what the hold of that sum in a sandbox is worth. -/
noncomputable def Try.pinned : Pinned := { name := "ytbimcababidjgaa", sum := "5066f2d4e4eb55cf4fb62b08938a09c093c2aa843ec0e9112058cc1c6777a655", checked := Try.checked }
namespace Rows
def none {H : Type} : Left H := { results := [], args := [] }

/-- 'laws.FnBrokenRules': WHATEVER THE INPUT: true; the input reads as it did. -/
def fnBrokenRulesSpec : ChangeSpec := { name := "fnBrokenRules", fn := fun _ => fun
  | [d] => { results := [.lit (.bool true)], args := [d] }
  | _ => none }
def fnBrokenRulesRow : OpenClaim := { program := "ytbimcababidjgaa", sum := "5066f2d4e4eb55cf4fb62b08938a09c093c2aa843ec0e9112058cc1c6777a655", func := "loop.example/accesspolicies/laws.FnBrokenRules", spec := "fnBrokenRules", apart := false }
def FnBrokenRulesSaid : Prop := fnBrokenRulesRow.holds Try.pinned (OpenSpec.ofChange fnBrokenRulesSpec)

/-- ITS FALSE NEIGHBOUR: 'it returns false'. Refute it at one input. -/
def fnBrokenRulesWrong : ChangeSpec := { name := "fnBrokenRules", fn := fun _ => fun
  | [d] => { results := [.lit (.bool false)], args := [d] }
  | _ => none }
def FnBrokenRulesWrongFalsely : Prop := fnBrokenRulesRow.holds Try.pinned (OpenSpec.ofChange fnBrokenRulesWrong)

/-- 'laws.FnExactBrokenRules': WHATEVER THE INPUT: true; the input reads as it did. -/
def fnExactBrokenRulesSpec : ChangeSpec := { name := "fnExactBrokenRules", fn := fun _ => fun
  | [d1, d2, d3] => { results := [.lit (.bool true)], args := [d1, d2, d3] }
  | _ => none }
def fnExactBrokenRulesRow : OpenClaim := { program := "ytbimcababidjgaa", sum := "5066f2d4e4eb55cf4fb62b08938a09c093c2aa843ec0e9112058cc1c6777a655", func := "loop.example/accesspolicies/laws.FnExactBrokenRules", spec := "fnExactBrokenRules", apart := false }
def FnExactBrokenRulesSaid : Prop := fnExactBrokenRulesRow.holds Try.pinned (OpenSpec.ofChange fnExactBrokenRulesSpec)

/-- ITS FALSE NEIGHBOUR: 'it returns false'. Refute it at one input. -/
def fnExactBrokenRulesWrong : ChangeSpec := { name := "fnExactBrokenRules", fn := fun _ => fun
  | [d1, d2, d3] => { results := [.lit (.bool false)], args := [d1, d2, d3] }
  | _ => none }
def FnExactBrokenRulesWrongFalsely : Prop := fnExactBrokenRulesRow.holds Try.pinned (OpenSpec.ofChange fnExactBrokenRulesWrong)

/-- 'laws.FnMayGive': WHATEVER THE INPUT: true; the input reads as it did. -/
def fnMayGiveSpec : ChangeSpec := { name := "fnMayGive", fn := fun _ => fun
  | [d] => { results := [.lit (.bool true)], args := [d] }
  | _ => none }
def fnMayGiveRow : OpenClaim := { program := "ytbimcababidjgaa", sum := "5066f2d4e4eb55cf4fb62b08938a09c093c2aa843ec0e9112058cc1c6777a655", func := "loop.example/accesspolicies/laws.FnMayGive", spec := "fnMayGive", apart := false }
def FnMayGiveSaid : Prop := fnMayGiveRow.holds Try.pinned (OpenSpec.ofChange fnMayGiveSpec)

/-- ITS FALSE NEIGHBOUR: 'it returns false'. Refute it at one input. -/
def fnMayGiveWrong : ChangeSpec := { name := "fnMayGive", fn := fun _ => fun
  | [d] => { results := [.lit (.bool false)], args := [d] }
  | _ => none }
def FnMayGiveWrongFalsely : Prop := fnMayGiveRow.holds Try.pinned (OpenSpec.ofChange fnMayGiveWrong)

/-- 'laws.FnExactMayGive': WHATEVER THE INPUT: true; the input reads as it did. -/
def fnExactMayGiveSpec : ChangeSpec := { name := "fnExactMayGive", fn := fun _ => fun
  | [d1, d2, d3, d4] => { results := [.lit (.bool true)], args := [d1, d2, d3, d4] }
  | _ => none }
def fnExactMayGiveRow : OpenClaim := { program := "ytbimcababidjgaa", sum := "5066f2d4e4eb55cf4fb62b08938a09c093c2aa843ec0e9112058cc1c6777a655", func := "loop.example/accesspolicies/laws.FnExactMayGive", spec := "fnExactMayGive", apart := false }
def FnExactMayGiveSaid : Prop := fnExactMayGiveRow.holds Try.pinned (OpenSpec.ofChange fnExactMayGiveSpec)

/-- ITS FALSE NEIGHBOUR: 'it returns false'. Refute it at one input. -/
def fnExactMayGiveWrong : ChangeSpec := { name := "fnExactMayGive", fn := fun _ => fun
  | [d1, d2, d3, d4] => { results := [.lit (.bool false)], args := [d1, d2, d3, d4] }
  | _ => none }
def FnExactMayGiveWrongFalsely : Prop := fnExactMayGiveRow.holds Try.pinned (OpenSpec.ofChange fnExactMayGiveWrong)

/- THE SECOND FORM. 'bulk': how many values and letters a reading holds, each counted each time it is reached (what is shared counts as often as it is met; a slice's spare places count too). A statement '..UptoSaid' is the law's where the arguments, and the package variables that the reading takes, are together of bulk at most 1048576: NARROWER than '..Said'. Prove '..Said' where nothing that the law and all that it calls make is longer than what came in: it says more and counts as full. Else prove '..UptoSaid'. A law counts once. -/
mutual
def uptoBulk {H : Type} : DataW H → Nat
  | .lit (.string bytes) => bytes.length + 1
  | .lit _ => 1
  | .nil => 1
  | .ptr d => uptoBulk d + 1
  | .slice elems spare => uptoBulkAll elems + uptoBulkAll spare + 1
  | .agg parts => uptoBulkAll parts + 1
  | .iface _ d => uptoBulk d + 1
  | .map entries => uptoBulkEntries entries + 1
  | .held _ => 1
def uptoBulkAll {H : Type} : List (DataW H) → Nat
  | [] => 0
  | d :: r => uptoBulk d + uptoBulkAll r
def uptoBulkEntries {H : Type} : List (Lit × DataW H) → Nat
  | [] => 0
  | x :: r => uptoBulkEntry x + uptoBulkEntries r
def uptoBulkEntry {H : Type} : Lit × DataW H → Nat
  | (.string bytes, d) => bytes.length + uptoBulk d + 1
  | (_, d) => uptoBulk d + 1
 end
def uptoSmall : (H : Type) → List (DataW H) → Bool := fun _ ds => decide (uptoBulkAll ds ≤ 1048576)
def OpenSpec.upto (s : _root_.Go.ChangeSpec) : _root_.Go.OpenSpec := { _root_.Go.OpenSpec.ofChange s with cond := some uptoSmall }

/-- 'laws.FnBrokenRules', WHERE WHAT IT READS IS OF BULK AT MOST 1048576: true; the input reads as it did. -/
def fnBrokenRulesUptoRow : OpenClaim := { program := "ytbimcababidjgaa", sum := "5066f2d4e4eb55cf4fb62b08938a09c093c2aa843ec0e9112058cc1c6777a655", func := "loop.example/accesspolicies/laws.FnBrokenRules", spec := "fnBrokenRules", apart := false, narrowed := true }
def FnBrokenRulesUptoSaid : Prop := fnBrokenRulesUptoRow.holds Try.pinned (OpenSpec.upto fnBrokenRulesSpec)

/-- 'laws.FnExactBrokenRules', WHERE WHAT IT READS IS OF BULK AT MOST 1048576: true; the input reads as it did. -/
def fnExactBrokenRulesUptoRow : OpenClaim := { program := "ytbimcababidjgaa", sum := "5066f2d4e4eb55cf4fb62b08938a09c093c2aa843ec0e9112058cc1c6777a655", func := "loop.example/accesspolicies/laws.FnExactBrokenRules", spec := "fnExactBrokenRules", apart := false, narrowed := true }
def FnExactBrokenRulesUptoSaid : Prop := fnExactBrokenRulesUptoRow.holds Try.pinned (OpenSpec.upto fnExactBrokenRulesSpec)

/-- 'laws.FnMayGive', WHERE WHAT IT READS IS OF BULK AT MOST 1048576: true; the input reads as it did. -/
def fnMayGiveUptoRow : OpenClaim := { program := "ytbimcababidjgaa", sum := "5066f2d4e4eb55cf4fb62b08938a09c093c2aa843ec0e9112058cc1c6777a655", func := "loop.example/accesspolicies/laws.FnMayGive", spec := "fnMayGive", apart := false, narrowed := true }
def FnMayGiveUptoSaid : Prop := fnMayGiveUptoRow.holds Try.pinned (OpenSpec.upto fnMayGiveSpec)

/-- 'laws.FnExactMayGive', WHERE WHAT IT READS IS OF BULK AT MOST 1048576: true; the input reads as it did. -/
def fnExactMayGiveUptoRow : OpenClaim := { program := "ytbimcababidjgaa", sum := "5066f2d4e4eb55cf4fb62b08938a09c093c2aa843ec0e9112058cc1c6777a655", func := "loop.example/accesspolicies/laws.FnExactMayGive", spec := "fnExactMayGive", apart := false, narrowed := true }
def FnExactMayGiveUptoSaid : Prop := fnExactMayGiveUptoRow.holds Try.pinned (OpenSpec.upto fnExactMayGiveSpec)

end Rows
end Go.Proofs.Ytbimcababidjgaa
