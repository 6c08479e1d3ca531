/-
  No cell of these rows narrows 'for every input' (looked for: loops, veiled, ifaces, maps, wideKeys, modest, calm, conditions, laid).
  DERIVED. THE GIVEN ROWS OF THIS SEAT. 8 by the template 'for every input the law returns true; each argument reads behind the call as it read before'; 0 by the template 'total and deterministic' (their statements: YtbkjolbgnkpjpaaTotals.lean).
  GIVEN WITH THE SEED: the statements are not yours to turn. If you find one false, say at which input.
  Laid BY PROGRAM, IN A SANDBOX (cutbox-rows.mjs): the forced cells as the released guide's own fill.sh prints them over the translation 37d09435de738ddd… (all of the seat's roots in one cut). By AI agents, Wed Nov 11 2026. No macro, syntax, notation, axiom, sorry.
-/
import Derived.Test.YtbkjolbgnkpjpaaChecked
import GoSem.Claim
import GoSem.ClaimJoined
import GoSem.ClaimMapViews
import Derived.JoinedTies
import Derived.KernelRfl
namespace Go.Proofs.Ytbkjolbgnkpjpaa
/- THE CELL 'sum', in the pinned program and in every row, IS THE sha256 OF THE DUMP (.gsa) THAT YtbkjolbgnkpjpaaProg.lean LOADS. Nothing in Lean hashes anything: it is a label: what it is worth is what the hold of that sum in a sandbox is worth. -/
noncomputable def Try.pinned : Pinned := { name := "ytbkjolbgnkpjpaa", sum := "37d09435de738dddb511a7d33378310db1f06182dc1cbe9a2945f3bd72879492", checked := Try.checked }
namespace Rows
def none {H : Type} : Left H := { results := [], args := [] }

/-- 'laws.FnNeedValid': WHATEVER THE INPUT: true; the input reads as it did. -/
def fnNeedValidSpec : ChangeSpec := { name := "fnNeedValid", fn := fun _ => fun
  | [d] => { results := [.lit (.bool true)], args := [d] }
  | _ => none }
def fnNeedValidRow : OpenClaim := { program := "ytbkjolbgnkpjpaa", sum := "37d09435de738dddb511a7d33378310db1f06182dc1cbe9a2945f3bd72879492", func := "loop.example/accesspolicies/laws.FnNeedValid", spec := "fnNeedValid", apart := false }
def FnNeedValidSaid : Prop := fnNeedValidRow.holds Try.pinned (OpenSpec.ofChange fnNeedValidSpec)

/-- ITS FALSE NEIGHBOUR: 'it returns false'. Refute it at one input. -/
def fnNeedValidWrong : ChangeSpec := { name := "fnNeedValid", fn := fun _ => fun
  | [d] => { results := [.lit (.bool false)], args := [d] }
  | _ => none }
def FnNeedValidWrongFalsely : Prop := fnNeedValidRow.holds Try.pinned (OpenSpec.ofChange fnNeedValidWrong)

/-- 'laws.FnExactNeedValid': WHATEVER THE INPUT: true; the input reads as it did. -/
def fnExactNeedValidSpec : ChangeSpec := { name := "fnExactNeedValid", fn := fun _ => fun
  | [d] => { results := [.lit (.bool true)], args := [d] }
  | _ => none }
def fnExactNeedValidRow : OpenClaim := { program := "ytbkjolbgnkpjpaa", sum := "37d09435de738dddb511a7d33378310db1f06182dc1cbe9a2945f3bd72879492", func := "loop.example/accesspolicies/laws.FnExactNeedValid", spec := "fnExactNeedValid", apart := false }
def FnExactNeedValidSaid : Prop := fnExactNeedValidRow.holds Try.pinned (OpenSpec.ofChange fnExactNeedValidSpec)

/-- ITS FALSE NEIGHBOUR: 'it returns false'. Refute it at one input. -/
def fnExactNeedValidWrong : ChangeSpec := { name := "fnExactNeedValid", fn := fun _ => fun
  | [d] => { results := [.lit (.bool false)], args := [d] }
  | _ => none }
def FnExactNeedValidWrongFalsely : Prop := fnExactNeedValidRow.holds Try.pinned (OpenSpec.ofChange fnExactNeedValidWrong)

/-- 'laws.FnIsApproved': WHATEVER THE INPUT: true; the input reads as it did. -/
def fnIsApprovedSpec : ChangeSpec := { name := "fnIsApproved", fn := fun _ => fun
  | [d] => { results := [.lit (.bool true)], args := [d] }
  | _ => none }
def fnIsApprovedRow : OpenClaim := { program := "ytbkjolbgnkpjpaa", sum := "37d09435de738dddb511a7d33378310db1f06182dc1cbe9a2945f3bd72879492", func := "loop.example/accesspolicies/laws.FnIsApproved", spec := "fnIsApproved", apart := false }
def FnIsApprovedSaid : Prop := fnIsApprovedRow.holds Try.pinned (OpenSpec.ofChange fnIsApprovedSpec)

/-- ITS FALSE NEIGHBOUR: 'it returns false'. Refute it at one input. -/
def fnIsApprovedWrong : ChangeSpec := { name := "fnIsApproved", fn := fun _ => fun
  | [d] => { results := [.lit (.bool false)], args := [d] }
  | _ => none }
def FnIsApprovedWrongFalsely : Prop := fnIsApprovedRow.holds Try.pinned (OpenSpec.ofChange fnIsApprovedWrong)

/-- 'laws.FnVotesFor': WHATEVER THE INPUT: true; the input reads as it did. -/
def fnVotesForSpec : ChangeSpec := { name := "fnVotesFor", fn := fun _ => fun
  | [d] => { results := [.lit (.bool true)], args := [d] }
  | _ => none }
def fnVotesForRow : OpenClaim := { program := "ytbkjolbgnkpjpaa", sum := "37d09435de738dddb511a7d33378310db1f06182dc1cbe9a2945f3bd72879492", func := "loop.example/accesspolicies/laws.FnVotesFor", spec := "fnVotesFor", apart := false }
def FnVotesForSaid : Prop := fnVotesForRow.holds Try.pinned (OpenSpec.ofChange fnVotesForSpec)

/-- ITS FALSE NEIGHBOUR: 'it returns false'. Refute it at one input. -/
def fnVotesForWrong : ChangeSpec := { name := "fnVotesFor", fn := fun _ => fun
  | [d] => { results := [.lit (.bool false)], args := [d] }
  | _ => none }
def FnVotesForWrongFalsely : Prop := fnVotesForRow.holds Try.pinned (OpenSpec.ofChange fnVotesForWrong)

/-- 'laws.FnApprovedAt': WHATEVER THE INPUT: true; the input reads as it did. -/
def fnApprovedAtSpec : ChangeSpec := { name := "fnApprovedAt", fn := fun _ => fun
  | [d] => { results := [.lit (.bool true)], args := [d] }
  | _ => none }
def fnApprovedAtRow : OpenClaim := { program := "ytbkjolbgnkpjpaa", sum := "37d09435de738dddb511a7d33378310db1f06182dc1cbe9a2945f3bd72879492", func := "loop.example/accesspolicies/laws.FnApprovedAt", spec := "fnApprovedAt", apart := false }
def FnApprovedAtSaid : Prop := fnApprovedAtRow.holds Try.pinned (OpenSpec.ofChange fnApprovedAtSpec)

/-- ITS FALSE NEIGHBOUR: 'it returns false'. Refute it at one input. -/
def fnApprovedAtWrong : ChangeSpec := { name := "fnApprovedAt", fn := fun _ => fun
  | [d] => { results := [.lit (.bool false)], args := [d] }
  | _ => none }
def FnApprovedAtWrongFalsely : Prop := fnApprovedAtRow.holds Try.pinned (OpenSpec.ofChange fnApprovedAtWrong)

/-- 'laws.FnExactIsApproved': WHATEVER THE INPUT: true; the input reads as it did. -/
def fnExactIsApprovedSpec : ChangeSpec := { name := "fnExactIsApproved", fn := fun _ => fun
  | [d1, d2] => { results := [.lit (.bool true)], args := [d1, d2] }
  | _ => none }
def fnExactIsApprovedRow : OpenClaim := { program := "ytbkjolbgnkpjpaa", sum := "37d09435de738dddb511a7d33378310db1f06182dc1cbe9a2945f3bd72879492", func := "loop.example/accesspolicies/laws.FnExactIsApproved", spec := "fnExactIsApproved", apart := false }
def FnExactIsApprovedSaid : Prop := fnExactIsApprovedRow.holds Try.pinned (OpenSpec.ofChange fnExactIsApprovedSpec)

/-- ITS FALSE NEIGHBOUR: 'it returns false'. Refute it at one input. -/
def fnExactIsApprovedWrong : ChangeSpec := { name := "fnExactIsApproved", fn := fun _ => fun
  | [d1, d2] => { results := [.lit (.bool false)], args := [d1, d2] }
  | _ => none }
def FnExactIsApprovedWrongFalsely : Prop := fnExactIsApprovedRow.holds Try.pinned (OpenSpec.ofChange fnExactIsApprovedWrong)

/-- 'laws.FnExactApprovedAt': WHATEVER THE INPUT: true; the input reads as it did. -/
def fnExactApprovedAtSpec : ChangeSpec := { name := "fnExactApprovedAt", fn := fun _ => fun
  | [d1, d2] => { results := [.lit (.bool true)], args := [d1, d2] }
  | _ => none }
def fnExactApprovedAtRow : OpenClaim := { program := "ytbkjolbgnkpjpaa", sum := "37d09435de738dddb511a7d33378310db1f06182dc1cbe9a2945f3bd72879492", func := "loop.example/accesspolicies/laws.FnExactApprovedAt", spec := "fnExactApprovedAt", apart := false }
def FnExactApprovedAtSaid : Prop := fnExactApprovedAtRow.holds Try.pinned (OpenSpec.ofChange fnExactApprovedAtSpec)

/-- ITS FALSE NEIGHBOUR: 'it returns false'. Refute it at one input. -/
def fnExactApprovedAtWrong : ChangeSpec := { name := "fnExactApprovedAt", fn := fun _ => fun
  | [d1, d2] => { results := [.lit (.bool false)], args := [d1, d2] }
  | _ => none }
def FnExactApprovedAtWrongFalsely : Prop := fnExactApprovedAtRow.holds Try.pinned (OpenSpec.ofChange fnExactApprovedAtWrong)

/-- 'laws.FnExactVotesFor': WHATEVER THE INPUT: true; the input reads as it did. -/
def fnExactVotesForSpec : ChangeSpec := { name := "fnExactVotesFor", fn := fun _ => fun
  | [d1, d2] => { results := [.lit (.bool true)], args := [d1, d2] }
  | _ => none }
def fnExactVotesForRow : OpenClaim := { program := "ytbkjolbgnkpjpaa", sum := "37d09435de738dddb511a7d33378310db1f06182dc1cbe9a2945f3bd72879492", func := "loop.example/accesspolicies/laws.FnExactVotesFor", spec := "fnExactVotesFor", apart := false }
def FnExactVotesForSaid : Prop := fnExactVotesForRow.holds Try.pinned (OpenSpec.ofChange fnExactVotesForSpec)

/-- ITS FALSE NEIGHBOUR: 'it returns false'. Refute it at one input. -/
def fnExactVotesForWrong : ChangeSpec := { name := "fnExactVotesFor", fn := fun _ => fun
  | [d1, d2] => { results := [.lit (.bool false)], args := [d1, d2] }
  | _ => none }
def FnExactVotesForWrongFalsely : Prop := fnExactVotesForRow.holds Try.pinned (OpenSpec.ofChange fnExactVotesForWrong)

/- THE SECOND FORM. 'bulk': how many values and letters a reading holds, each counted each time it is reached (what is shared counts as often as it is met; a slice's spare places count too). A statement '..UptoSaid' is the law's where the arguments, and the package variables that the reading takes, are together of bulk at most 1048576: NARROWER than '..Said'. Prove '..Said' where nothing that the law and all that it calls make is longer than what came in: it says more and counts as full. Else prove '..UptoSaid'. A law counts once. -/
mutual
def uptoBulk {H : Type} : DataW H → Nat
  | .lit (.string bytes) => bytes.length + 1
  | .lit _ => 1
  | .nil => 1
  | .ptr d => uptoBulk d + 1
  | .slice elems spare => uptoBulkAll elems + uptoBulkAll spare + 1
  | .agg parts => uptoBulkAll parts + 1
  | .iface _ d => uptoBulk d + 1
  | .map entries => uptoBulkEntries entries + 1
  | .held _ => 1
def uptoBulkAll {H : Type} : List (DataW H) → Nat
  | [] => 0
  | d :: r => uptoBulk d + uptoBulkAll r
def uptoBulkEntries {H : Type} : List (Lit × DataW H) → Nat
  | [] => 0
  | x :: r => uptoBulkEntry x + uptoBulkEntries r
def uptoBulkEntry {H : Type} : Lit × DataW H → Nat
  | (.string bytes, d) => bytes.length + uptoBulk d + 1
  | (_, d) => uptoBulk d + 1
 end
def uptoSmall : (H : Type) → List (DataW H) → Bool := fun _ ds => decide (uptoBulkAll ds ≤ 1048576)
def OpenSpec.upto (s : _root_.Go.ChangeSpec) : _root_.Go.OpenSpec := { _root_.Go.OpenSpec.ofChange s with cond := some uptoSmall }

/-- 'laws.FnNeedValid', WHERE WHAT IT READS IS OF BULK AT MOST 1048576: true; the input reads as it did. -/
def fnNeedValidUptoRow : OpenClaim := { program := "ytbkjolbgnkpjpaa", sum := "37d09435de738dddb511a7d33378310db1f06182dc1cbe9a2945f3bd72879492", func := "loop.example/accesspolicies/laws.FnNeedValid", spec := "fnNeedValid", apart := false, narrowed := true }
def FnNeedValidUptoSaid : Prop := fnNeedValidUptoRow.holds Try.pinned (OpenSpec.upto fnNeedValidSpec)

/-- 'laws.FnExactNeedValid', WHERE WHAT IT READS IS OF BULK AT MOST 1048576: true; the input reads as it did. -/
def fnExactNeedValidUptoRow : OpenClaim := { program := "ytbkjolbgnkpjpaa", sum := "37d09435de738dddb511a7d33378310db1f06182dc1cbe9a2945f3bd72879492", func := "loop.example/accesspolicies/laws.FnExactNeedValid", spec := "fnExactNeedValid", apart := false, narrowed := true }
def FnExactNeedValidUptoSaid : Prop := fnExactNeedValidUptoRow.holds Try.pinned (OpenSpec.upto fnExactNeedValidSpec)

/-- 'laws.FnIsApproved', WHERE WHAT IT READS IS OF BULK AT MOST 1048576: true; the input reads as it did. -/
def fnIsApprovedUptoRow : OpenClaim := { program := "ytbkjolbgnkpjpaa", sum := "37d09435de738dddb511a7d33378310db1f06182dc1cbe9a2945f3bd72879492", func := "loop.example/accesspolicies/laws.FnIsApproved", spec := "fnIsApproved", apart := false, narrowed := true }
def FnIsApprovedUptoSaid : Prop := fnIsApprovedUptoRow.holds Try.pinned (OpenSpec.upto fnIsApprovedSpec)

/-- 'laws.FnVotesFor', WHERE WHAT IT READS IS OF BULK AT MOST 1048576: true; the input reads as it did. -/
def fnVotesForUptoRow : OpenClaim := { program := "ytbkjolbgnkpjpaa", sum := "37d09435de738dddb511a7d33378310db1f06182dc1cbe9a2945f3bd72879492", func := "loop.example/accesspolicies/laws.FnVotesFor", spec := "fnVotesFor", apart := false, narrowed := true }
def FnVotesForUptoSaid : Prop := fnVotesForUptoRow.holds Try.pinned (OpenSpec.upto fnVotesForSpec)

/-- 'laws.FnApprovedAt', WHERE WHAT IT READS IS OF BULK AT MOST 1048576: true; the input reads as it did. -/
def fnApprovedAtUptoRow : OpenClaim := { program := "ytbkjolbgnkpjpaa", sum := "37d09435de738dddb511a7d33378310db1f06182dc1cbe9a2945f3bd72879492", func := "loop.example/accesspolicies/laws.FnApprovedAt", spec := "fnApprovedAt", apart := false, narrowed := true }
def FnApprovedAtUptoSaid : Prop := fnApprovedAtUptoRow.holds Try.pinned (OpenSpec.upto fnApprovedAtSpec)

/-- 'laws.FnExactIsApproved', WHERE WHAT IT READS IS OF BULK AT MOST 1048576: true; the input reads as it did. -/
def fnExactIsApprovedUptoRow : OpenClaim := { program := "ytbkjolbgnkpjpaa", sum := "37d09435de738dddb511a7d33378310db1f06182dc1cbe9a2945f3bd72879492", func := "loop.example/accesspolicies/laws.FnExactIsApproved", spec := "fnExactIsApproved", apart := false, narrowed := true }
def FnExactIsApprovedUptoSaid : Prop := fnExactIsApprovedUptoRow.holds Try.pinned (OpenSpec.upto fnExactIsApprovedSpec)

/-- 'laws.FnExactApprovedAt', WHERE WHAT IT READS IS OF BULK AT MOST 1048576: true; the input reads as it did. -/
def fnExactApprovedAtUptoRow : OpenClaim := { program := "ytbkjolbgnkpjpaa", sum := "37d09435de738dddb511a7d33378310db1f06182dc1cbe9a2945f3bd72879492", func := "loop.example/accesspolicies/laws.FnExactApprovedAt", spec := "fnExactApprovedAt", apart := false, narrowed := true }
def FnExactApprovedAtUptoSaid : Prop := fnExactApprovedAtUptoRow.holds Try.pinned (OpenSpec.upto fnExactApprovedAtSpec)

/-- 'laws.FnExactVotesFor', WHERE WHAT IT READS IS OF BULK AT MOST 1048576: true; the input reads as it did. -/
def fnExactVotesForUptoRow : OpenClaim := { program := "ytbkjolbgnkpjpaa", sum := "37d09435de738dddb511a7d33378310db1f06182dc1cbe9a2945f3bd72879492", func := "loop.example/accesspolicies/laws.FnExactVotesFor", spec := "fnExactVotesFor", apart := false, narrowed := true }
def FnExactVotesForUptoSaid : Prop := fnExactVotesForUptoRow.holds Try.pinned (OpenSpec.upto fnExactVotesForSpec)

end Rows
end Go.Proofs.Ytbkjolbgnkpjpaa
