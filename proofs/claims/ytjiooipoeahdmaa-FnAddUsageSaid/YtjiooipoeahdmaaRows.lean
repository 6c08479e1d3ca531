/-
  No cell of these rows narrows 'for every input' (looked for: loops, veiled, ifaces, maps, wideKeys, modest, calm, conditions, laid).
  DERIVED. THE GIVEN ROWS OF THIS SEAT. 6 by the template 'for every input the law returns true; each argument reads behind the call as it read before'; 0 by the template 'total and deterministic' (their statements: YtjiooipoeahdmaaTotals.lean).
  GIVEN WITH THE SEED: the statements are not yours to turn. If you find one false, say at which input.
  Laid BY PROGRAM, IN A SANDBOX (cutbox-rows.mjs): the forced cells as the released guide's own fill.sh prints them over the translation 7624f87ede2cd9b1… (all of the seat's roots in one cut). By AI agents, Wed Nov 11 2026. No macro, syntax, notation, axiom, sorry.
-/
import Derived.Test.YtjiooipoeahdmaaChecked
import GoSem.Claim
import GoSem.ClaimJoined
import GoSem.ClaimMapViews
import Derived.JoinedTies
import Derived.KernelRfl
namespace Go.Proofs.Ytjiooipoeahdmaa
/- THE CELL 'sum', in the pinned program and in every row, IS THE sha256 OF THE DUMP (.gsa) THAT YtjiooipoeahdmaaProg.lean LOADS. Nothing in Lean hashes anything: it is a label: what it is worth is what the hold of that sum in a sandbox is worth. -/
noncomputable def Try.pinned : Pinned := { name := "ytjiooipoeahdmaa", sum := "7624f87ede2cd9b1252cebc520e0e61c6c7653d6435a26459af12ee09719f8d6", checked := Try.checked }
namespace Rows
def none {H : Type} : Left H := { results := [], args := [] }

/-- 'laws.FnExactUsagesValid': WHATEVER THE INPUT: true; the input reads as it did. -/
def fnExactUsagesValidSpec : ChangeSpec := { name := "fnExactUsagesValid", fn := fun _ => fun
  | [d] => { results := [.lit (.bool true)], args := [d] }
  | _ => none }
def fnExactUsagesValidRow : OpenClaim := { program := "ytjiooipoeahdmaa", sum := "7624f87ede2cd9b1252cebc520e0e61c6c7653d6435a26459af12ee09719f8d6", func := "loop.example/accesspolicies/laws.FnExactUsagesValid", spec := "fnExactUsagesValid", apart := false }
def FnExactUsagesValidSaid : Prop := fnExactUsagesValidRow.holds Try.pinned (OpenSpec.ofChange fnExactUsagesValidSpec)

/-- ITS FALSE NEIGHBOUR: 'it returns false'. Refute it at one input. -/
def fnExactUsagesValidWrong : ChangeSpec := { name := "fnExactUsagesValid", fn := fun _ => fun
  | [d] => { results := [.lit (.bool false)], args := [d] }
  | _ => none }
def FnExactUsagesValidWrongFalsely : Prop := fnExactUsagesValidRow.holds Try.pinned (OpenSpec.ofChange fnExactUsagesValidWrong)

/-- 'laws.FnUsagesValid': WHATEVER THE INPUT: true; the input reads as it did. -/
def fnUsagesValidSpec : ChangeSpec := { name := "fnUsagesValid", fn := fun _ => fun
  | [d] => { results := [.lit (.bool true)], args := [d] }
  | _ => none }
def fnUsagesValidRow : OpenClaim := { program := "ytjiooipoeahdmaa", sum := "7624f87ede2cd9b1252cebc520e0e61c6c7653d6435a26459af12ee09719f8d6", func := "loop.example/accesspolicies/laws.FnUsagesValid", spec := "fnUsagesValid", apart := false }
def FnUsagesValidSaid : Prop := fnUsagesValidRow.holds Try.pinned (OpenSpec.ofChange fnUsagesValidSpec)

/-- ITS FALSE NEIGHBOUR: 'it returns false'. Refute it at one input. -/
def fnUsagesValidWrong : ChangeSpec := { name := "fnUsagesValid", fn := fun _ => fun
  | [d] => { results := [.lit (.bool false)], args := [d] }
  | _ => none }
def FnUsagesValidWrongFalsely : Prop := fnUsagesValidRow.holds Try.pinned (OpenSpec.ofChange fnUsagesValidWrong)

/-- 'laws.FnExactUsedWithin': WHATEVER THE INPUT: true; the input reads as it did. -/
def fnExactUsedWithinSpec : ChangeSpec := { name := "fnExactUsedWithin", fn := fun _ => fun
  | [d1, d2, d3] => { results := [.lit (.bool true)], args := [d1, d2, d3] }
  | _ => none }
def fnExactUsedWithinRow : OpenClaim := { program := "ytjiooipoeahdmaa", sum := "7624f87ede2cd9b1252cebc520e0e61c6c7653d6435a26459af12ee09719f8d6", func := "loop.example/accesspolicies/laws.FnExactUsedWithin", spec := "fnExactUsedWithin", apart := false }
def FnExactUsedWithinSaid : Prop := fnExactUsedWithinRow.holds Try.pinned (OpenSpec.ofChange fnExactUsedWithinSpec)

/-- ITS FALSE NEIGHBOUR: 'it returns false'. Refute it at one input. -/
def fnExactUsedWithinWrong : ChangeSpec := { name := "fnExactUsedWithin", fn := fun _ => fun
  | [d1, d2, d3] => { results := [.lit (.bool false)], args := [d1, d2, d3] }
  | _ => none }
def FnExactUsedWithinWrongFalsely : Prop := fnExactUsedWithinRow.holds Try.pinned (OpenSpec.ofChange fnExactUsedWithinWrong)

/-- 'laws.FnUsedWithin': WHATEVER THE INPUT: true; the input reads as it did. -/
def fnUsedWithinSpec : ChangeSpec := { name := "fnUsedWithin", fn := fun _ => fun
  | [d] => { results := [.lit (.bool true)], args := [d] }
  | _ => none }
def fnUsedWithinRow : OpenClaim := { program := "ytjiooipoeahdmaa", sum := "7624f87ede2cd9b1252cebc520e0e61c6c7653d6435a26459af12ee09719f8d6", func := "loop.example/accesspolicies/laws.FnUsedWithin", spec := "fnUsedWithin", apart := false }
def FnUsedWithinSaid : Prop := fnUsedWithinRow.holds Try.pinned (OpenSpec.ofChange fnUsedWithinSpec)

/-- ITS FALSE NEIGHBOUR: 'it returns false'. Refute it at one input. -/
def fnUsedWithinWrong : ChangeSpec := { name := "fnUsedWithin", fn := fun _ => fun
  | [d] => { results := [.lit (.bool false)], args := [d] }
  | _ => none }
def FnUsedWithinWrongFalsely : Prop := fnUsedWithinRow.holds Try.pinned (OpenSpec.ofChange fnUsedWithinWrong)

/-- 'laws.FnExactAddUsage': WHATEVER THE INPUT: true; the input reads as it did. -/
def fnExactAddUsageSpec : ChangeSpec := { name := "fnExactAddUsage", fn := fun _ => fun
  | [d1, d2, d3, d4] => { results := [.lit (.bool true)], args := [d1, d2, d3, d4] }
  | _ => none }
def fnExactAddUsageRow : OpenClaim := { program := "ytjiooipoeahdmaa", sum := "7624f87ede2cd9b1252cebc520e0e61c6c7653d6435a26459af12ee09719f8d6", func := "loop.example/accesspolicies/laws.FnExactAddUsage", spec := "fnExactAddUsage", apart := false }
def FnExactAddUsageSaid : Prop := fnExactAddUsageRow.holds Try.pinned (OpenSpec.ofChange fnExactAddUsageSpec)

/-- ITS FALSE NEIGHBOUR: 'it returns false'. Refute it at one input. -/
def fnExactAddUsageWrong : ChangeSpec := { name := "fnExactAddUsage", fn := fun _ => fun
  | [d1, d2, d3, d4] => { results := [.lit (.bool false)], args := [d1, d2, d3, d4] }
  | _ => none }
def FnExactAddUsageWrongFalsely : Prop := fnExactAddUsageRow.holds Try.pinned (OpenSpec.ofChange fnExactAddUsageWrong)

/-- 'laws.FnAddUsage': WHATEVER THE INPUT: true; the input reads as it did. -/
def fnAddUsageSpec : ChangeSpec := { name := "fnAddUsage", fn := fun _ => fun
  | [d] => { results := [.lit (.bool true)], args := [d] }
  | _ => none }
def fnAddUsageRow : OpenClaim := { program := "ytjiooipoeahdmaa", sum := "7624f87ede2cd9b1252cebc520e0e61c6c7653d6435a26459af12ee09719f8d6", func := "loop.example/accesspolicies/laws.FnAddUsage", spec := "fnAddUsage", apart := false }
def FnAddUsageSaid : Prop := fnAddUsageRow.holds Try.pinned (OpenSpec.ofChange fnAddUsageSpec)

/-- ITS FALSE NEIGHBOUR: 'it returns false'. Refute it at one input. -/
def fnAddUsageWrong : ChangeSpec := { name := "fnAddUsage", fn := fun _ => fun
  | [d] => { results := [.lit (.bool false)], args := [d] }
  | _ => none }
def FnAddUsageWrongFalsely : Prop := fnAddUsageRow.holds Try.pinned (OpenSpec.ofChange fnAddUsageWrong)

/- THE SECOND FORM. 'bulk': how many values and letters a reading holds, each counted each time it is reached (what is shared counts as often as it is met; a slice's spare places count too). A statement '..UptoSaid' is the law's where the arguments, and the package variables that the reading takes, are together of bulk at most 1048576: NARROWER than '..Said'. Prove '..Said' where nothing that the law and all that it calls make is longer than what came in: it says more and counts as full. Else prove '..UptoSaid'. A law counts once. -/
mutual
def uptoBulk {H : Type} : DataW H → Nat
  | .lit (.string bytes) => bytes.length + 1
  | .lit _ => 1
  | .nil => 1
  | .ptr d => uptoBulk d + 1
  | .slice elems spare => uptoBulkAll elems + uptoBulkAll spare + 1
  | .agg parts => uptoBulkAll parts + 1
  | .iface _ d => uptoBulk d + 1
  | .map entries => uptoBulkEntries entries + 1
  | .held _ => 1
def uptoBulkAll {H : Type} : List (DataW H) → Nat
  | [] => 0
  | d :: r => uptoBulk d + uptoBulkAll r
def uptoBulkEntries {H : Type} : List (Lit × DataW H) → Nat
  | [] => 0
  | x :: r => uptoBulkEntry x + uptoBulkEntries r
def uptoBulkEntry {H : Type} : Lit × DataW H → Nat
  | (.string bytes, d) => bytes.length + uptoBulk d + 1
  | (_, d) => uptoBulk d + 1
 end
def uptoSmall : (H : Type) → List (DataW H) → Bool := fun _ ds => decide (uptoBulkAll ds ≤ 1048576)
def OpenSpec.upto (s : _root_.Go.ChangeSpec) : _root_.Go.OpenSpec := { _root_.Go.OpenSpec.ofChange s with cond := some uptoSmall }

/-- 'laws.FnExactUsagesValid', WHERE WHAT IT READS IS OF BULK AT MOST 1048576: true; the input reads as it did. -/
def fnExactUsagesValidUptoRow : OpenClaim := { program := "ytjiooipoeahdmaa", sum := "7624f87ede2cd9b1252cebc520e0e61c6c7653d6435a26459af12ee09719f8d6", func := "loop.example/accesspolicies/laws.FnExactUsagesValid", spec := "fnExactUsagesValid", apart := false, narrowed := true }
def FnExactUsagesValidUptoSaid : Prop := fnExactUsagesValidUptoRow.holds Try.pinned (OpenSpec.upto fnExactUsagesValidSpec)

/-- 'laws.FnUsagesValid', WHERE WHAT IT READS IS OF BULK AT MOST 1048576: true; the input reads as it did. -/
def fnUsagesValidUptoRow : OpenClaim := { program := "ytjiooipoeahdmaa", sum := "7624f87ede2cd9b1252cebc520e0e61c6c7653d6435a26459af12ee09719f8d6", func := "loop.example/accesspolicies/laws.FnUsagesValid", spec := "fnUsagesValid", apart := false, narrowed := true }
def FnUsagesValidUptoSaid : Prop := fnUsagesValidUptoRow.holds Try.pinned (OpenSpec.upto fnUsagesValidSpec)

/-- 'laws.FnExactUsedWithin', WHERE WHAT IT READS IS OF BULK AT MOST 1048576: true; the input reads as it did. -/
def fnExactUsedWithinUptoRow : OpenClaim := { program := "ytjiooipoeahdmaa", sum := "7624f87ede2cd9b1252cebc520e0e61c6c7653d6435a26459af12ee09719f8d6", func := "loop.example/accesspolicies/laws.FnExactUsedWithin", spec := "fnExactUsedWithin", apart := false, narrowed := true }
def FnExactUsedWithinUptoSaid : Prop := fnExactUsedWithinUptoRow.holds Try.pinned (OpenSpec.upto fnExactUsedWithinSpec)

/-- 'laws.FnUsedWithin', WHERE WHAT IT READS IS OF BULK AT MOST 1048576: true; the input reads as it did. -/
def fnUsedWithinUptoRow : OpenClaim := { program := "ytjiooipoeahdmaa", sum := "7624f87ede2cd9b1252cebc520e0e61c6c7653d6435a26459af12ee09719f8d6", func := "loop.example/accesspolicies/laws.FnUsedWithin", spec := "fnUsedWithin", apart := false, narrowed := true }
def FnUsedWithinUptoSaid : Prop := fnUsedWithinUptoRow.holds Try.pinned (OpenSpec.upto fnUsedWithinSpec)

/-- 'laws.FnExactAddUsage', WHERE WHAT IT READS IS OF BULK AT MOST 1048576: true; the input reads as it did. -/
def fnExactAddUsageUptoRow : OpenClaim := { program := "ytjiooipoeahdmaa", sum := "7624f87ede2cd9b1252cebc520e0e61c6c7653d6435a26459af12ee09719f8d6", func := "loop.example/accesspolicies/laws.FnExactAddUsage", spec := "fnExactAddUsage", apart := false, narrowed := true }
def FnExactAddUsageUptoSaid : Prop := fnExactAddUsageUptoRow.holds Try.pinned (OpenSpec.upto fnExactAddUsageSpec)

/-- 'laws.FnAddUsage', WHERE WHAT IT READS IS OF BULK AT MOST 1048576: true; the input reads as it did. -/
def fnAddUsageUptoRow : OpenClaim := { program := "ytjiooipoeahdmaa", sum := "7624f87ede2cd9b1252cebc520e0e61c6c7653d6435a26459af12ee09719f8d6", func := "loop.example/accesspolicies/laws.FnAddUsage", spec := "fnAddUsage", apart := false, narrowed := true }
def FnAddUsageUptoSaid : Prop := fnAddUsageUptoRow.holds Try.pinned (OpenSpec.upto fnAddUsageSpec)

end Rows
end Go.Proofs.Ytjiooipoeahdmaa
