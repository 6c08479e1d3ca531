/-
  No cell of these rows narrows 'for every input' (looked for: loops, veiled, ifaces, maps, wideKeys, modest, calm, conditions, laid).
  DERIVED. THE GIVEN ROWS OF THIS SEAT. 8 by the template 'for every input the law returns true; each argument reads behind the call as it read before'; 0 by the template 'total and deterministic' (their statements: YticiggciigmhaaaTotals.lean).
  GIVEN WITH THE SEED: the statements are not yours to turn. If you find one false, say at which input.
  Laid BY PROGRAM, IN A SANDBOX (cutbox-rows.mjs): the forced cells as the released guide's own fill.sh prints them over the translation 6ae0196fc6f380f7… (all of the seat's roots in one cut). By AI agents, Wed Nov 11 2026. No macro, syntax, notation, axiom, sorry.
-/
import Derived.Test.YticiggciigmhaaaChecked
import GoSem.Claim
import GoSem.ClaimJoined
import GoSem.ClaimMapViews
import Derived.JoinedTies
import Derived.KernelRfl
namespace Go.Proofs.Yticiggciigmhaaa
/- THE CELL 'sum', in the pinned program and in every row, IS THE sha256 OF THE DUMP (.gsa) THAT YticiggciigmhaaaProg.lean LOADS. Nothing in Lean hashes anything: it is a label: what it is worth is what the hold of that sum in a sandbox is worth. -/
noncomputable def Try.pinned : Pinned := { name := "yticiggciigmhaaa", sum := "6ae0196fc6f380f707d6d2159fc1bd74e272fdcb0e45722030d7e43743ca7e4d", checked := Try.checked }
namespace Rows
def none {H : Type} : Left H := { results := [], args := [] }

/-- 'laws.FnExactHoursValid': WHATEVER THE INPUT: true; the input reads as it did. -/
def fnExactHoursValidSpec : ChangeSpec := { name := "fnExactHoursValid", fn := fun _ => fun
  | [d] => { results := [.lit (.bool true)], args := [d] }
  | _ => none }
def fnExactHoursValidRow : OpenClaim := { program := "yticiggciigmhaaa", sum := "6ae0196fc6f380f707d6d2159fc1bd74e272fdcb0e45722030d7e43743ca7e4d", func := "loop.example/accesspolicies/laws.FnExactHoursValid", spec := "fnExactHoursValid", apart := false }
def FnExactHoursValidSaid : Prop := fnExactHoursValidRow.holds Try.pinned (OpenSpec.ofChange fnExactHoursValidSpec)

/-- ITS FALSE NEIGHBOUR: 'it returns false'. Refute it at one input. -/
def fnExactHoursValidWrong : ChangeSpec := { name := "fnExactHoursValid", fn := fun _ => fun
  | [d] => { results := [.lit (.bool false)], args := [d] }
  | _ => none }
def FnExactHoursValidWrongFalsely : Prop := fnExactHoursValidRow.holds Try.pinned (OpenSpec.ofChange fnExactHoursValidWrong)

/-- 'laws.FnHoursValid': WHATEVER THE INPUT: true; the input reads as it did. -/
def fnHoursValidSpec : ChangeSpec := { name := "fnHoursValid", fn := fun _ => fun
  | [d] => { results := [.lit (.bool true)], args := [d] }
  | _ => none }
def fnHoursValidRow : OpenClaim := { program := "yticiggciigmhaaa", sum := "6ae0196fc6f380f707d6d2159fc1bd74e272fdcb0e45722030d7e43743ca7e4d", func := "loop.example/accesspolicies/laws.FnHoursValid", spec := "fnHoursValid", apart := false }
def FnHoursValidSaid : Prop := fnHoursValidRow.holds Try.pinned (OpenSpec.ofChange fnHoursValidSpec)

/-- ITS FALSE NEIGHBOUR: 'it returns false'. Refute it at one input. -/
def fnHoursValidWrong : ChangeSpec := { name := "fnHoursValid", fn := fun _ => fun
  | [d] => { results := [.lit (.bool false)], args := [d] }
  | _ => none }
def FnHoursValidWrongFalsely : Prop := fnHoursValidRow.holds Try.pinned (OpenSpec.ofChange fnHoursValidWrong)

/-- 'laws.FnExactInHours': WHATEVER THE INPUT: true; the input reads as it did. -/
def fnExactInHoursSpec : ChangeSpec := { name := "fnExactInHours", fn := fun _ => fun
  | [d1, d2, d3] => { results := [.lit (.bool true)], args := [d1, d2, d3] }
  | _ => none }
def fnExactInHoursRow : OpenClaim := { program := "yticiggciigmhaaa", sum := "6ae0196fc6f380f707d6d2159fc1bd74e272fdcb0e45722030d7e43743ca7e4d", func := "loop.example/accesspolicies/laws.FnExactInHours", spec := "fnExactInHours", apart := false }
def FnExactInHoursSaid : Prop := fnExactInHoursRow.holds Try.pinned (OpenSpec.ofChange fnExactInHoursSpec)

/-- ITS FALSE NEIGHBOUR: 'it returns false'. Refute it at one input. -/
def fnExactInHoursWrong : ChangeSpec := { name := "fnExactInHours", fn := fun _ => fun
  | [d1, d2, d3] => { results := [.lit (.bool false)], args := [d1, d2, d3] }
  | _ => none }
def FnExactInHoursWrongFalsely : Prop := fnExactInHoursRow.holds Try.pinned (OpenSpec.ofChange fnExactInHoursWrong)

/-- 'laws.FnInHours': WHATEVER THE INPUT: true; the input reads as it did. -/
def fnInHoursSpec : ChangeSpec := { name := "fnInHours", fn := fun _ => fun
  | [d] => { results := [.lit (.bool true)], args := [d] }
  | _ => none }
def fnInHoursRow : OpenClaim := { program := "yticiggciigmhaaa", sum := "6ae0196fc6f380f707d6d2159fc1bd74e272fdcb0e45722030d7e43743ca7e4d", func := "loop.example/accesspolicies/laws.FnInHours", spec := "fnInHours", apart := false }
def FnInHoursSaid : Prop := fnInHoursRow.holds Try.pinned (OpenSpec.ofChange fnInHoursSpec)

/-- ITS FALSE NEIGHBOUR: 'it returns false'. Refute it at one input. -/
def fnInHoursWrong : ChangeSpec := { name := "fnInHours", fn := fun _ => fun
  | [d] => { results := [.lit (.bool false)], args := [d] }
  | _ => none }
def FnInHoursWrongFalsely : Prop := fnInHoursRow.holds Try.pinned (OpenSpec.ofChange fnInHoursWrong)

/-- 'laws.FnExactHoursOpen': WHATEVER THE INPUT: true; the input reads as it did. -/
def fnExactHoursOpenSpec : ChangeSpec := { name := "fnExactHoursOpen", fn := fun _ => fun
  | [d] => { results := [.lit (.bool true)], args := [d] }
  | _ => none }
def fnExactHoursOpenRow : OpenClaim := { program := "yticiggciigmhaaa", sum := "6ae0196fc6f380f707d6d2159fc1bd74e272fdcb0e45722030d7e43743ca7e4d", func := "loop.example/accesspolicies/laws.FnExactHoursOpen", spec := "fnExactHoursOpen", apart := false }
def FnExactHoursOpenSaid : Prop := fnExactHoursOpenRow.holds Try.pinned (OpenSpec.ofChange fnExactHoursOpenSpec)

/-- ITS FALSE NEIGHBOUR: 'it returns false'. Refute it at one input. -/
def fnExactHoursOpenWrong : ChangeSpec := { name := "fnExactHoursOpen", fn := fun _ => fun
  | [d] => { results := [.lit (.bool false)], args := [d] }
  | _ => none }
def FnExactHoursOpenWrongFalsely : Prop := fnExactHoursOpenRow.holds Try.pinned (OpenSpec.ofChange fnExactHoursOpenWrong)

/-- 'laws.FnExactNextOpen': WHATEVER THE INPUT: true; the input reads as it did. -/
def fnExactNextOpenSpec : ChangeSpec := { name := "fnExactNextOpen", fn := fun _ => fun
  | [d1, d2, d3] => { results := [.lit (.bool true)], args := [d1, d2, d3] }
  | _ => none }
def fnExactNextOpenRow : OpenClaim := { program := "yticiggciigmhaaa", sum := "6ae0196fc6f380f707d6d2159fc1bd74e272fdcb0e45722030d7e43743ca7e4d", func := "loop.example/accesspolicies/laws.FnExactNextOpen", spec := "fnExactNextOpen", apart := false }
def FnExactNextOpenSaid : Prop := fnExactNextOpenRow.holds Try.pinned (OpenSpec.ofChange fnExactNextOpenSpec)

/-- ITS FALSE NEIGHBOUR: 'it returns false'. Refute it at one input. -/
def fnExactNextOpenWrong : ChangeSpec := { name := "fnExactNextOpen", fn := fun _ => fun
  | [d1, d2, d3] => { results := [.lit (.bool false)], args := [d1, d2, d3] }
  | _ => none }
def FnExactNextOpenWrongFalsely : Prop := fnExactNextOpenRow.holds Try.pinned (OpenSpec.ofChange fnExactNextOpenWrong)

/-- 'laws.FnNextOpen': WHATEVER THE INPUT: true; the input reads as it did. -/
def fnNextOpenSpec : ChangeSpec := { name := "fnNextOpen", fn := fun _ => fun
  | [d] => { results := [.lit (.bool true)], args := [d] }
  | _ => none }
def fnNextOpenRow : OpenClaim := { program := "yticiggciigmhaaa", sum := "6ae0196fc6f380f707d6d2159fc1bd74e272fdcb0e45722030d7e43743ca7e4d", func := "loop.example/accesspolicies/laws.FnNextOpen", spec := "fnNextOpen", apart := false }
def FnNextOpenSaid : Prop := fnNextOpenRow.holds Try.pinned (OpenSpec.ofChange fnNextOpenSpec)

/-- ITS FALSE NEIGHBOUR: 'it returns false'. Refute it at one input. -/
def fnNextOpenWrong : ChangeSpec := { name := "fnNextOpen", fn := fun _ => fun
  | [d] => { results := [.lit (.bool false)], args := [d] }
  | _ => none }
def FnNextOpenWrongFalsely : Prop := fnNextOpenRow.holds Try.pinned (OpenSpec.ofChange fnNextOpenWrong)

/-- 'laws.FnHoursOpen': WHATEVER THE INPUT: true; the input reads as it did. -/
def fnHoursOpenSpec : ChangeSpec := { name := "fnHoursOpen", fn := fun _ => fun
  | [d] => { results := [.lit (.bool true)], args := [d] }
  | _ => none }
def fnHoursOpenRow : OpenClaim := { program := "yticiggciigmhaaa", sum := "6ae0196fc6f380f707d6d2159fc1bd74e272fdcb0e45722030d7e43743ca7e4d", func := "loop.example/accesspolicies/laws.FnHoursOpen", spec := "fnHoursOpen", apart := false }
def FnHoursOpenSaid : Prop := fnHoursOpenRow.holds Try.pinned (OpenSpec.ofChange fnHoursOpenSpec)

/-- ITS FALSE NEIGHBOUR: 'it returns false'. Refute it at one input. -/
def fnHoursOpenWrong : ChangeSpec := { name := "fnHoursOpen", fn := fun _ => fun
  | [d] => { results := [.lit (.bool false)], args := [d] }
  | _ => none }
def FnHoursOpenWrongFalsely : Prop := fnHoursOpenRow.holds Try.pinned (OpenSpec.ofChange fnHoursOpenWrong)

/- THE SECOND FORM. 'bulk': how many values and letters a reading holds, each counted each time it is reached (what is shared counts as often as it is met; a slice's spare places count too). A statement '..UptoSaid' is the law's where the arguments, and the package variables that the reading takes, are together of bulk at most 1048576: NARROWER than '..Said'. Prove '..Said' where nothing that the law and all that it calls make is longer than what came in: it says more and counts as full. Else prove '..UptoSaid'. A law counts once. -/
mutual
def uptoBulk {H : Type} : DataW H → Nat
  | .lit (.string bytes) => bytes.length + 1
  | .lit _ => 1
  | .nil => 1
  | .ptr d => uptoBulk d + 1
  | .slice elems spare => uptoBulkAll elems + uptoBulkAll spare + 1
  | .agg parts => uptoBulkAll parts + 1
  | .iface _ d => uptoBulk d + 1
  | .map entries => uptoBulkEntries entries + 1
  | .held _ => 1
def uptoBulkAll {H : Type} : List (DataW H) → Nat
  | [] => 0
  | d :: r => uptoBulk d + uptoBulkAll r
def uptoBulkEntries {H : Type} : List (Lit × DataW H) → Nat
  | [] => 0
  | x :: r => uptoBulkEntry x + uptoBulkEntries r
def uptoBulkEntry {H : Type} : Lit × DataW H → Nat
  | (.string bytes, d) => bytes.length + uptoBulk d + 1
  | (_, d) => uptoBulk d + 1
 end
def uptoSmall : (H : Type) → List (DataW H) → Bool := fun _ ds => decide (uptoBulkAll ds ≤ 1048576)
def OpenSpec.upto (s : _root_.Go.ChangeSpec) : _root_.Go.OpenSpec := { _root_.Go.OpenSpec.ofChange s with cond := some uptoSmall }

/-- 'laws.FnExactHoursValid', WHERE WHAT IT READS IS OF BULK AT MOST 1048576: true; the input reads as it did. -/
def fnExactHoursValidUptoRow : OpenClaim := { program := "yticiggciigmhaaa", sum := "6ae0196fc6f380f707d6d2159fc1bd74e272fdcb0e45722030d7e43743ca7e4d", func := "loop.example/accesspolicies/laws.FnExactHoursValid", spec := "fnExactHoursValid", apart := false, narrowed := true }
def FnExactHoursValidUptoSaid : Prop := fnExactHoursValidUptoRow.holds Try.pinned (OpenSpec.upto fnExactHoursValidSpec)

/-- 'laws.FnHoursValid', WHERE WHAT IT READS IS OF BULK AT MOST 1048576: true; the input reads as it did. -/
def fnHoursValidUptoRow : OpenClaim := { program := "yticiggciigmhaaa", sum := "6ae0196fc6f380f707d6d2159fc1bd74e272fdcb0e45722030d7e43743ca7e4d", func := "loop.example/accesspolicies/laws.FnHoursValid", spec := "fnHoursValid", apart := false, narrowed := true }
def FnHoursValidUptoSaid : Prop := fnHoursValidUptoRow.holds Try.pinned (OpenSpec.upto fnHoursValidSpec)

/-- 'laws.FnExactInHours', WHERE WHAT IT READS IS OF BULK AT MOST 1048576: true; the input reads as it did. -/
def fnExactInHoursUptoRow : OpenClaim := { program := "yticiggciigmhaaa", sum := "6ae0196fc6f380f707d6d2159fc1bd74e272fdcb0e45722030d7e43743ca7e4d", func := "loop.example/accesspolicies/laws.FnExactInHours", spec := "fnExactInHours", apart := false, narrowed := true }
def FnExactInHoursUptoSaid : Prop := fnExactInHoursUptoRow.holds Try.pinned (OpenSpec.upto fnExactInHoursSpec)

/-- 'laws.FnInHours', WHERE WHAT IT READS IS OF BULK AT MOST 1048576: true; the input reads as it did. -/
def fnInHoursUptoRow : OpenClaim := { program := "yticiggciigmhaaa", sum := "6ae0196fc6f380f707d6d2159fc1bd74e272fdcb0e45722030d7e43743ca7e4d", func := "loop.example/accesspolicies/laws.FnInHours", spec := "fnInHours", apart := false, narrowed := true }
def FnInHoursUptoSaid : Prop := fnInHoursUptoRow.holds Try.pinned (OpenSpec.upto fnInHoursSpec)

/-- 'laws.FnExactHoursOpen', WHERE WHAT IT READS IS OF BULK AT MOST 1048576: true; the input reads as it did. -/
def fnExactHoursOpenUptoRow : OpenClaim := { program := "yticiggciigmhaaa", sum := "6ae0196fc6f380f707d6d2159fc1bd74e272fdcb0e45722030d7e43743ca7e4d", func := "loop.example/accesspolicies/laws.FnExactHoursOpen", spec := "fnExactHoursOpen", apart := false, narrowed := true }
def FnExactHoursOpenUptoSaid : Prop := fnExactHoursOpenUptoRow.holds Try.pinned (OpenSpec.upto fnExactHoursOpenSpec)

/-- 'laws.FnExactNextOpen', WHERE WHAT IT READS IS OF BULK AT MOST 1048576: true; the input reads as it did. -/
def fnExactNextOpenUptoRow : OpenClaim := { program := "yticiggciigmhaaa", sum := "6ae0196fc6f380f707d6d2159fc1bd74e272fdcb0e45722030d7e43743ca7e4d", func := "loop.example/accesspolicies/laws.FnExactNextOpen", spec := "fnExactNextOpen", apart := false, narrowed := true }
def FnExactNextOpenUptoSaid : Prop := fnExactNextOpenUptoRow.holds Try.pinned (OpenSpec.upto fnExactNextOpenSpec)

/-- 'laws.FnNextOpen', WHERE WHAT IT READS IS OF BULK AT MOST 1048576: true; the input reads as it did. -/
def fnNextOpenUptoRow : OpenClaim := { program := "yticiggciigmhaaa", sum := "6ae0196fc6f380f707d6d2159fc1bd74e272fdcb0e45722030d7e43743ca7e4d", func := "loop.example/accesspolicies/laws.FnNextOpen", spec := "fnNextOpen", apart := false, narrowed := true }
def FnNextOpenUptoSaid : Prop := fnNextOpenUptoRow.holds Try.pinned (OpenSpec.upto fnNextOpenSpec)

/-- 'laws.FnHoursOpen', WHERE WHAT IT READS IS OF BULK AT MOST 1048576: true; the input reads as it did. -/
def fnHoursOpenUptoRow : OpenClaim := { program := "yticiggciigmhaaa", sum := "6ae0196fc6f380f707d6d2159fc1bd74e272fdcb0e45722030d7e43743ca7e4d", func := "loop.example/accesspolicies/laws.FnHoursOpen", spec := "fnHoursOpen", apart := false, narrowed := true }
def FnHoursOpenUptoSaid : Prop := fnHoursOpenUptoRow.holds Try.pinned (OpenSpec.upto fnHoursOpenSpec)

end Rows
end Go.Proofs.Yticiggciigmhaaa
