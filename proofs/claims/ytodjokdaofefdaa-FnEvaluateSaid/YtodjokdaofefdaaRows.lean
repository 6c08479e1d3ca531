/-
  NARROWER THAN 'FOR EVERY INPUT', by the rows' own cells (each row's printed sentence says how): FnExactGuarded: loops · FnExactGuardedBy: loops · FnExactCheckPolicy: loops · FnExactSafePolicies: loops.
  DERIVED. THE GIVEN ROWS OF THIS SEAT. 8 by the template 'for every input the law returns true; each argument reads behind the call as it read before'; 0 by the template 'total and deterministic' (their statements: YtodjokdaofefdaaTotals.lean).
  GIVEN WITH THE SEED: the statements are not yours to turn. If you find one false, say at which input.
  Laid BY PROGRAM, IN A SANDBOX (cutbox-rows.mjs): the forced cells as the released guide's own fill.sh prints them over the translation f7dfd6ed4e3b4052… (all of the seat's roots in one cut). By AI agents, Wed Nov 11 2026. No macro, syntax, notation, axiom, sorry.
-/
import Derived.Test.YtodjokdaofefdaaChecked
import GoSem.Claim
import GoSem.ClaimJoined
import GoSem.ClaimMapViews
import Derived.JoinedTies
import Derived.KernelRfl
namespace Go.Proofs.Ytodjokdaofefdaa
/- THE CELL 'sum', in the pinned program and in every row, IS THE sha256 OF THE DUMP (.gsa) THAT YtodjokdaofefdaaProg.lean LOADS. Nothing in Lean hashes anything: it is a label: what it is worth is what the hold of that sum in a sandbox is worth. -/
noncomputable def Try.pinned : Pinned := { name := "ytodjokdaofefdaa", sum := "f7dfd6ed4e3b40528aa23d380851f125673caadce6c6afaa2c6a78b173e2f308", checked := Try.checked }
namespace Rows
def none {H : Type} : Left H := { results := [], args := [] }

/-- 'laws.FnCheckPolicy': WHATEVER THE INPUT: true; the input reads as it did. -/
def fnCheckPolicySpec : ChangeSpec := { name := "fnCheckPolicy", fn := fun _ => fun
  | [d1, d2] => { results := [.lit (.bool true)], args := [d1, d2] }
  | _ => none }
def fnCheckPolicyRow : OpenClaim := { program := "ytodjokdaofefdaa", sum := "f7dfd6ed4e3b40528aa23d380851f125673caadce6c6afaa2c6a78b173e2f308", func := "loop.example/accesspolicies/laws.FnCheckPolicy", spec := "fnCheckPolicy", unfollowed := true, recurses := true, apart := false }
def FnCheckPolicySaid : Prop := fnCheckPolicyRow.holds Try.pinned (OpenSpec.ofChange fnCheckPolicySpec)

/-- ITS FALSE NEIGHBOUR: 'it returns false'. Refute it at one input. -/
def fnCheckPolicyWrong : ChangeSpec := { name := "fnCheckPolicy", fn := fun _ => fun
  | [d1, d2] => { results := [.lit (.bool false)], args := [d1, d2] }
  | _ => none }
def FnCheckPolicyWrongFalsely : Prop := fnCheckPolicyRow.holds Try.pinned (OpenSpec.ofChange fnCheckPolicyWrong)

/-- 'laws.FnExactGuarded': WHATEVER THE INPUT: true; the input reads as it did. -/
def fnExactGuardedSpec : ChangeSpec := { name := "fnExactGuarded", fn := fun _ => fun
  | [d] => { results := [.lit (.bool true)], args := [d] }
  | _ => none }
def fnExactGuardedRow : OpenClaim := { program := "ytodjokdaofefdaa", sum := "f7dfd6ed4e3b40528aa23d380851f125673caadce6c6afaa2c6a78b173e2f308", func := "loop.example/accesspolicies/laws.FnExactGuarded", spec := "fnExactGuarded", unfollowed := true, recurses := true, loops := true, apart := false }
def FnExactGuardedSaid : Prop := fnExactGuardedRow.holds Try.pinned (OpenSpec.ofChange fnExactGuardedSpec)

/-- ITS FALSE NEIGHBOUR: 'it returns false'. Refute it at one input. -/
def fnExactGuardedWrong : ChangeSpec := { name := "fnExactGuarded", fn := fun _ => fun
  | [d] => { results := [.lit (.bool false)], args := [d] }
  | _ => none }
def FnExactGuardedWrongFalsely : Prop := fnExactGuardedRow.holds Try.pinned (OpenSpec.ofChange fnExactGuardedWrong)

/-- 'laws.FnExactGuardedBy': WHATEVER THE INPUT: true; the input reads as it did. -/
def fnExactGuardedBySpec : ChangeSpec := { name := "fnExactGuardedBy", fn := fun _ => fun
  | [d] => { results := [.lit (.bool true)], args := [d] }
  | _ => none }
def fnExactGuardedByRow : OpenClaim := { program := "ytodjokdaofefdaa", sum := "f7dfd6ed4e3b40528aa23d380851f125673caadce6c6afaa2c6a78b173e2f308", func := "loop.example/accesspolicies/laws.FnExactGuardedBy", spec := "fnExactGuardedBy", unfollowed := true, recurses := true, loops := true, apart := false }
def FnExactGuardedBySaid : Prop := fnExactGuardedByRow.holds Try.pinned (OpenSpec.ofChange fnExactGuardedBySpec)

/-- ITS FALSE NEIGHBOUR: 'it returns false'. Refute it at one input. -/
def fnExactGuardedByWrong : ChangeSpec := { name := "fnExactGuardedBy", fn := fun _ => fun
  | [d] => { results := [.lit (.bool false)], args := [d] }
  | _ => none }
def FnExactGuardedByWrongFalsely : Prop := fnExactGuardedByRow.holds Try.pinned (OpenSpec.ofChange fnExactGuardedByWrong)

/-- 'laws.FnGuarded': WHATEVER THE INPUT: true; the input reads as it did. -/
def fnGuardedSpec : ChangeSpec := { name := "fnGuarded", fn := fun _ => fun
  | [d] => { results := [.lit (.bool true)], args := [d] }
  | _ => none }
def fnGuardedRow : OpenClaim := { program := "ytodjokdaofefdaa", sum := "f7dfd6ed4e3b40528aa23d380851f125673caadce6c6afaa2c6a78b173e2f308", func := "loop.example/accesspolicies/laws.FnGuarded", spec := "fnGuarded", unfollowed := true, recurses := true, apart := false }
def FnGuardedSaid : Prop := fnGuardedRow.holds Try.pinned (OpenSpec.ofChange fnGuardedSpec)

/-- ITS FALSE NEIGHBOUR: 'it returns false'. Refute it at one input. -/
def fnGuardedWrong : ChangeSpec := { name := "fnGuarded", fn := fun _ => fun
  | [d] => { results := [.lit (.bool false)], args := [d] }
  | _ => none }
def FnGuardedWrongFalsely : Prop := fnGuardedRow.holds Try.pinned (OpenSpec.ofChange fnGuardedWrong)

/-- 'laws.FnGuardedBy': WHATEVER THE INPUT: true; the input reads as it did. -/
def fnGuardedBySpec : ChangeSpec := { name := "fnGuardedBy", fn := fun _ => fun
  | [d] => { results := [.lit (.bool true)], args := [d] }
  | _ => none }
def fnGuardedByRow : OpenClaim := { program := "ytodjokdaofefdaa", sum := "f7dfd6ed4e3b40528aa23d380851f125673caadce6c6afaa2c6a78b173e2f308", func := "loop.example/accesspolicies/laws.FnGuardedBy", spec := "fnGuardedBy", unfollowed := true, recurses := true, apart := false }
def FnGuardedBySaid : Prop := fnGuardedByRow.holds Try.pinned (OpenSpec.ofChange fnGuardedBySpec)

/-- ITS FALSE NEIGHBOUR: 'it returns false'. Refute it at one input. -/
def fnGuardedByWrong : ChangeSpec := { name := "fnGuardedBy", fn := fun _ => fun
  | [d] => { results := [.lit (.bool false)], args := [d] }
  | _ => none }
def FnGuardedByWrongFalsely : Prop := fnGuardedByRow.holds Try.pinned (OpenSpec.ofChange fnGuardedByWrong)

/-- 'laws.FnExactCheckPolicy': WHATEVER THE INPUT: true; the input reads as it did. -/
def fnExactCheckPolicySpec : ChangeSpec := { name := "fnExactCheckPolicy", fn := fun _ => fun
  | [d1, d2, d3] => { results := [.lit (.bool true)], args := [d1, d2, d3] }
  | _ => none }
def fnExactCheckPolicyRow : OpenClaim := { program := "ytodjokdaofefdaa", sum := "f7dfd6ed4e3b40528aa23d380851f125673caadce6c6afaa2c6a78b173e2f308", func := "loop.example/accesspolicies/laws.FnExactCheckPolicy", spec := "fnExactCheckPolicy", unfollowed := true, recurses := true, loops := true, apart := false }
def FnExactCheckPolicySaid : Prop := fnExactCheckPolicyRow.holds Try.pinned (OpenSpec.ofChange fnExactCheckPolicySpec)

/-- ITS FALSE NEIGHBOUR: 'it returns false'. Refute it at one input. -/
def fnExactCheckPolicyWrong : ChangeSpec := { name := "fnExactCheckPolicy", fn := fun _ => fun
  | [d1, d2, d3] => { results := [.lit (.bool false)], args := [d1, d2, d3] }
  | _ => none }
def FnExactCheckPolicyWrongFalsely : Prop := fnExactCheckPolicyRow.holds Try.pinned (OpenSpec.ofChange fnExactCheckPolicyWrong)

/-- 'laws.FnExactSafePolicies': WHATEVER THE INPUT: true; the input reads as it did. -/
def fnExactSafePoliciesSpec : ChangeSpec := { name := "fnExactSafePolicies", fn := fun _ => fun
  | [d1, d2, d3] => { results := [.lit (.bool true)], args := [d1, d2, d3] }
  | _ => none }
def fnExactSafePoliciesRow : OpenClaim := { program := "ytodjokdaofefdaa", sum := "f7dfd6ed4e3b40528aa23d380851f125673caadce6c6afaa2c6a78b173e2f308", func := "loop.example/accesspolicies/laws.FnExactSafePolicies", spec := "fnExactSafePolicies", unfollowed := true, recurses := true, loops := true, apart := false }
def FnExactSafePoliciesSaid : Prop := fnExactSafePoliciesRow.holds Try.pinned (OpenSpec.ofChange fnExactSafePoliciesSpec)

/-- ITS FALSE NEIGHBOUR: 'it returns false'. Refute it at one input. -/
def fnExactSafePoliciesWrong : ChangeSpec := { name := "fnExactSafePolicies", fn := fun _ => fun
  | [d1, d2, d3] => { results := [.lit (.bool false)], args := [d1, d2, d3] }
  | _ => none }
def FnExactSafePoliciesWrongFalsely : Prop := fnExactSafePoliciesRow.holds Try.pinned (OpenSpec.ofChange fnExactSafePoliciesWrong)

/-- 'laws.FnEvaluate': WHATEVER THE INPUT: true; the input reads as it did. -/
def fnEvaluateSpec : ChangeSpec := { name := "fnEvaluate", fn := fun _ => fun
  | [d] => { results := [.lit (.bool true)], args := [d] }
  | _ => none }
def fnEvaluateRow : OpenClaim := { program := "ytodjokdaofefdaa", sum := "f7dfd6ed4e3b40528aa23d380851f125673caadce6c6afaa2c6a78b173e2f308", func := "loop.example/accesspolicies/laws.FnEvaluate", spec := "fnEvaluate", unfollowed := true, recurses := true, apart := false }
def FnEvaluateSaid : Prop := fnEvaluateRow.holds Try.pinned (OpenSpec.ofChange fnEvaluateSpec)

/-- ITS FALSE NEIGHBOUR: 'it returns false'. Refute it at one input. -/
def fnEvaluateWrong : ChangeSpec := { name := "fnEvaluate", fn := fun _ => fun
  | [d] => { results := [.lit (.bool false)], args := [d] }
  | _ => none }
def FnEvaluateWrongFalsely : Prop := fnEvaluateRow.holds Try.pinned (OpenSpec.ofChange fnEvaluateWrong)

/- THE SECOND FORM. 'bulk': how many values and letters a reading holds, each counted each time it is reached (what is shared counts as often as it is met; a slice's spare places count too). A statement '..UptoSaid' is the law's where the arguments, and the package variables that the reading takes, are together of bulk at most 1048576: NARROWER than '..Said'. Prove '..Said' where nothing that the law and all that it calls make is longer than what came in: it says more and counts as full. Else prove '..UptoSaid'. A law counts once. -/
mutual
def uptoBulk {H : Type} : DataW H → Nat
  | .lit (.string bytes) => bytes.length + 1
  | .lit _ => 1
  | .nil => 1
  | .ptr d => uptoBulk d + 1
  | .slice elems spare => uptoBulkAll elems + uptoBulkAll spare + 1
  | .agg parts => uptoBulkAll parts + 1
  | .iface _ d => uptoBulk d + 1
  | .map entries => uptoBulkEntries entries + 1
  | .held _ => 1
def uptoBulkAll {H : Type} : List (DataW H) → Nat
  | [] => 0
  | d :: r => uptoBulk d + uptoBulkAll r
def uptoBulkEntries {H : Type} : List (Lit × DataW H) → Nat
  | [] => 0
  | x :: r => uptoBulkEntry x + uptoBulkEntries r
def uptoBulkEntry {H : Type} : Lit × DataW H → Nat
  | (.string bytes, d) => bytes.length + uptoBulk d + 1
  | (_, d) => uptoBulk d + 1
 end
def uptoSmall : (H : Type) → List (DataW H) → Bool := fun _ ds => decide (uptoBulkAll ds ≤ 1048576)
def OpenSpec.upto (s : _root_.Go.ChangeSpec) : _root_.Go.OpenSpec := { _root_.Go.OpenSpec.ofChange s with cond := some uptoSmall }

/-- 'laws.FnCheckPolicy', WHERE WHAT IT READS IS OF BULK AT MOST 1048576: true; the input reads as it did. -/
def fnCheckPolicyUptoRow : OpenClaim := { program := "ytodjokdaofefdaa", sum := "f7dfd6ed4e3b40528aa23d380851f125673caadce6c6afaa2c6a78b173e2f308", func := "loop.example/accesspolicies/laws.FnCheckPolicy", spec := "fnCheckPolicy", unfollowed := true, recurses := true, apart := false, narrowed := true }
def FnCheckPolicyUptoSaid : Prop := fnCheckPolicyUptoRow.holds Try.pinned (OpenSpec.upto fnCheckPolicySpec)

/-- 'laws.FnExactGuarded', WHERE WHAT IT READS IS OF BULK AT MOST 1048576: true; the input reads as it did. -/
def fnExactGuardedUptoRow : OpenClaim := { program := "ytodjokdaofefdaa", sum := "f7dfd6ed4e3b40528aa23d380851f125673caadce6c6afaa2c6a78b173e2f308", func := "loop.example/accesspolicies/laws.FnExactGuarded", spec := "fnExactGuarded", unfollowed := true, recurses := true, loops := true, apart := false, narrowed := true }
def FnExactGuardedUptoSaid : Prop := fnExactGuardedUptoRow.holds Try.pinned (OpenSpec.upto fnExactGuardedSpec)

/-- 'laws.FnExactGuardedBy', WHERE WHAT IT READS IS OF BULK AT MOST 1048576: true; the input reads as it did. -/
def fnExactGuardedByUptoRow : OpenClaim := { program := "ytodjokdaofefdaa", sum := "f7dfd6ed4e3b40528aa23d380851f125673caadce6c6afaa2c6a78b173e2f308", func := "loop.example/accesspolicies/laws.FnExactGuardedBy", spec := "fnExactGuardedBy", unfollowed := true, recurses := true, loops := true, apart := false, narrowed := true }
def FnExactGuardedByUptoSaid : Prop := fnExactGuardedByUptoRow.holds Try.pinned (OpenSpec.upto fnExactGuardedBySpec)

/-- 'laws.FnGuarded', WHERE WHAT IT READS IS OF BULK AT MOST 1048576: true; the input reads as it did. -/
def fnGuardedUptoRow : OpenClaim := { program := "ytodjokdaofefdaa", sum := "f7dfd6ed4e3b40528aa23d380851f125673caadce6c6afaa2c6a78b173e2f308", func := "loop.example/accesspolicies/laws.FnGuarded", spec := "fnGuarded", unfollowed := true, recurses := true, apart := false, narrowed := true }
def FnGuardedUptoSaid : Prop := fnGuardedUptoRow.holds Try.pinned (OpenSpec.upto fnGuardedSpec)

/-- 'laws.FnGuardedBy', WHERE WHAT IT READS IS OF BULK AT MOST 1048576: true; the input reads as it did. -/
def fnGuardedByUptoRow : OpenClaim := { program := "ytodjokdaofefdaa", sum := "f7dfd6ed4e3b40528aa23d380851f125673caadce6c6afaa2c6a78b173e2f308", func := "loop.example/accesspolicies/laws.FnGuardedBy", spec := "fnGuardedBy", unfollowed := true, recurses := true, apart := false, narrowed := true }
def FnGuardedByUptoSaid : Prop := fnGuardedByUptoRow.holds Try.pinned (OpenSpec.upto fnGuardedBySpec)

/-- 'laws.FnExactCheckPolicy', WHERE WHAT IT READS IS OF BULK AT MOST 1048576: true; the input reads as it did. -/
def fnExactCheckPolicyUptoRow : OpenClaim := { program := "ytodjokdaofefdaa", sum := "f7dfd6ed4e3b40528aa23d380851f125673caadce6c6afaa2c6a78b173e2f308", func := "loop.example/accesspolicies/laws.FnExactCheckPolicy", spec := "fnExactCheckPolicy", unfollowed := true, recurses := true, loops := true, apart := false, narrowed := true }
def FnExactCheckPolicyUptoSaid : Prop := fnExactCheckPolicyUptoRow.holds Try.pinned (OpenSpec.upto fnExactCheckPolicySpec)

/-- 'laws.FnExactSafePolicies', WHERE WHAT IT READS IS OF BULK AT MOST 1048576: true; the input reads as it did. -/
def fnExactSafePoliciesUptoRow : OpenClaim := { program := "ytodjokdaofefdaa", sum := "f7dfd6ed4e3b40528aa23d380851f125673caadce6c6afaa2c6a78b173e2f308", func := "loop.example/accesspolicies/laws.FnExactSafePolicies", spec := "fnExactSafePolicies", unfollowed := true, recurses := true, loops := true, apart := false, narrowed := true }
def FnExactSafePoliciesUptoSaid : Prop := fnExactSafePoliciesUptoRow.holds Try.pinned (OpenSpec.upto fnExactSafePoliciesSpec)

/-- 'laws.FnEvaluate', WHERE WHAT IT READS IS OF BULK AT MOST 1048576: true; the input reads as it did. -/
def fnEvaluateUptoRow : OpenClaim := { program := "ytodjokdaofefdaa", sum := "f7dfd6ed4e3b40528aa23d380851f125673caadce6c6afaa2c6a78b173e2f308", func := "loop.example/accesspolicies/laws.FnEvaluate", spec := "fnEvaluate", unfollowed := true, recurses := true, apart := false, narrowed := true }
def FnEvaluateUptoSaid : Prop := fnEvaluateUptoRow.holds Try.pinned (OpenSpec.upto fnEvaluateSpec)

end Rows
end Go.Proofs.Ytodjokdaofefdaa
