/-
  No cell of these rows narrows 'for every input' (looked for: loops, veiled, ifaces, maps, wideKeys, modest, calm, conditions, laid).
  DERIVED. THE GIVEN ROWS OF THIS SEAT. 8 by the template 'for every input the law returns true; each argument reads behind the call as it read before'; 0 by the template 'total and deterministic' (their statements: YtflhmkpabhedjaaTotals.lean).
  GIVEN WITH THE SEED: the statements are not yours to turn. If you find one false, say at which input.
  Laid BY PROGRAM, IN A SANDBOX (cutbox-rows.mjs): the forced cells as the released guide's own fill.sh prints them over the translation e9e498806934f6c8… (all of the seat's roots in one cut). By AI agents, Wed Nov 11 2026. No macro, syntax, notation, axiom, sorry.
-/
import Derived.Test.YtflhmkpabhedjaaChecked
import GoSem.Claim
import GoSem.ClaimJoined
import GoSem.ClaimMapViews
import Derived.JoinedTies
import Derived.KernelRfl
namespace Go.Proofs.Ytflhmkpabhedjaa
/- THE CELL 'sum', in the pinned program and in every row, IS THE sha256 OF THE DUMP (.gsa) THAT YtflhmkpabhedjaaProg.lean LOADS. Nothing in Lean hashes anything: it is a label: what it is worth is what the hold of that sum in a sandbox is worth. -/
noncomputable def Try.pinned : Pinned := { name := "ytflhmkpabhedjaa", sum := "e9e498806934f6c81edee161329d0d5e4190dca75be9c9ed2b95ec2d31110376", checked := Try.checked }
namespace Rows
def none {H : Type} : Left H := { results := [], args := [] }

/-- 'laws.FnExactVisitsValid': WHATEVER THE INPUT: true; the input reads as it did. -/
def fnExactVisitsValidSpec : ChangeSpec := { name := "fnExactVisitsValid", fn := fun _ => fun
  | [d1, d2] => { results := [.lit (.bool true)], args := [d1, d2] }
  | _ => none }
def fnExactVisitsValidRow : OpenClaim := { program := "ytflhmkpabhedjaa", sum := "e9e498806934f6c81edee161329d0d5e4190dca75be9c9ed2b95ec2d31110376", func := "loop.example/accesspolicies/laws.FnExactVisitsValid", spec := "fnExactVisitsValid", apart := false }
def FnExactVisitsValidSaid : Prop := fnExactVisitsValidRow.holds Try.pinned (OpenSpec.ofChange fnExactVisitsValidSpec)

/-- ITS FALSE NEIGHBOUR: 'it returns false'. Refute it at one input. -/
def fnExactVisitsValidWrong : ChangeSpec := { name := "fnExactVisitsValid", fn := fun _ => fun
  | [d1, d2] => { results := [.lit (.bool false)], args := [d1, d2] }
  | _ => none }
def FnExactVisitsValidWrongFalsely : Prop := fnExactVisitsValidRow.holds Try.pinned (OpenSpec.ofChange fnExactVisitsValidWrong)

/-- 'laws.FnVisitsValid': WHATEVER THE INPUT: true; the input reads as it did. -/
def fnVisitsValidSpec : ChangeSpec := { name := "fnVisitsValid", fn := fun _ => fun
  | [d] => { results := [.lit (.bool true)], args := [d] }
  | _ => none }
def fnVisitsValidRow : OpenClaim := { program := "ytflhmkpabhedjaa", sum := "e9e498806934f6c81edee161329d0d5e4190dca75be9c9ed2b95ec2d31110376", func := "loop.example/accesspolicies/laws.FnVisitsValid", spec := "fnVisitsValid", apart := false }
def FnVisitsValidSaid : Prop := fnVisitsValidRow.holds Try.pinned (OpenSpec.ofChange fnVisitsValidSpec)

/-- ITS FALSE NEIGHBOUR: 'it returns false'. Refute it at one input. -/
def fnVisitsValidWrong : ChangeSpec := { name := "fnVisitsValid", fn := fun _ => fun
  | [d] => { results := [.lit (.bool false)], args := [d] }
  | _ => none }
def FnVisitsValidWrongFalsely : Prop := fnVisitsValidRow.holds Try.pinned (OpenSpec.ofChange fnVisitsValidWrong)

/-- 'laws.FnExactEndVisits': WHATEVER THE INPUT: true; the input reads as it did. -/
def fnExactEndVisitsSpec : ChangeSpec := { name := "fnExactEndVisits", fn := fun _ => fun
  | [d1, d2, d3] => { results := [.lit (.bool true)], args := [d1, d2, d3] }
  | _ => none }
def fnExactEndVisitsRow : OpenClaim := { program := "ytflhmkpabhedjaa", sum := "e9e498806934f6c81edee161329d0d5e4190dca75be9c9ed2b95ec2d31110376", func := "loop.example/accesspolicies/laws.FnExactEndVisits", spec := "fnExactEndVisits", apart := false }
def FnExactEndVisitsSaid : Prop := fnExactEndVisitsRow.holds Try.pinned (OpenSpec.ofChange fnExactEndVisitsSpec)

/-- ITS FALSE NEIGHBOUR: 'it returns false'. Refute it at one input. -/
def fnExactEndVisitsWrong : ChangeSpec := { name := "fnExactEndVisits", fn := fun _ => fun
  | [d1, d2, d3] => { results := [.lit (.bool false)], args := [d1, d2, d3] }
  | _ => none }
def FnExactEndVisitsWrongFalsely : Prop := fnExactEndVisitsRow.holds Try.pinned (OpenSpec.ofChange fnExactEndVisitsWrong)

/-- 'laws.FnEndVisits': WHATEVER THE INPUT: true; the input reads as it did. -/
def fnEndVisitsSpec : ChangeSpec := { name := "fnEndVisits", fn := fun _ => fun
  | [d] => { results := [.lit (.bool true)], args := [d] }
  | _ => none }
def fnEndVisitsRow : OpenClaim := { program := "ytflhmkpabhedjaa", sum := "e9e498806934f6c81edee161329d0d5e4190dca75be9c9ed2b95ec2d31110376", func := "loop.example/accesspolicies/laws.FnEndVisits", spec := "fnEndVisits", apart := false }
def FnEndVisitsSaid : Prop := fnEndVisitsRow.holds Try.pinned (OpenSpec.ofChange fnEndVisitsSpec)

/-- ITS FALSE NEIGHBOUR: 'it returns false'. Refute it at one input. -/
def fnEndVisitsWrong : ChangeSpec := { name := "fnEndVisits", fn := fun _ => fun
  | [d] => { results := [.lit (.bool false)], args := [d] }
  | _ => none }
def FnEndVisitsWrongFalsely : Prop := fnEndVisitsRow.holds Try.pinned (OpenSpec.ofChange fnEndVisitsWrong)

/-- 'laws.FnExactTouchVisit': WHATEVER THE INPUT: true; the input reads as it did. -/
def fnExactTouchVisitSpec : ChangeSpec := { name := "fnExactTouchVisit", fn := fun _ => fun
  | [d1, d2, d3, d4] => { results := [.lit (.bool true)], args := [d1, d2, d3, d4] }
  | _ => none }
def fnExactTouchVisitRow : OpenClaim := { program := "ytflhmkpabhedjaa", sum := "e9e498806934f6c81edee161329d0d5e4190dca75be9c9ed2b95ec2d31110376", func := "loop.example/accesspolicies/laws.FnExactTouchVisit", spec := "fnExactTouchVisit", unfollowed := true, recurses := true, apart := false }
def FnExactTouchVisitSaid : Prop := fnExactTouchVisitRow.holds Try.pinned (OpenSpec.ofChange fnExactTouchVisitSpec)

/-- ITS FALSE NEIGHBOUR: 'it returns false'. Refute it at one input. -/
def fnExactTouchVisitWrong : ChangeSpec := { name := "fnExactTouchVisit", fn := fun _ => fun
  | [d1, d2, d3, d4] => { results := [.lit (.bool false)], args := [d1, d2, d3, d4] }
  | _ => none }
def FnExactTouchVisitWrongFalsely : Prop := fnExactTouchVisitRow.holds Try.pinned (OpenSpec.ofChange fnExactTouchVisitWrong)

/-- 'laws.FnTouchVisit': WHATEVER THE INPUT: true; the input reads as it did. -/
def fnTouchVisitSpec : ChangeSpec := { name := "fnTouchVisit", fn := fun _ => fun
  | [d] => { results := [.lit (.bool true)], args := [d] }
  | _ => none }
def fnTouchVisitRow : OpenClaim := { program := "ytflhmkpabhedjaa", sum := "e9e498806934f6c81edee161329d0d5e4190dca75be9c9ed2b95ec2d31110376", func := "loop.example/accesspolicies/laws.FnTouchVisit", spec := "fnTouchVisit", unfollowed := true, recurses := true, apart := false }
def FnTouchVisitSaid : Prop := fnTouchVisitRow.holds Try.pinned (OpenSpec.ofChange fnTouchVisitSpec)

/-- ITS FALSE NEIGHBOUR: 'it returns false'. Refute it at one input. -/
def fnTouchVisitWrong : ChangeSpec := { name := "fnTouchVisit", fn := fun _ => fun
  | [d] => { results := [.lit (.bool false)], args := [d] }
  | _ => none }
def FnTouchVisitWrongFalsely : Prop := fnTouchVisitRow.holds Try.pinned (OpenSpec.ofChange fnTouchVisitWrong)

/-- 'laws.FnExactBeginVisit': WHATEVER THE INPUT: true; the input reads as it did. -/
def fnExactBeginVisitSpec : ChangeSpec := { name := "fnExactBeginVisit", fn := fun _ => fun
  | [d1, d2, d3, d4] => { results := [.lit (.bool true)], args := [d1, d2, d3, d4] }
  | _ => none }
def fnExactBeginVisitRow : OpenClaim := { program := "ytflhmkpabhedjaa", sum := "e9e498806934f6c81edee161329d0d5e4190dca75be9c9ed2b95ec2d31110376", func := "loop.example/accesspolicies/laws.FnExactBeginVisit", spec := "fnExactBeginVisit", unfollowed := true, recurses := true, apart := false }
def FnExactBeginVisitSaid : Prop := fnExactBeginVisitRow.holds Try.pinned (OpenSpec.ofChange fnExactBeginVisitSpec)

/-- ITS FALSE NEIGHBOUR: 'it returns false'. Refute it at one input. -/
def fnExactBeginVisitWrong : ChangeSpec := { name := "fnExactBeginVisit", fn := fun _ => fun
  | [d1, d2, d3, d4] => { results := [.lit (.bool false)], args := [d1, d2, d3, d4] }
  | _ => none }
def FnExactBeginVisitWrongFalsely : Prop := fnExactBeginVisitRow.holds Try.pinned (OpenSpec.ofChange fnExactBeginVisitWrong)

/-- 'laws.FnBeginVisit': WHATEVER THE INPUT: true; the input reads as it did. -/
def fnBeginVisitSpec : ChangeSpec := { name := "fnBeginVisit", fn := fun _ => fun
  | [d] => { results := [.lit (.bool true)], args := [d] }
  | _ => none }
def fnBeginVisitRow : OpenClaim := { program := "ytflhmkpabhedjaa", sum := "e9e498806934f6c81edee161329d0d5e4190dca75be9c9ed2b95ec2d31110376", func := "loop.example/accesspolicies/laws.FnBeginVisit", spec := "fnBeginVisit", unfollowed := true, recurses := true, apart := false }
def FnBeginVisitSaid : Prop := fnBeginVisitRow.holds Try.pinned (OpenSpec.ofChange fnBeginVisitSpec)

/-- ITS FALSE NEIGHBOUR: 'it returns false'. Refute it at one input. -/
def fnBeginVisitWrong : ChangeSpec := { name := "fnBeginVisit", fn := fun _ => fun
  | [d] => { results := [.lit (.bool false)], args := [d] }
  | _ => none }
def FnBeginVisitWrongFalsely : Prop := fnBeginVisitRow.holds Try.pinned (OpenSpec.ofChange fnBeginVisitWrong)

/- THE SECOND FORM. 'bulk': how many values and letters a reading holds, each counted each time it is reached (what is shared counts as often as it is met; a slice's spare places count too). A statement '..UptoSaid' is the law's where the arguments, and the package variables that the reading takes, are together of bulk at most 1048576: NARROWER than '..Said'. Prove '..Said' where nothing that the law and all that it calls make is longer than what came in: it says more and counts as full. Else prove '..UptoSaid'. A law counts once. -/
mutual
def uptoBulk {H : Type} : DataW H → Nat
  | .lit (.string bytes) => bytes.length + 1
  | .lit _ => 1
  | .nil => 1
  | .ptr d => uptoBulk d + 1
  | .slice elems spare => uptoBulkAll elems + uptoBulkAll spare + 1
  | .agg parts => uptoBulkAll parts + 1
  | .iface _ d => uptoBulk d + 1
  | .map entries => uptoBulkEntries entries + 1
  | .held _ => 1
def uptoBulkAll {H : Type} : List (DataW H) → Nat
  | [] => 0
  | d :: r => uptoBulk d + uptoBulkAll r
def uptoBulkEntries {H : Type} : List (Lit × DataW H) → Nat
  | [] => 0
  | x :: r => uptoBulkEntry x + uptoBulkEntries r
def uptoBulkEntry {H : Type} : Lit × DataW H → Nat
  | (.string bytes, d) => bytes.length + uptoBulk d + 1
  | (_, d) => uptoBulk d + 1
 end
def uptoSmall : (H : Type) → List (DataW H) → Bool := fun _ ds => decide (uptoBulkAll ds ≤ 1048576)
def OpenSpec.upto (s : _root_.Go.ChangeSpec) : _root_.Go.OpenSpec := { _root_.Go.OpenSpec.ofChange s with cond := some uptoSmall }

/-- 'laws.FnExactVisitsValid', WHERE WHAT IT READS IS OF BULK AT MOST 1048576: true; the input reads as it did. -/
def fnExactVisitsValidUptoRow : OpenClaim := { program := "ytflhmkpabhedjaa", sum := "e9e498806934f6c81edee161329d0d5e4190dca75be9c9ed2b95ec2d31110376", func := "loop.example/accesspolicies/laws.FnExactVisitsValid", spec := "fnExactVisitsValid", apart := false, narrowed := true }
def FnExactVisitsValidUptoSaid : Prop := fnExactVisitsValidUptoRow.holds Try.pinned (OpenSpec.upto fnExactVisitsValidSpec)

/-- 'laws.FnVisitsValid', WHERE WHAT IT READS IS OF BULK AT MOST 1048576: true; the input reads as it did. -/
def fnVisitsValidUptoRow : OpenClaim := { program := "ytflhmkpabhedjaa", sum := "e9e498806934f6c81edee161329d0d5e4190dca75be9c9ed2b95ec2d31110376", func := "loop.example/accesspolicies/laws.FnVisitsValid", spec := "fnVisitsValid", apart := false, narrowed := true }
def FnVisitsValidUptoSaid : Prop := fnVisitsValidUptoRow.holds Try.pinned (OpenSpec.upto fnVisitsValidSpec)

/-- 'laws.FnExactEndVisits', WHERE WHAT IT READS IS OF BULK AT MOST 1048576: true; the input reads as it did. -/
def fnExactEndVisitsUptoRow : OpenClaim := { program := "ytflhmkpabhedjaa", sum := "e9e498806934f6c81edee161329d0d5e4190dca75be9c9ed2b95ec2d31110376", func := "loop.example/accesspolicies/laws.FnExactEndVisits", spec := "fnExactEndVisits", apart := false, narrowed := true }
def FnExactEndVisitsUptoSaid : Prop := fnExactEndVisitsUptoRow.holds Try.pinned (OpenSpec.upto fnExactEndVisitsSpec)

/-- 'laws.FnEndVisits', WHERE WHAT IT READS IS OF BULK AT MOST 1048576: true; the input reads as it did. -/
def fnEndVisitsUptoRow : OpenClaim := { program := "ytflhmkpabhedjaa", sum := "e9e498806934f6c81edee161329d0d5e4190dca75be9c9ed2b95ec2d31110376", func := "loop.example/accesspolicies/laws.FnEndVisits", spec := "fnEndVisits", apart := false, narrowed := true }
def FnEndVisitsUptoSaid : Prop := fnEndVisitsUptoRow.holds Try.pinned (OpenSpec.upto fnEndVisitsSpec)

/-- 'laws.FnExactTouchVisit', WHERE WHAT IT READS IS OF BULK AT MOST 1048576: true; the input reads as it did. -/
def fnExactTouchVisitUptoRow : OpenClaim := { program := "ytflhmkpabhedjaa", sum := "e9e498806934f6c81edee161329d0d5e4190dca75be9c9ed2b95ec2d31110376", func := "loop.example/accesspolicies/laws.FnExactTouchVisit", spec := "fnExactTouchVisit", unfollowed := true, recurses := true, apart := false, narrowed := true }
def FnExactTouchVisitUptoSaid : Prop := fnExactTouchVisitUptoRow.holds Try.pinned (OpenSpec.upto fnExactTouchVisitSpec)

/-- 'laws.FnTouchVisit', WHERE WHAT IT READS IS OF BULK AT MOST 1048576: true; the input reads as it did. -/
def fnTouchVisitUptoRow : OpenClaim := { program := "ytflhmkpabhedjaa", sum := "e9e498806934f6c81edee161329d0d5e4190dca75be9c9ed2b95ec2d31110376", func := "loop.example/accesspolicies/laws.FnTouchVisit", spec := "fnTouchVisit", unfollowed := true, recurses := true, apart := false, narrowed := true }
def FnTouchVisitUptoSaid : Prop := fnTouchVisitUptoRow.holds Try.pinned (OpenSpec.upto fnTouchVisitSpec)

/-- 'laws.FnExactBeginVisit', WHERE WHAT IT READS IS OF BULK AT MOST 1048576: true; the input reads as it did. -/
def fnExactBeginVisitUptoRow : OpenClaim := { program := "ytflhmkpabhedjaa", sum := "e9e498806934f6c81edee161329d0d5e4190dca75be9c9ed2b95ec2d31110376", func := "loop.example/accesspolicies/laws.FnExactBeginVisit", spec := "fnExactBeginVisit", unfollowed := true, recurses := true, apart := false, narrowed := true }
def FnExactBeginVisitUptoSaid : Prop := fnExactBeginVisitUptoRow.holds Try.pinned (OpenSpec.upto fnExactBeginVisitSpec)

/-- 'laws.FnBeginVisit', WHERE WHAT IT READS IS OF BULK AT MOST 1048576: true; the input reads as it did. -/
def fnBeginVisitUptoRow : OpenClaim := { program := "ytflhmkpabhedjaa", sum := "e9e498806934f6c81edee161329d0d5e4190dca75be9c9ed2b95ec2d31110376", func := "loop.example/accesspolicies/laws.FnBeginVisit", spec := "fnBeginVisit", unfollowed := true, recurses := true, apart := false, narrowed := true }
def FnBeginVisitUptoSaid : Prop := fnBeginVisitUptoRow.holds Try.pinned (OpenSpec.upto fnBeginVisitSpec)

end Rows
end Go.Proofs.Ytflhmkpabhedjaa
