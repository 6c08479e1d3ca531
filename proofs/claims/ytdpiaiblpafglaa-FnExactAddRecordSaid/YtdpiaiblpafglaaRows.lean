/-
  No cell of these rows narrows 'for every input' (looked for: loops, veiled, ifaces, maps, wideKeys, modest, calm, conditions, laid).
  DERIVED. THE GIVEN ROWS OF THIS SEAT. 8 by the template 'for every input the law returns true; each argument reads behind the call as it read before'; 0 by the template 'total and deterministic' (their statements: YtdpiaiblpafglaaTotals.lean).
  GIVEN WITH THE SEED: the statements are not yours to turn. If you find one false, say at which input.
  Laid BY PROGRAM, IN A SANDBOX (cutbox-rows.mjs): the forced cells as the released guide's own fill.sh prints them over the translation 79c20f082de5be81… (all of the seat's roots in one cut). By AI agents, Wed Nov 11 2026. No macro, syntax, notation, axiom, sorry.
-/
import Derived.Test.YtdpiaiblpafglaaChecked
import GoSem.Claim
import GoSem.ClaimJoined
import GoSem.ClaimMapViews
import Derived.JoinedTies
import Derived.KernelRfl
namespace Go.Proofs.Ytdpiaiblpafglaa
/- THE CELL 'sum', in the pinned program and in every row, IS THE sha256 OF THE DUMP (.gsa) THAT YtdpiaiblpafglaaProg.lean LOADS. Nothing in Lean hashes anything: it is a label: what it is worth is what the hold of that sum in a sandbox is worth. -/
noncomputable def Try.pinned : Pinned := { name := "ytdpiaiblpafglaa", sum := "79c20f082de5be815cc7fabdac1928048ae4c261539f12c712a421afba868027", checked := Try.checked }
namespace Rows
def none {H : Type} : Left H := { results := [], args := [] }

/-- 'laws.FnRecordSeal': WHATEVER THE INPUT: true; the input reads as it did. -/
def fnRecordSealSpec : ChangeSpec := { name := "fnRecordSeal", fn := fun _ => fun
  | [d] => { results := [.lit (.bool true)], args := [d] }
  | _ => none }
def fnRecordSealRow : OpenClaim := { program := "ytdpiaiblpafglaa", sum := "79c20f082de5be815cc7fabdac1928048ae4c261539f12c712a421afba868027", func := "loop.example/accesspolicies/laws.FnRecordSeal", spec := "fnRecordSeal", apart := false }
def FnRecordSealSaid : Prop := fnRecordSealRow.holds Try.pinned (OpenSpec.ofChange fnRecordSealSpec)

/-- ITS FALSE NEIGHBOUR: 'it returns false'. Refute it at one input. -/
def fnRecordSealWrong : ChangeSpec := { name := "fnRecordSeal", fn := fun _ => fun
  | [d] => { results := [.lit (.bool false)], args := [d] }
  | _ => none }
def FnRecordSealWrongFalsely : Prop := fnRecordSealRow.holds Try.pinned (OpenSpec.ofChange fnRecordSealWrong)

/-- 'laws.FnRecordsRight': WHATEVER THE INPUT: true; the input reads as it did. -/
def fnRecordsRightSpec : ChangeSpec := { name := "fnRecordsRight", fn := fun _ => fun
  | [d] => { results := [.lit (.bool true)], args := [d] }
  | _ => none }
def fnRecordsRightRow : OpenClaim := { program := "ytdpiaiblpafglaa", sum := "79c20f082de5be815cc7fabdac1928048ae4c261539f12c712a421afba868027", func := "loop.example/accesspolicies/laws.FnRecordsRight", spec := "fnRecordsRight", apart := false }
def FnRecordsRightSaid : Prop := fnRecordsRightRow.holds Try.pinned (OpenSpec.ofChange fnRecordsRightSpec)

/-- ITS FALSE NEIGHBOUR: 'it returns false'. Refute it at one input. -/
def fnRecordsRightWrong : ChangeSpec := { name := "fnRecordsRight", fn := fun _ => fun
  | [d] => { results := [.lit (.bool false)], args := [d] }
  | _ => none }
def FnRecordsRightWrongFalsely : Prop := fnRecordsRightRow.holds Try.pinned (OpenSpec.ofChange fnRecordsRightWrong)

/-- 'laws.FnExactRecordSeal': WHATEVER THE INPUT: true; the input reads as it did. -/
def fnExactRecordSealSpec : ChangeSpec := { name := "fnExactRecordSeal", fn := fun _ => fun
  | [d1, d2] => { results := [.lit (.bool true)], args := [d1, d2] }
  | _ => none }
def fnExactRecordSealRow : OpenClaim := { program := "ytdpiaiblpafglaa", sum := "79c20f082de5be815cc7fabdac1928048ae4c261539f12c712a421afba868027", func := "loop.example/accesspolicies/laws.FnExactRecordSeal", spec := "fnExactRecordSeal", apart := false }
def FnExactRecordSealSaid : Prop := fnExactRecordSealRow.holds Try.pinned (OpenSpec.ofChange fnExactRecordSealSpec)

/-- ITS FALSE NEIGHBOUR: 'it returns false'. Refute it at one input. -/
def fnExactRecordSealWrong : ChangeSpec := { name := "fnExactRecordSeal", fn := fun _ => fun
  | [d1, d2] => { results := [.lit (.bool false)], args := [d1, d2] }
  | _ => none }
def FnExactRecordSealWrongFalsely : Prop := fnExactRecordSealRow.holds Try.pinned (OpenSpec.ofChange fnExactRecordSealWrong)

/-- 'laws.FnRefusedBy': WHATEVER THE INPUT: true; the input reads as it did. -/
def fnRefusedBySpec : ChangeSpec := { name := "fnRefusedBy", fn := fun _ => fun
  | [d] => { results := [.lit (.bool true)], args := [d] }
  | _ => none }
def fnRefusedByRow : OpenClaim := { program := "ytdpiaiblpafglaa", sum := "79c20f082de5be815cc7fabdac1928048ae4c261539f12c712a421afba868027", func := "loop.example/accesspolicies/laws.FnRefusedBy", spec := "fnRefusedBy", apart := false }
def FnRefusedBySaid : Prop := fnRefusedByRow.holds Try.pinned (OpenSpec.ofChange fnRefusedBySpec)

/-- ITS FALSE NEIGHBOUR: 'it returns false'. Refute it at one input. -/
def fnRefusedByWrong : ChangeSpec := { name := "fnRefusedBy", fn := fun _ => fun
  | [d] => { results := [.lit (.bool false)], args := [d] }
  | _ => none }
def FnRefusedByWrongFalsely : Prop := fnRefusedByRow.holds Try.pinned (OpenSpec.ofChange fnRefusedByWrong)

/-- 'laws.FnAddRecord': WHATEVER THE INPUT: true; the input reads as it did. -/
def fnAddRecordSpec : ChangeSpec := { name := "fnAddRecord", fn := fun _ => fun
  | [d] => { results := [.lit (.bool true)], args := [d] }
  | _ => none }
def fnAddRecordRow : OpenClaim := { program := "ytdpiaiblpafglaa", sum := "79c20f082de5be815cc7fabdac1928048ae4c261539f12c712a421afba868027", func := "loop.example/accesspolicies/laws.FnAddRecord", spec := "fnAddRecord", apart := false }
def FnAddRecordSaid : Prop := fnAddRecordRow.holds Try.pinned (OpenSpec.ofChange fnAddRecordSpec)

/-- ITS FALSE NEIGHBOUR: 'it returns false'. Refute it at one input. -/
def fnAddRecordWrong : ChangeSpec := { name := "fnAddRecord", fn := fun _ => fun
  | [d] => { results := [.lit (.bool false)], args := [d] }
  | _ => none }
def FnAddRecordWrongFalsely : Prop := fnAddRecordRow.holds Try.pinned (OpenSpec.ofChange fnAddRecordWrong)

/-- 'laws.FnExactRecordsRight': WHATEVER THE INPUT: true; the input reads as it did. -/
def fnExactRecordsRightSpec : ChangeSpec := { name := "fnExactRecordsRight", fn := fun _ => fun
  | [d] => { results := [.lit (.bool true)], args := [d] }
  | _ => none }
def fnExactRecordsRightRow : OpenClaim := { program := "ytdpiaiblpafglaa", sum := "79c20f082de5be815cc7fabdac1928048ae4c261539f12c712a421afba868027", func := "loop.example/accesspolicies/laws.FnExactRecordsRight", spec := "fnExactRecordsRight", apart := false }
def FnExactRecordsRightSaid : Prop := fnExactRecordsRightRow.holds Try.pinned (OpenSpec.ofChange fnExactRecordsRightSpec)

/-- ITS FALSE NEIGHBOUR: 'it returns false'. Refute it at one input. -/
def fnExactRecordsRightWrong : ChangeSpec := { name := "fnExactRecordsRight", fn := fun _ => fun
  | [d] => { results := [.lit (.bool false)], args := [d] }
  | _ => none }
def FnExactRecordsRightWrongFalsely : Prop := fnExactRecordsRightRow.holds Try.pinned (OpenSpec.ofChange fnExactRecordsRightWrong)

/-- 'laws.FnExactRefusedBy': WHATEVER THE INPUT: true; the input reads as it did. -/
def fnExactRefusedBySpec : ChangeSpec := { name := "fnExactRefusedBy", fn := fun _ => fun
  | [d1, d2] => { results := [.lit (.bool true)], args := [d1, d2] }
  | _ => none }
def fnExactRefusedByRow : OpenClaim := { program := "ytdpiaiblpafglaa", sum := "79c20f082de5be815cc7fabdac1928048ae4c261539f12c712a421afba868027", func := "loop.example/accesspolicies/laws.FnExactRefusedBy", spec := "fnExactRefusedBy", apart := false }
def FnExactRefusedBySaid : Prop := fnExactRefusedByRow.holds Try.pinned (OpenSpec.ofChange fnExactRefusedBySpec)

/-- ITS FALSE NEIGHBOUR: 'it returns false'. Refute it at one input. -/
def fnExactRefusedByWrong : ChangeSpec := { name := "fnExactRefusedBy", fn := fun _ => fun
  | [d1, d2] => { results := [.lit (.bool false)], args := [d1, d2] }
  | _ => none }
def FnExactRefusedByWrongFalsely : Prop := fnExactRefusedByRow.holds Try.pinned (OpenSpec.ofChange fnExactRefusedByWrong)

/-- 'laws.FnExactAddRecord': WHATEVER THE INPUT: true; the input reads as it did. -/
def fnExactAddRecordSpec : ChangeSpec := { name := "fnExactAddRecord", fn := fun _ => fun
  | [d1, d2, d3, d4] => { results := [.lit (.bool true)], args := [d1, d2, d3, d4] }
  | _ => none }
def fnExactAddRecordRow : OpenClaim := { program := "ytdpiaiblpafglaa", sum := "79c20f082de5be815cc7fabdac1928048ae4c261539f12c712a421afba868027", func := "loop.example/accesspolicies/laws.FnExactAddRecord", spec := "fnExactAddRecord", apart := false }
def FnExactAddRecordSaid : Prop := fnExactAddRecordRow.holds Try.pinned (OpenSpec.ofChange fnExactAddRecordSpec)

/-- ITS FALSE NEIGHBOUR: 'it returns false'. Refute it at one input. -/
def fnExactAddRecordWrong : ChangeSpec := { name := "fnExactAddRecord", fn := fun _ => fun
  | [d1, d2, d3, d4] => { results := [.lit (.bool false)], args := [d1, d2, d3, d4] }
  | _ => none }
def FnExactAddRecordWrongFalsely : Prop := fnExactAddRecordRow.holds Try.pinned (OpenSpec.ofChange fnExactAddRecordWrong)

/- THE SECOND FORM. 'bulk': how many values and letters a reading holds, each counted each time it is reached (what is shared counts as often as it is met; a slice's spare places count too). A statement '..UptoSaid' is the law's where the arguments, and the package variables that the reading takes, are together of bulk at most 1048576: NARROWER than '..Said'. Prove '..Said' where nothing that the law and all that it calls make is longer than what came in: it says more and counts as full. Else prove '..UptoSaid'. A law counts once. -/
mutual
def uptoBulk {H : Type} : DataW H → Nat
  | .lit (.string bytes) => bytes.length + 1
  | .lit _ => 1
  | .nil => 1
  | .ptr d => uptoBulk d + 1
  | .slice elems spare => uptoBulkAll elems + uptoBulkAll spare + 1
  | .agg parts => uptoBulkAll parts + 1
  | .iface _ d => uptoBulk d + 1
  | .map entries => uptoBulkEntries entries + 1
  | .held _ => 1
def uptoBulkAll {H : Type} : List (DataW H) → Nat
  | [] => 0
  | d :: r => uptoBulk d + uptoBulkAll r
def uptoBulkEntries {H : Type} : List (Lit × DataW H) → Nat
  | [] => 0
  | x :: r => uptoBulkEntry x + uptoBulkEntries r
def uptoBulkEntry {H : Type} : Lit × DataW H → Nat
  | (.string bytes, d) => bytes.length + uptoBulk d + 1
  | (_, d) => uptoBulk d + 1
 end
def uptoSmall : (H : Type) → List (DataW H) → Bool := fun _ ds => decide (uptoBulkAll ds ≤ 1048576)
def OpenSpec.upto (s : _root_.Go.ChangeSpec) : _root_.Go.OpenSpec := { _root_.Go.OpenSpec.ofChange s with cond := some uptoSmall }

/-- 'laws.FnRecordSeal', WHERE WHAT IT READS IS OF BULK AT MOST 1048576: true; the input reads as it did. -/
def fnRecordSealUptoRow : OpenClaim := { program := "ytdpiaiblpafglaa", sum := "79c20f082de5be815cc7fabdac1928048ae4c261539f12c712a421afba868027", func := "loop.example/accesspolicies/laws.FnRecordSeal", spec := "fnRecordSeal", apart := false, narrowed := true }
def FnRecordSealUptoSaid : Prop := fnRecordSealUptoRow.holds Try.pinned (OpenSpec.upto fnRecordSealSpec)

/-- 'laws.FnRecordsRight', WHERE WHAT IT READS IS OF BULK AT MOST 1048576: true; the input reads as it did. -/
def fnRecordsRightUptoRow : OpenClaim := { program := "ytdpiaiblpafglaa", sum := "79c20f082de5be815cc7fabdac1928048ae4c261539f12c712a421afba868027", func := "loop.example/accesspolicies/laws.FnRecordsRight", spec := "fnRecordsRight", apart := false, narrowed := true }
def FnRecordsRightUptoSaid : Prop := fnRecordsRightUptoRow.holds Try.pinned (OpenSpec.upto fnRecordsRightSpec)

/-- 'laws.FnExactRecordSeal', WHERE WHAT IT READS IS OF BULK AT MOST 1048576: true; the input reads as it did. -/
def fnExactRecordSealUptoRow : OpenClaim := { program := "ytdpiaiblpafglaa", sum := "79c20f082de5be815cc7fabdac1928048ae4c261539f12c712a421afba868027", func := "loop.example/accesspolicies/laws.FnExactRecordSeal", spec := "fnExactRecordSeal", apart := false, narrowed := true }
def FnExactRecordSealUptoSaid : Prop := fnExactRecordSealUptoRow.holds Try.pinned (OpenSpec.upto fnExactRecordSealSpec)

/-- 'laws.FnRefusedBy', WHERE WHAT IT READS IS OF BULK AT MOST 1048576: true; the input reads as it did. -/
def fnRefusedByUptoRow : OpenClaim := { program := "ytdpiaiblpafglaa", sum := "79c20f082de5be815cc7fabdac1928048ae4c261539f12c712a421afba868027", func := "loop.example/accesspolicies/laws.FnRefusedBy", spec := "fnRefusedBy", apart := false, narrowed := true }
def FnRefusedByUptoSaid : Prop := fnRefusedByUptoRow.holds Try.pinned (OpenSpec.upto fnRefusedBySpec)

/-- 'laws.FnAddRecord', WHERE WHAT IT READS IS OF BULK AT MOST 1048576: true; the input reads as it did. -/
def fnAddRecordUptoRow : OpenClaim := { program := "ytdpiaiblpafglaa", sum := "79c20f082de5be815cc7fabdac1928048ae4c261539f12c712a421afba868027", func := "loop.example/accesspolicies/laws.FnAddRecord", spec := "fnAddRecord", apart := false, narrowed := true }
def FnAddRecordUptoSaid : Prop := fnAddRecordUptoRow.holds Try.pinned (OpenSpec.upto fnAddRecordSpec)

/-- 'laws.FnExactRecordsRight', WHERE WHAT IT READS IS OF BULK AT MOST 1048576: true; the input reads as it did. -/
def fnExactRecordsRightUptoRow : OpenClaim := { program := "ytdpiaiblpafglaa", sum := "79c20f082de5be815cc7fabdac1928048ae4c261539f12c712a421afba868027", func := "loop.example/accesspolicies/laws.FnExactRecordsRight", spec := "fnExactRecordsRight", apart := false, narrowed := true }
def FnExactRecordsRightUptoSaid : Prop := fnExactRecordsRightUptoRow.holds Try.pinned (OpenSpec.upto fnExactRecordsRightSpec)

/-- 'laws.FnExactRefusedBy', WHERE WHAT IT READS IS OF BULK AT MOST 1048576: true; the input reads as it did. -/
def fnExactRefusedByUptoRow : OpenClaim := { program := "ytdpiaiblpafglaa", sum := "79c20f082de5be815cc7fabdac1928048ae4c261539f12c712a421afba868027", func := "loop.example/accesspolicies/laws.FnExactRefusedBy", spec := "fnExactRefusedBy", apart := false, narrowed := true }
def FnExactRefusedByUptoSaid : Prop := fnExactRefusedByUptoRow.holds Try.pinned (OpenSpec.upto fnExactRefusedBySpec)

/-- 'laws.FnExactAddRecord', WHERE WHAT IT READS IS OF BULK AT MOST 1048576: true; the input reads as it did. -/
def fnExactAddRecordUptoRow : OpenClaim := { program := "ytdpiaiblpafglaa", sum := "79c20f082de5be815cc7fabdac1928048ae4c261539f12c712a421afba868027", func := "loop.example/accesspolicies/laws.FnExactAddRecord", spec := "fnExactAddRecord", apart := false, narrowed := true }
def FnExactAddRecordUptoSaid : Prop := fnExactAddRecordUptoRow.holds Try.pinned (OpenSpec.upto fnExactAddRecordSpec)

end Rows
end Go.Proofs.Ytdpiaiblpafglaa
