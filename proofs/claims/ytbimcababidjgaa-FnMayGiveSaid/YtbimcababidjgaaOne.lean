/- The number of ones, for small numbers. -/
import Derived.Test.YtbimcababidjgaaBit
namespace Go.Proofs.Ytbimcababidjgaa
set_option linter.unusedSimpArgs false
set_option linter.unusedVariables false
open Go.RowKit

set_option maxRecDepth 100000 in
set_option maxHeartbeats 4000000 in
theorem onesCount64_any {n : Nat} (hn : n < 256) (w : World) :
    Calls Try.prog 58 #[.int .u64 (n : Int)] w fun e w' => e = .returned (.int .i64 (popc n)) ∧ Below w.heap.size w w' := by
  have h0 : (0 : Int) ≤ n := by omega
  have h1 : (n : Int) < 256 := by omega
  go_enter Try.func58, Try.ntmps58
  go_wp2
  go_ret
  refine ⟨ret_int ?_, Below.refl _ _⟩
  clear h0 h1 w
  revert hn
  revert n
  decide +kernel
theorem onesCount_any {n : Nat} (hn : n < 256) (w : World) :
    Calls Try.prog 52 #[.int .u64 (n : Int)] w fun e w' => e = .returned (.int .i64 (popc n)) ∧ Below w.heap.size w w' := by
  go_enter Try.func52, Try.ntmps52
  go_wp2_with fail
  refine (onesCount64_any hn _).mono ?_
  rintro e w1 ⟨rfl, hB⟩
  go_wp2
  go_ret
  exact ⟨rfl, hB⟩
end Go.Proofs.Ytbimcababidjgaa
