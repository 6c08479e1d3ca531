/- Persons and times. -/
import Derived.Test.YtbkjolbgnkpjpaaBas
namespace Go.Proofs.Ytbkjolbgnkpjpaa
open Go.RowKit

theorem isPerson_any (n : Int) (w : World) :
    Calls Try.prog 40 #[.int .i64 n] w fun e w' => e = .returned (.bool (inB n 0 6)) ∧ Below w.heap.size w w' := by
  go_enter Try.func40, Try.ntmps40
  go_wp2_with fail
  refine (in_any _ _ _ _).mono ?_
  rintro e w2 ⟨rfl, hB2⟩
  go_wp2
  go_ret
  exact ⟨rfl, hB2⟩
end Go.Proofs.Ytbkjolbgnkpjpaa
