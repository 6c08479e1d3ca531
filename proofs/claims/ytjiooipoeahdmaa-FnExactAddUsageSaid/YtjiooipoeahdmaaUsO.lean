/- a slice of uses, as an argument of a law -/
import Derived.Test.YtjiooipoeahdmaaUsA
import Derived.Test.YtjiooipoeahdmaaOpen
namespace Go.Proofs.Ytjiooipoeahdmaa
open Go.ChangeShapes Go.WideShapes Go.ChangeAt Go.RowKit

theorem opens_lUsage : Opens Try.prog 39 2 (Flat usEnc) := by
  have h := opens_struct Try.underlying39 (by kernel_rfl) (from_cons rfl rfl (opens_int Try.underlying3) (by kernel_rfl) (from_cons rfl rfl (opens_int Try.underlying3) (by kernel_rfl) from_nil))
  exact Opens.map h (fun a => (a.1, a.2.1)) (by rintro w ⟨a, b, _⟩ cs ⟨c0, c1, rfl, ⟨rfl, _⟩, c2, c3, rfl, ⟨rfl, _⟩, rfl⟩; rfl)
theorem opens_lUsages : Opens Try.prog 22 1 (SliceR (Flat usEnc) 2) := opens_slice Try.underlying22 opens_lUsage (by kernel_rfl) (by decide)
end Go.Proofs.Ytjiooipoeahdmaa
