/- a slice of hours, as an argument -/
import Derived.Test.YticiggciigmhaaaHrT
import Derived.Test.YticiggciigmhaaaOpen
namespace Go.Proofs.Yticiggciigmhaaa
open Go.RowKit

theorem opens_lHours : Opens Try.prog 43 3 (Flat hrEnc) := by
  have h := opens_struct Try.underlying43 (by kernel_rfl) (from_cons rfl rfl (opens_int Try.underlying3) (by kernel_rfl) (from_cons rfl rfl (opens_int Try.underlying3) (by kernel_rfl) (from_cons rfl rfl (opens_int Try.underlying3) (by kernel_rfl) from_nil)))
  exact Opens.map h (fun a => (a.1, a.2.1, a.2.2.1)) (by rintro w ⟨a0, a1, a2, _⟩ cs ⟨c0, d0, rfl, ⟨rfl, _⟩, ⟨c1, d1, rfl, ⟨rfl, _⟩, ⟨c2, d2, rfl, ⟨rfl, _⟩, rfl⟩⟩⟩; rfl)
theorem opens_lHourss : Opens Try.prog 22 1 (SliceR (Flat hrEnc) 3) := opens_slice Try.underlying22 opens_lHours (by kernel_rfl) (by decide)
end Go.Proofs.Yticiggciigmhaaa
