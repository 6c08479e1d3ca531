/- visits and stays, as arguments -/
import Derived.Test.YtflhmkpabhedjaaViT
import Derived.Test.YtflhmkpabhedjaaStT
import Derived.Test.YtflhmkpabhedjaaOpen
namespace Go.Proofs.Ytflhmkpabhedjaa
open Go.RowKit

theorem opens_lVisit : Opens Try.prog 52 3 (Flat viEnc) := by
  have h := opens_struct Try.underlying52 (by kernel_rfl) (from_cons rfl rfl (opens_int Try.underlying3) (by kernel_rfl) (from_cons rfl rfl (opens_int Try.underlying3) (by kernel_rfl) (from_cons rfl rfl (opens_int Try.underlying3) (by kernel_rfl) from_nil)))
  exact Opens.map h (fun a => (a.1, a.2.1, a.2.2.1)) (by rintro w ⟨a0, a1, a2, _⟩ cs ⟨c0, d0, rfl, ⟨rfl, _⟩, ⟨c1, d1, rfl, ⟨rfl, _⟩, ⟨c2, d2, rfl, ⟨rfl, _⟩, rfl⟩⟩⟩; rfl)
theorem opens_lVisits : Opens Try.prog 24 1 (SliceR (Flat viEnc) 3) := opens_slice Try.underlying24 opens_lVisit (by kernel_rfl) (by decide)
theorem opens_lStay : Opens Try.prog 23 2 (Flat stEnc) := by
  have h := opens_struct Try.underlying23 (by kernel_rfl) (from_cons rfl rfl (opens_int Try.underlying3) (by kernel_rfl) (from_cons rfl rfl (opens_int Try.underlying3) (by kernel_rfl) from_nil))
  exact Opens.map h (fun a => (a.1, a.2.1)) (by rintro w ⟨a0, a1, _⟩ cs ⟨c0, d0, rfl, ⟨rfl, _⟩, ⟨c1, d1, rfl, ⟨rfl, _⟩, rfl⟩⟩; rfl)
end Go.Proofs.Ytflhmkpabhedjaa
