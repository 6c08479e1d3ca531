/- Rules of a list, as arguments. -/
import Derived.Test.YtpmelhkhmichcaaDoorRuS
import Derived.Test.YtpmelhkhmichcaaDoorOpen
namespace Go.Proofs.YtpmelhkhmichcaaDoor
set_option linter.unusedSimpArgs false
set_option linter.unusedVariables false
open Go.RowKit

def RuW (_ : World) (a : ByteArray × Int × Bool) (cs : List Value) : Prop := cs = ruEnc a ∧ a.1.size ≤ 9223372036854775807
theorem opens_lRule : Opens Tryd.prog 52 3 RuW := by
  have h := opens_struct Tryd.underlying52 (by kernel_rfl) (from_cons rfl rfl (opens_str Tryd.underlying9) (by kernel_rfl) (from_cons rfl rfl (opens_int Tryd.underlying3) (by kernel_rfl) (from_cons rfl rfl (opens_bool Tryd.underlying4) (by kernel_rfl) from_nil)))
  exact Opens.map h (fun a => (a.1, a.2.1, a.2.2.1)) (by rintro w ⟨a0, a1, a2, _⟩ cs ⟨c0, d0, rfl, ⟨rfl, hs⟩, ⟨c1, d1, rfl, ⟨rfl, _⟩, ⟨c2, d2, rfl, rfl, rfl⟩⟩⟩; exact ⟨rfl, hs⟩)
theorem opens_lRules : Opens Tryd.prog 34 1 (SliceR RuW 3) := opens_slice Tryd.underlying34 opens_lRule (by kernel_rfl) (by decide)
theorem rd_ru {w : World} {A : Option Addr} {l : RuL} (h : RdL RuW 3 w A l) : ruR w A l ∧ WfRu l := by
  constructor
  · refine ⟨h.1, fun hn => ?_⟩
    obtain ⟨b, off, e, hc⟩ := h.2 hn
    refine ⟨b, off, e, fun k hk => ?_⟩
    obtain ⟨cs, h1, ⟨h2, _⟩, h3⟩ := hc k hk
    exact ⟨cs, h1, h2, h3⟩
  · intro v hv
    obtain ⟨k, hk, rfl⟩ := List.getElem_of_mem hv
    obtain ⟨b, off, e, hc⟩ := h.2 (by omega)
    obtain ⟨cs, h1, ⟨_, h2⟩, h3⟩ := hc k hk
    exact h2
end Go.Proofs.YtpmelhkhmichcaaDoor
