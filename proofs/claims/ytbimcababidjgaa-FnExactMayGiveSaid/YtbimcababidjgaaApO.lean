/- Rules on roles, as arguments. -/
import Derived.Test.YtbimcababidjgaaApT
import Derived.Test.YtbimcababidjgaaOpen
namespace Go.Proofs.Ytbimcababidjgaa
set_option linter.unusedSimpArgs false
set_option linter.unusedVariables false
open Go.RowKit

theorem opens_ints : Opens Try.prog 24 1 (SliceR (Flat ilEnc) 1) :=
  opens_slice Try.underlying24 ((opens_int Try.underlying3).map (fun a => a) (by rintro w a cs ⟨rfl, _⟩; rfl)) (by kernel_rfl) (by decide)
def ApW (w : World) (r : Ap) (cs : List Value) : Prop := ∃ A c, cs = apCells r (.slice A (apf0 r).length c) ∧ ilR w A (apf0 r)
theorem opens_lApart : Opens Try.prog 62 2 ApW := by
  have h := opens_struct Try.underlying62 (by kernel_rfl) (from_cons rfl rfl opens_ints (by kernel_rfl) (from_cons rfl rfl (opens_int Try.underlying3) (by kernel_rfl) from_nil))
  exact Opens.map h (fun a => (a.1, a.2.1)) (by rintro w ⟨a0, a1, _⟩ cs ⟨c0, d0, rfl, ⟨A, c, rfl, hr⟩, ⟨c1, d1, rfl, ⟨rfl, _⟩, rfl⟩⟩; exact ⟨A, c, rfl, hr⟩)
theorem opens_lAparts : Opens Try.prog 31 1 (SliceR ApW 2) := opens_slice Try.underlying31 opens_lApart (by kernel_rfl) (by decide)
theorem rd_ap {w : World} {A : Option Addr} {l : ApL} (h : RdL ApW 2 w A l) : apR w A l := by
  refine ⟨h.1, fun hn => ?_⟩
  obtain ⟨b, off, e, hc⟩ := h.2 hn
  refine ⟨b, off, e, fun k hk => ?_⟩
  obtain ⟨cs, h1, ⟨A', c', h2, h4⟩, h3⟩ := hc k hk
  exact ⟨cs, h1, ⟨A', c', h2, h4, fun h0 a ha => rdl_lt (by decide) h4 h0 a ha⟩, h3⟩
end Go.Proofs.Ytbimcababidjgaa
