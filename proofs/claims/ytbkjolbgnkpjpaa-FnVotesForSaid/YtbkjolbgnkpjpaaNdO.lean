/- Needs and votes, as arguments. -/
import Derived.Test.YtbkjolbgnkpjpaaNdC
import Derived.Test.YtbkjolbgnkpjpaaOpen
namespace Go.Proofs.Ytbkjolbgnkpjpaa
open Go.RowKit

theorem opens_ints : Opens Try.prog 23 1 (SliceR (Flat ilEnc) 1) :=
  opens_slice Try.underlying23 ((opens_int Try.underlying3).map (fun a => a) (by rintro w a cs ⟨rfl, _⟩; rfl)) (by kernel_rfl) (by decide)
def NdR (w : World) (a : IL × Int × Int) (cs : List Value) : Prop := ∃ A c, cs = [.slice A a.1.length c, .int .i64 a.2.1, .int .i64 a.2.2] ∧ ilR w A a.1
theorem opens_lNeed : Opens Try.prog 30 3 NdR := by
  have h := opens_struct Try.underlying30 (by kernel_rfl) (from_cons rfl rfl opens_ints (by kernel_rfl) (from_cons rfl rfl (opens_int Try.underlying3) (by kernel_rfl) (from_cons rfl rfl (opens_int Try.underlying3) (by kernel_rfl) from_nil)))
  exact Opens.map h (fun a => (a.1, a.2.1, a.2.2.1)) (by rintro w ⟨a0, a1, a2, _⟩ cs ⟨c0, d0, rfl, ⟨A, c, rfl, hr⟩, ⟨c1, d1, rfl, ⟨rfl, _⟩, ⟨c2, d2, rfl, ⟨rfl, _⟩, rfl⟩⟩⟩; exact ⟨A, c, rfl, hr⟩)
def VoW (_ : World) (a : Int × Bool) (cs : List Value) : Prop := cs = voEnc a ∧ WfI a.1
theorem opens_lVote : Opens Try.prog 62 2 VoW := by
  have h := opens_struct Try.underlying62 (by kernel_rfl) (from_cons rfl rfl (opens_int Try.underlying3) (by kernel_rfl) (from_cons rfl rfl (opens_bool Try.underlying4) (by kernel_rfl) from_nil))
  exact Opens.map h (fun a => (a.1, a.2.1)) (by
    rintro w ⟨a0, a1, _⟩ cs ⟨c0, d0, rfl, ⟨rfl, h1, h2⟩, ⟨c1, d1, rfl, rfl, rfl⟩⟩
    refine ⟨rfl, ?_⟩
    simp only [WfI, Lit.wf, Bool.and_eq_true, decide_eq_true_eq]
    exact ⟨h1, h2⟩)
theorem opens_lVotes : Opens Try.prog 44 1 (SliceR VoW 2) := opens_slice Try.underlying44 opens_lVote (by kernel_rfl) (by decide)
theorem rd_vo {w : World} {A : Option Addr} {l : VoL} (h : RdL VoW 2 w A l) : voR w A l ∧ WfV l := by
  constructor
  · refine ⟨h.1, fun hn => ?_⟩
    obtain ⟨b, off, e, hc⟩ := h.2 hn
    refine ⟨b, off, e, fun k hk => ?_⟩
    obtain ⟨cs, h1, ⟨h2, _⟩, h3⟩ := hc k hk
    exact ⟨cs, h1, h2, h3⟩
  · intro v hv
    obtain ⟨k, hk, rfl⟩ := List.getElem_of_mem hv
    obtain ⟨b, off, e, hc⟩ := h.2 (by omega)
    obtain ⟨cs, _, ⟨_, h2⟩, _⟩ := hc k hk
    exact h2
end Go.Proofs.Ytbkjolbgnkpjpaa
