/- Records, requests and fields, as arguments. -/
import Derived.Test.YtdpiaiblpafglaaRcI
import Derived.Test.YtdpiaiblpafglaaOpen
namespace Go.Proofs.Ytdpiaiblpafglaa
set_option linter.unusedSimpArgs false
set_option linter.unusedVariables false
open Go.RowKit

def FdW (_ : World) (a : Fd) (cs : List Value) : Prop := cs = fdEnc a ∧ a.1.size ≤ 9223372036854775807
theorem opens_lValue : Opens Try.prog 87 2 (fun _ (a : Int × Int) cs => cs = [.int .i64 a.1, .int .i64 a.2]) := by
  have h := opens_struct Try.underlying87 (by kernel_rfl) (from_cons rfl rfl (opens_int Try.underlying3) (by kernel_rfl) (from_cons rfl rfl (opens_int Try.underlying3) (by kernel_rfl) from_nil))
  exact Opens.map h (fun a => (a.1, a.2.1)) (by rintro w ⟨a0, a1, _⟩ cs ⟨c0, d0, rfl, ⟨rfl, _⟩, ⟨c1, d1, rfl, ⟨rfl, _⟩, rfl⟩⟩; rfl)
theorem opens_lField : Opens Try.prog 89 3 FdW := by
  have h := opens_struct Try.underlying89 (by kernel_rfl) (from_cons rfl rfl (opens_str Try.underlying9) (by kernel_rfl) (from_cons rfl rfl opens_lValue (by kernel_rfl) from_nil))
  exact Opens.map h (fun a => (a.1, a.2.1.1, a.2.1.2)) (by rintro w ⟨a0, ⟨a1, a2⟩, _⟩ cs ⟨c0, d0, rfl, ⟨rfl, hs⟩, ⟨c1, d1, rfl, rfl, rfl⟩⟩; exact ⟨rfl, hs⟩)
theorem opens_lFields : Opens Try.prog 36 1 (SliceR FdW 3) := opens_slice Try.underlying36 opens_lField (by kernel_rfl) (by decide)
theorem rd_fd {w : World} {A : Option Addr} {l : FdL} (h : RdL FdW 3 w A l) : fdR w A l ∧ WfFd l := by
  constructor
  · refine ⟨h.1, fun hn => ?_⟩
    obtain ⟨b, off, e, hc⟩ := h.2 hn
    refine ⟨b, off, e, fun k hk => ?_⟩
    obtain ⟨cs, h1, ⟨h2, _⟩, h3⟩ := hc k hk
    exact ⟨cs, h1, h2, h3⟩
  · intro v hv
    obtain ⟨k, hk, rfl⟩ := List.getElem_of_mem hv
    obtain ⟨b, off, e, hc⟩ := h.2 (by omega)
    obtain ⟨cs, h1, ⟨_, h2⟩, h3⟩ := hc k hk
    exact h2
def RqW (w : World) (a : Rq) (cs : List Value) : Prop := ∃ A c, cs = [.int .i64 a.1, .int .i64 a.2.1, .int .i64 a.2.2.1, .slice A a.2.2.2.length c] ∧ RdL FdW 3 w A a.2.2.2
theorem opens_lRequest : Opens Try.prog 38 4 RqW := by
  have h := opens_struct Try.underlying38 (by kernel_rfl) (from_cons rfl rfl (opens_int Try.underlying3) (by kernel_rfl) (from_cons rfl rfl (opens_int Try.underlying3) (by kernel_rfl) (from_cons rfl rfl (opens_int Try.underlying3) (by kernel_rfl) (from_cons rfl rfl opens_lFields (by kernel_rfl) from_nil))))
  exact Opens.map h (fun a => (a.1, a.2.1, a.2.2.1, a.2.2.2.1)) (by
    rintro w ⟨a0, a1, a2, a3, _⟩ cs ⟨c0, d0, rfl, ⟨rfl, _⟩, ⟨c1, d1, rfl, ⟨rfl, _⟩, ⟨c2, d2, rfl, ⟨rfl, _⟩, ⟨c3, d3, rfl, ⟨A, c, rfl, hr⟩, rfl⟩⟩⟩⟩; exact ⟨A, c, rfl, hr⟩)
def RcW (w : World) (r : Rc) (cs : List Value) : Prop := ∃ A c, cs = [.int .i64 (rtm r), .int .i64 (rwho r), .int .i64 (ract r), .int .i64 (rwhat r), .slice A (rfs r).length c, .bool (ral r), .int .i64 (rsl r)] ∧ fdR w A (rfs r) ∧ WfFd (rfs r)
theorem opens_lRecord : Opens Try.prog 40 7 RcW := by
  have h := opens_struct Try.underlying40 (by kernel_rfl) (from_cons rfl rfl (opens_int Try.underlying3) (by kernel_rfl) (from_cons rfl rfl opens_lRequest (by kernel_rfl) (from_cons rfl rfl (opens_bool Try.underlying4) (by kernel_rfl) (from_cons rfl rfl (opens_int Try.underlying3) (by kernel_rfl) from_nil))))
  exact Opens.map h (fun a => (a.1, a.2.1.1, a.2.1.2.1, a.2.1.2.2.1, a.2.1.2.2.2, a.2.2.1, a.2.2.2.1)) (by
    rintro w ⟨a0, ⟨b0, b1, b2, b3⟩, a2, a3, _⟩ cs ⟨c0, d0, rfl, ⟨rfl, _⟩, ⟨c1, d1, rfl, ⟨A, c, rfl, hr⟩, ⟨c2, d2, rfl, rfl, ⟨c3, d3, rfl, ⟨rfl, _⟩, rfl⟩⟩⟩⟩
    exact ⟨A, c, rfl, rd_fd hr⟩)
theorem opens_lRecords : Opens Try.prog 54 1 (SliceR RcW 7) := opens_slice Try.underlying54 opens_lRecord (by kernel_rfl) (by decide)
theorem rd_rc {w : World} {A : Option Addr} {l : RcL} (h : RdL RcW 7 w A l) : rcR w A l ∧ WfRc l := by
  constructor
  · refine ⟨h.1, fun hn => ?_⟩
    obtain ⟨b, off, e, hc⟩ := h.2 hn
    refine ⟨b, off, e, fun k hk => ?_⟩
    obtain ⟨cs, h1, ⟨A', c', h2, h4, _⟩, h3⟩ := hc k hk
    exact ⟨cs, h1, ⟨A', c', h2, h4, fun h0 a ha => fdR.lt h4 h0 a ha⟩, h3⟩
  · intro v hv
    obtain ⟨k, hk, rfl⟩ := List.getElem_of_mem hv
    obtain ⟨b, off, e, hc⟩ := h.2 (by omega)
    obtain ⟨cs, h1, ⟨A', c', _, _, h2⟩, h3⟩ := hc k hk
    exact h2
end Go.Proofs.Ytdpiaiblpafglaa
