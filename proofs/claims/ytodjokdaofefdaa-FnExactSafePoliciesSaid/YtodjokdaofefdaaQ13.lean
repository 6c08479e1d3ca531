/- Schemas and policies, as arguments. -/
import Derived.Test.YtodjokdaofefdaaQ12
import Derived.Test.YtodjokdaofefdaaQ9
namespace Go.Proofs.Ytodjokdaofefdaa
set_option linter.unusedSimpArgs false
set_option linter.unusedVariables false
open Go.RowKit

def KdW (_ : World) (a : Kd2) (cs : List Value) : Prop := cs = kdEnc a ∧ a.1.size ≤ 9223372036854775807
theorem opens_lKinded : Opens Try.prog 151 2 KdW := by
  have h := opens_struct Try.underlying151 (by kernel_rfl) (from_cons rfl rfl (opens_str Try.underlying9) (by kernel_rfl) (from_cons rfl rfl (opens_int Try.underlying3) (by kernel_rfl) from_nil))
  exact Opens.map h (fun a => (a.1, a.2.1)) (by rintro w ⟨a0, a1, _⟩ cs ⟨c0, d0, rfl, ⟨rfl, hs⟩, ⟨c1, d1, rfl, ⟨rfl, _⟩, rfl⟩⟩; exact ⟨rfl, hs⟩)
theorem opens_lKindeds : Opens Try.prog 59 1 (SliceR KdW 2) := opens_slice Try.underlying59 opens_lKinded (by kernel_rfl) (by decide)
theorem rd_kd {w : World} {A : Option Addr} {l : KdL} (h : RdL KdW 2 w A l) : kdR w A l ∧ WfKd l := by
  constructor
  · refine ⟨h.1, fun hn => ?_⟩
    obtain ⟨b, off, e, hc⟩ := h.2 hn
    refine ⟨b, off, e, fun k hk => ?_⟩
    obtain ⟨cs, h1, ⟨h2, _⟩, h3⟩ := hc k hk
    exact ⟨cs, h1, h2, h3⟩
  · intro v hv
    obtain ⟨k, hk, rfl⟩ := List.getElem_of_mem hv
    obtain ⟨b, off, e, hc⟩ := h.2 (by omega)
    obtain ⟨cs, h1, ⟨_, h2⟩, h3⟩ := hc k hk
    exact h2
def ScW (w : World) (s : Sc) (cs : List Value) : Prop := ∃ A0 c0 A1 c1, cs = [.slice A0 s.1.length c0, .slice A1 s.2.length c1] ∧ scR w A0 A1 s ∧ scZ s
theorem opens_lSchema : Opens Try.prog 61 2 ScW := by
  have h := opens_struct Try.underlying61 (by kernel_rfl) (from_cons rfl rfl opens_lKindeds (by kernel_rfl) (from_cons rfl rfl opens_lKindeds (by kernel_rfl) from_nil))
  exact Opens.map h (fun a => (a.1, a.2.1)) (by
    rintro w ⟨a0, a1, _⟩ cs ⟨e0, d0, rfl, ⟨A0, c0, rfl, h0⟩, ⟨e1, d1, rfl, ⟨A1, c1, rfl, h1⟩, rfl⟩⟩
    exact ⟨A0, c0, A1, c1, rfl, ⟨(rd_kd h0).1, (rd_kd h1).1⟩, (rd_kd h0).2, (rd_kd h1).2⟩)
def PoW0 (w : World) (p : Po) (cs : List Value) : Prop := ∃ d, PoR d 0 w.heap.size w p cs
theorem opens_lPolicy : Opens Try.prog 63 9 PoW0 := by
  have h := opens_struct Try.underlying63 (by kernel_rfl) (from_cons rfl rfl (opens_str Try.underlying9) (by kernel_rfl) (from_cons rfl rfl (opens_bool Try.underlying4) (by kernel_rfl) (from_cons rfl rfl (opens_int Try.underlying3) (by kernel_rfl) (from_cons rfl rfl (opens_int Try.underlying3) (by kernel_rfl) (from_cons rfl rfl (opens_int Try.underlying3) (by kernel_rfl) (from_cons rfl rfl opens_lExpr (by kernel_rfl) from_nil))))))
  exact Opens.map h (fun a => (⟨a.1, a.2.1, a.2.2.1, a.2.2.2.1, a.2.2.2.2.1, a.2.2.2.2.2.1⟩ : Po)) (by
    rintro w ⟨a0, a1, a2, a3, a4, a5, _⟩ cs ⟨e0, d0, rfl, ⟨rfl, hs⟩, ⟨e1, d1, rfl, rfl, ⟨e2, d2, rfl, ⟨rfl, _⟩, ⟨e3, d3, rfl, ⟨rfl, _⟩, ⟨e4, d4, rfl, ⟨rfl, _⟩, ⟨e5, d5, rfl, ⟨d, hx⟩, rfl⟩⟩⟩⟩⟩⟩
    cases d with
    | zero => exact hx.elim
    | succ m =>
      obtain ⟨A, c, rfl, h1, h2, h3⟩ := hx
      exact ⟨m, A, c, rfl, ⟨h1, h2⟩, h3, hs⟩)
theorem opens_lPolicies : Opens Try.prog 71 1 (SliceR PoW0 9) := opens_slice Try.underlying71 opens_lPolicy (by kernel_rfl) (by decide)
theorem rd_po {w : World} {A : Option Addr} {l : PoL} (h : RdL PoW0 9 w A l) : ∃ d, poW d w A l := by
  by_cases hn : 0 < l.length
  · obtain ⟨b, off, e, hc⟩ := h.2 hn
    have key : ∀ n, n ≤ l.length → ∃ d, ∀ k (hk : k < l.length), k < n → ∃ cs : List Value, cs.length = 9 ∧ PoR d 0 w.heap.size w l[k] cs ∧ ∀ j v, cs[j]? = some v → w.cell? ⟨b, off + k * 9 + j, none⟩ = some v := by
      intro n
      induction n with
      | zero => exact fun _ => ⟨0, fun k _ h => by omega⟩
      | succ n ih =>
        intro hle
        obtain ⟨d, hd⟩ := ih (by omega)
        obtain ⟨cs, h1, ⟨d', h2⟩, h3⟩ := hc n (by omega)
        refine ⟨max d d', fun k hk hkn => ?_⟩
        by_cases e : k = n
        · subst e
          exact ⟨cs, h1, h2.deeper (Nat.le_max_right _ _), h3⟩
        · obtain ⟨cs', g1, g2, g3⟩ := hd k hk (by omega)
          exact ⟨cs', g1, g2.deeper (Nat.le_max_left _ _), g3⟩
    obtain ⟨d, hd⟩ := key l.length (Nat.le_refl _)
    refine ⟨d, ⟨h.1, fun _ => ⟨b, off, e, fun k hk => hd k hk hk⟩⟩, fun _ a ha => ⟨Nat.zero_le _, ?_⟩⟩
    rw [e] at ha
    cases ha
    obtain ⟨cs, h1, _, h3⟩ := hd 0 hn hn
    have h4 := h3 0 (cs[0]'(by omega)) (List.getElem?_eq_getElem _)
    have h5 := block_lt_of_cell h4
    simpa using h5
  · exact ⟨0, ⟨h.1, fun h0 => absurd h0 hn⟩, fun h0 => absurd h0 hn⟩
end Go.Proofs.Ytodjokdaofefdaa
