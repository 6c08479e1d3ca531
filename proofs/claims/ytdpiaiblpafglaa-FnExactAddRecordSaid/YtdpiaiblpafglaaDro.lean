/- The reader of codes: odd and open. -/
import Derived.Test.YtdpiaiblpafglaaDrw
namespace Go.Proofs.Ytdpiaiblpafglaa
set_option linter.unusedSimpArgs false
set_option linter.unusedVariables false
open Go.RowKit

def OddPost (w : World) (br cb : Nat) (p : Int) (e : Ending) (w' : World) : Prop :=
  ∃ (x : Bool) (p' : Int), e = .returned (.bool x) ∧ p ≤ p' ∧ p' ≤ p + 1 ∧ Rdr w' br cb p' ∧ w.grownBy w' (some br)

set_option maxHeartbeats 1000000 in
theorem odd_any {br cb : Nat} {p n : Int} {w : World} (hR : Rdr w br cb p) (hp0 : 0 ≤ p) (hp1 : p ≤ 1000000000) (hn0 : 0 ≤ n) (hn : n ≤ 1000000) :
    Calls Try.prog 58 #[.pointer (some ⟨br, 0, Option.none⟩), .int .i64 n] w (OddPost w br cb p) := by
  by_cases h : 0 < n
  · go_enter Try.func58, Try.ntmps58
    go_wp2_with fail
    refine (pick_any hR hp0 hp1 hn).mono ?_
    rintro e w1 ⟨x, rfl, hx0, hx1, _, hR1, hG1⟩
    go_wp2
    all_goals
      go_ret
      exact ⟨_, p + 1, rfl, by omega, by omega, hR1, hG1⟩
  · obtain rfl : n = 0 := by omega
    go_enter Try.func58, Try.ntmps58
    go_wp2
    go_ret
    exact ⟨_, p, rfl, by omega, by omega, hR, World.grownBy.refl _ _⟩

/-- A code that came in. -/
def CodeR (w : World) (cb : Nat) (A : Option Addr) (l : List Int) : Prop :=
  l.length ≤ 9223372036854775807 ∧ (0 < l.length → ∃ b off, A = some ⟨b, off, Option.none⟩ ∧ b < cb ∧ ∀ k, k < l.length → ∃ u : Int, (0 ≤ u ∧ u ≤ 255) ∧ w.cell? ⟨b, off + k, Option.none⟩ = some (.int .u8 u))
theorem CodeR.below {w w' : World} {cb : Nat} {A : Option Addr} {l : List Int} (h : CodeR w cb A l) (hb : Below w.heap.size w w') : CodeR w' cb A l :=
  ⟨h.1, fun hn => let ⟨b, off, e, hb0, hc⟩ := h.2 hn; ⟨b, off, e, hb0, fun k hk => let ⟨u, hu, hcu⟩ := hc k hk; ⟨u, hu, below_cell hb hcu⟩⟩⟩
theorem rdr_new {w : World} {cb : Nat} {A : Option Addr} {n c : Nat} {l : List Int} (hcb : cb ≤ w.heap.size) (h : CodeR w cb A l) (hn : n ≤ 2000) (hnl : n ≤ l.length) : Rdr (w.alloc (.cells #[.slice A n c, .int .i64 0] 82)) w.heap.size cb 0 := by
  refine ⟨hcb, A, n, c, heap_alloc_new w _, hn, fun h0 => ?_⟩
  obtain ⟨b, off, e, hb0, hc⟩ := h.2 (by omega)
  refine ⟨b, off, e, hb0, fun k hk => ?_⟩
  · obtain ⟨u, hu, hcu⟩ := hc k (by omega)
    exact ⟨u, hu, below_cell (below_alloc w _) hcu⟩

set_option maxHeartbeats 1000000 in
theorem l20Open_any {A : Option Addr} {l : List Int} {c cb : Nat} {w : World} (hcb : cb ≤ w.heap.size) (hC : CodeR w cb A l) (hc : l.length ≤ c) (hl : l.length ≤ 9223372036854775807) :
    Calls Try.prog 38 #[.slice A l.length c] w fun e w' => e = .returned (.pointer (some ⟨w.heap.size, 0, Option.none⟩)) ∧ Rdr w' w.heap.size cb 0 ∧ Below w.heap.size w w' := by
  by_cases h : 2000 < l.length
  · obtain ⟨b, off, rfl, _⟩ := hC.2 (by omega)
    go_enter Try.func38, Try.ntmps38
    go_wp2
    go_ret
    exact ⟨rfl, rdr_new hcb hC (by omega) (by omega), below_alloc _ _⟩
  · go_enter Try.func38, Try.ntmps38
    go_wp2
    go_ret
    exact ⟨rfl, rdr_new hcb hC (by omega) (by omega), below_alloc _ _⟩
end Go.Proofs.Ytdpiaiblpafglaa
