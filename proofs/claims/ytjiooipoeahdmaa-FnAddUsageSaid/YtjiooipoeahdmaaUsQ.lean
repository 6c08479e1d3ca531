/- sameUsages, of the laws. -/
import Derived.Test.YtjiooipoeahdmaaUsC
namespace Go.Proofs.Ytjiooipoeahdmaa
open Go.RowKit

theorem us_pairs (us vs : List (Int × Int)) (k : Nat) : ((uAt us k == uAt vs k) = true ∧ (uMuch us k == uMuch vs k) = true ∧ sameB (uAt us k, uMuch us k) (uAt vs k, uMuch vs k) = true) ∨
    ((uAt us k == uAt vs k) = false ∧ sameB (uAt us k, uMuch us k) (uAt vs k, uMuch vs k) = false) ∨
    ((uAt us k == uAt vs k) = true ∧ (uMuch us k == uMuch vs k) = false ∧ sameB (uAt us k, uMuch us k) (uAt vs k, uMuch vs k) = false) := by
  simp only [sameB_true, sameB_false, beq_iff_eq, beq_eq_false_iff_ne, Prod.mk.injEq, ne_eq]
  omega

set_option maxHeartbeats 1000000 in
theorem sameUsages_any {A A' : Option Addr} {us vs : List (Int × Int)} {c c' : Nat} {w : World} (hU : Us w A us) (hV : Us w A' vs) :
    Calls Try.prog 25 #[.slice A us.length c, .slice A' vs.length c'] w fun e w' => e = .returned (.bool (sameB us vs)) ∧ Below w.heap.size w w' := by
  have hl := hU.len
  have hl' := hV.len
  by_cases hlen : us.length = vs.length
  · have HL := Lib.hid hlen
    have hlen1 : ((us.length : Int) != vs.length) = false := by simp [hlen]
    clear hlen
    go_enter Try.func25, Try.ntmps25
    go_wp2
    go_loopw [5] (fun i wr => ∃ k : Nat, k ≤ us.length ∧ i = .int .i64 k ∧ Below w.heap.size w wr ∧ (∀ j, j < k → (uAt us j, uMuch us j) = (uAt vs j, uMuch vs j))) (fun i _ => us.length - (intOf i).toNat)
    case atStart => exact ⟨0, Nat.zero_le _, rfl, Below.refl _ _, fun j h => by omega⟩
    case round =>
      obtain ⟨k, hk, rfl, hB, hgood⟩ := hrel
      have HG := Lib.hid hgood
      clear hgood
      by_cases hlt : k < us.length
      · have hlt' : k < vs.length := by rw [← HL.out]; exact hlt
        obtain ⟨b, off, rfl, hc⟩ := hU.cells (by omega)
        obtain ⟨b', off', rfl, hc'⟩ := hV.cells (by omega)
        obtain ⟨c1, c2⟩ := hc k hlt
        obtain ⟨d1, d2⟩ := hc' k hlt'
        have m1 := cell_regrown (below_cell hB c1)
        have m2 := cell_regrown (below_cell hB c2)
        have n1 := cell_regrown (below_cell hB d1)
        have n2 := cell_regrown (below_cell hB d2)
        clear c1 c2 d1 d2 hc hc'
        rcases us_pairs us vs k with ⟨g1, g2, g⟩ | ⟨g1, g⟩ | ⟨g1, g2, g⟩
        all_goals
          go_wp2
          refine wp_region_quiet_below (by kernel_rfl) (by kernel_rfl) ?_
          repeat (go_big_quiet_step (fail))
          refine wpQuiet_nil ?_
          intro w2 hw'regrown
          replace hB := ext_trans hB (below_of_regrown hw'regrown (Nat.le_refl _))
          clear hw'regrown
          go_wp2
        · go_roundw
          case rel => exact ⟨k + 1, by omega, by go_num, hB, all_succ HG.out (sameB_true.1 g)⟩
          case measure => simp [intOf]; omega
        · go_ret
          exact ⟨ret_bool (us_differ hlt hlt' (sameB_false.1 g)), hB⟩
        · go_ret
          exact ⟨ret_bool (us_differ hlt hlt' (sameB_false.1 g)), hB⟩
      · obtain rfl : k = us.length := by omega
        go_wp2
        go_ret
        exact ⟨ret_bool (us_same HL.out HG.out), hB⟩
  · have hlen1 : ((us.length : Int) != vs.length) = true := by simp; omega
    have HL := Lib.hid hlen
    clear hlen
    go_enter Try.func25, Try.ntmps25
    go_wp2
    go_ret
    exact ⟨ret_bool (by rw [eq_comm, sameB_false]; rintro rfl; exact HL.out rfl), Below.refl _ _⟩
end Go.Proofs.Ytjiooipoeahdmaa
