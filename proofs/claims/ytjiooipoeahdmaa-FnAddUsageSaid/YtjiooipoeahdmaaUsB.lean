/- impl.UsagesValid -/
import Derived.Test.YtjiooipoeahdmaaUsA
namespace Go.Proofs.Ytjiooipoeahdmaa
open Go.RowKit

set_option maxHeartbeats 1000000 in
theorem implUsagesValid {A : Option Addr} {us : List (Int × Int)} {c : Nat} {w : World} (hU : Us w A us) :
    Calls Try.prog 12 #[.slice A us.length c] w fun e w' => e = .returned (.bool (usOk us)) ∧ Below w.heap.size w w' := by
  have hl := hU.len
  go_enter Try.func12, Try.ntmps12
  go_wp2
  go_loopw [7] (fun i wr => ∃ k : Nat, k ≤ us.length ∧ i = .int .i64 k ∧ (∀ j, j < k → usGood us j) ∧ Below w.heap.size w wr) (fun i _ => us.length - (intOf i).toNat)
  case atStart => exact ⟨0, Nat.zero_le _, rfl, fun j h => by omega, Below.refl _ _⟩
  case round =>
    obtain ⟨k, hk, rfl, hgood, hB⟩ := hrel
    have HG := Lib.hid hgood
    clear hgood
    by_cases hlt : k < us.length
    · obtain ⟨b, off, rfl, hc⟩ := hU.cells (by omega)
      obtain ⟨c1, c2⟩ := hc k hlt
      have m1 := below_cell hB c1
      have m2 := below_cell hB c2
      obtain ⟨c3, _⟩ := hc (k-1) (by omega)
      have hB1 := below_alloc wr (.cells #[.int .i64 (uAt us k), .int .i64 (uMuch us k)] 32)
      have k3 := cell_regrown (below_cell hB1 (below_cell hB c3))
      have x0 := cell_regrown (box_cell wr #[.int .i64 (uAt us k), .int .i64 (uMuch us k)] 32 0 _ rfl)
      have x1 := cell_regrown (box_cell wr #[.int .i64 (uAt us k), .int .i64 (uMuch us k)] 32 1 _ rfl)
      clear c1 c2 c3
      rcases us_cases us k with g1 | ⟨g1, g2 | ⟨g2, g3 | ⟨g3, g4 | g4⟩⟩⟩
      all_goals
        go_wp2
        refine wp_region_quiet_below (by kernel_rfl) (by kernel_rfl) ?_
        repeat (go_big_quiet_step (first | (go_at_call 27; exact Calls.regrown_of (isTime_any _ _)) | (go_at_call 28; exact Calls.regrown_of (in_any _ _ _ _))))
        refine wpQuiet_nil ?_
        intro w2 hw'regrown
        replace hB := (hB.trans (hB1.mono hB.size)).trans (below_of_regrown hw'regrown (Nat.le_trans hB.size hB1.size))
        clear hw'regrown
        go_wp2
      · go_ret
        exact ⟨ret_bool (usOk_no hlt (by simp [usGood, g1])), hB⟩
      · go_ret
        exact ⟨ret_bool (usOk_no hlt (by simp [usGood, g2])), hB⟩
      · go_round
        case rel => exact ⟨k + 1, by omega, by go_num, all_succ HG.out ⟨g1, g2, fun h => absurd h g3⟩, hB⟩
        case measure => simp [intOf]; omega
      · go_ret
        exact ⟨ret_bool (usOk_no hlt (by simp [usGood]; omega)), hB⟩
      · go_round
        case rel => exact ⟨k + 1, by omega, by go_num, all_succ HG.out ⟨g1, g2, fun h => by omega⟩, hB⟩
        case measure => simp [intOf]; omega
    · go_wp2
      go_ret
      exact ⟨ret_bool (usOk_yes (by obtain rfl : k = us.length := by omega
                                    exact HG.out)), hB⟩
end Go.Proofs.Ytjiooipoeahdmaa
