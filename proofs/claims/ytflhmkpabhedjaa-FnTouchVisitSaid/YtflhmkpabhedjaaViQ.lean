/- sameVisits, of the laws. -/
import Derived.Test.YtflhmkpabhedjaaViM
namespace Go.Proofs.Ytflhmkpabhedjaa
open Go.RowKit

theorem vi_trips (us vs : ViL) (k : Nat) : ((vi0 us k == vi0 vs k) = true ∧ (vi1 us k == vi1 vs k) = true ∧ (vi2 us k == vi2 vs k) = true ∧ sameB (vi0 us k, vi1 us k, vi2 us k) (vi0 vs k, vi1 vs k, vi2 vs k) = true) ∨
    ((vi0 us k == vi0 vs k) = false ∧ sameB (vi0 us k, vi1 us k, vi2 us k) (vi0 vs k, vi1 vs k, vi2 vs k) = false) ∨
    ((vi0 us k == vi0 vs k) = true ∧ (vi1 us k == vi1 vs k) = false ∧ sameB (vi0 us k, vi1 us k, vi2 us k) (vi0 vs k, vi1 vs k, vi2 vs k) = false) ∨
    ((vi0 us k == vi0 vs k) = true ∧ (vi1 us k == vi1 vs k) = true ∧ (vi2 us k == vi2 vs k) = false ∧ sameB (vi0 us k, vi1 us k, vi2 us k) (vi0 vs k, vi1 vs k, vi2 vs k) = false) := by
  simp only [sameB_true, sameB_false, beq_iff_eq, beq_eq_false_iff_ne, Prod.mk.injEq, ne_eq]
  omega

set_option maxHeartbeats 2000000 in
theorem sameVisits_any {A A' : Option Addr} {us vs : ViL} {c c' : Nat} {w : World} (hU : viR w A us) (hV : viR w A' vs) :
    Calls Try.prog 24 #[.slice A us.length c, .slice A' vs.length c'] w fun e w' => e = .returned (.bool (sameB us vs)) ∧ Below w.heap.size w w' := by
  have hl := hU.len
  have hl' := hV.len
  by_cases hlen : us.length = vs.length
  · have HL := Lib.hid hlen
    have hlen1 : ((us.length : Int) != vs.length) = false := by simp [hlen]
    clear hlen
    go_enter Try.func24, Try.ntmps24
    go_wp2
    go_loopw [5] (fun i wr => ∃ k : Nat, k ≤ us.length ∧ i = .int .i64 k ∧ Below w.heap.size w wr ∧ (∀ j, j < k → (vi0 us j, vi1 us j, vi2 us j) = (vi0 vs j, vi1 vs j, vi2 vs j))) (fun i _ => us.length - (intOf i).toNat)
    case atStart => exact ⟨0, Nat.zero_le _, rfl, Below.refl _ _, fun j h => by omega⟩
    case round =>
      obtain ⟨k, hk, rfl, hB, hgood⟩ := hrel
      have HG := Lib.hid hgood
      clear hgood
      by_cases hlt : k < us.length
      · have hlt' : k < vs.length := by rw [← HL.out]; exact hlt
        obtain ⟨b, off, rfl, hc⟩ := hU.cells (by omega)
        obtain ⟨b', off', rfl, hc'⟩ := hV.cells (by omega)
        obtain ⟨c1, c2, c3⟩ := hc k hlt
        obtain ⟨d1, d2, d3⟩ := hc' k hlt'
        have m1 := cell_regrown (below_cell hB c1)
        have m2 := cell_regrown (below_cell hB c2)
        have m3 := cell_regrown (below_cell hB c3)
        have n1 := cell_regrown (below_cell hB d1)
        have n2 := cell_regrown (below_cell hB d2)
        have n3 := cell_regrown (below_cell hB d3)
        clear c1 c2 c3 d1 d2 d3 hc hc'
        rcases vi_trips us vs k with ⟨g1, g2, g3, g⟩ | ⟨g1, g⟩ | ⟨g1, g2, g⟩ | ⟨g1, g2, g3, g⟩
        all_goals
          go_wp2
          refine wp_region_quiet_below (by kernel_rfl) (by kernel_rfl) ?_
          repeat (go_big_quiet_step (fail))
          refine wpQuiet_nil ?_
          intro w2 hw'regrown
          replace hB := ext_trans hB (below_of_regrown hw'regrown (Nat.le_refl _))
          clear hw'regrown
          go_wp2
        · go_roundw
          case rel => exact ⟨k + 1, by omega, by go_num, hB, all_succ HG.out (sameB_true.1 g)⟩
          case measure => simp [intOf]; omega
        all_goals
          go_ret
          exact ⟨ret_bool (vi_differ hlt hlt' (sameB_false.1 g)), hB⟩
      · obtain rfl : k = us.length := by omega
        go_wp2
        go_ret
        exact ⟨ret_bool (vi_same HL.out HG.out), hB⟩
  · have hlen1 : ((us.length : Int) != vs.length) = true := by simp; omega
    have HL := Lib.hid hlen
    clear hlen
    go_enter Try.func24, Try.ntmps24
    go_wp2
    go_ret
    exact ⟨ret_bool (by rw [eq_comm, sameB_false]; rintro rfl; exact HL.out rfl), Below.refl _ _⟩
end Go.Proofs.Ytflhmkpabhedjaa
