/- VisitsValid of the reference. -/
import Derived.Test.YtflhmkpabhedjaaViA
import Derived.Test.YtflhmkpabhedjaaBas
namespace Go.Proofs.Ytflhmkpabhedjaa
open Go.RowKit

set_option maxRecDepth 100000 in
set_option maxHeartbeats 4000000 in
theorem specVisitsValid {A : Option Addr} {l : ViL} {c : Nat} {long idle : Int} {w : World} (hU : viR w A l) :
    Calls Try.prog 12 #[.agg #[.int .i64 long, .int .i64 idle], .slice A l.length c] w fun e w' => e = .returned (.bool (viOk long idle l)) ∧ Below w.heap.size w w' := by
  have hl := hU.len
  obtain ⟨W, hW⟩ : ∃ W, W = w.alloc (.cells #[.int .i64 long, .int .i64 idle] 27) := ⟨_, rfl⟩
  have q0 : W.cell? ⟨w.heap.size, 0, none⟩ = some (.int .i64 long) := by rw [hW]; exact box_cell w #[.int .i64 long, .int .i64 idle] 27 0 (.int .i64 long) rfl
  have q1 : W.cell? ⟨w.heap.size, 1, none⟩ = some (.int .i64 idle) := by rw [hW]; exact box_cell w #[.int .i64 long, .int .i64 idle] 27 1 (.int .i64 idle) rfl
  have hB0 : Below w.heap.size w W := by rw [hW]; exact below_alloc _ _
  replace hU := hU.below hB0
  have HW := Lib.hid hW
  clear hW
  go_enter Try.func12, Try.ntmps12
  go_wp2_with fail
  rw [← HW.out]
  go_loopw [5] (fun i wr => ∃ k : Nat, k ≤ l.length ∧ i = .int .i64 k ∧ (∀ j, j < k → viGood l j = true) ∧ Below W.heap.size W wr) (fun i _ => l.length - (intOf i).toNat)
  case atStart => exact ⟨0, Nat.zero_le _, rfl, fun j h => by omega, Below.refl _ _⟩
  case round =>
    obtain ⟨k, hk, rfl, hgood, hC⟩ := hrel
    have HG := Lib.hid hgood
    clear hgood
    have p0 := below_cell hC q0
    have p1 := below_cell hC q1
    by_cases hlt : k < l.length
    · obtain ⟨b, off, rfl, hc⟩ := hU.cells (by omega)
      obtain ⟨c0, c1, c2⟩ := hc k hlt
      have m0 := below_cell hC c0
      have m1 := below_cell hC c1
      have m2 := below_cell hC c2
      have HC := Lib.hid hc
      clear c0 c1 c2 hc p0 p1
      have y0 := box_cell wr #[.int .i64 (vi0 l k), .int .i64 (vi1 l k), .int .i64 (vi2 l k)] 38 0 (.int .i64 (vi0 l k)) rfl
      have y1 := box_cell wr #[.int .i64 (vi0 l k), .int .i64 (vi1 l k), .int .i64 (vi2 l k)] 38 1 (.int .i64 (vi1 l k)) rfl
      have y2 := box_cell wr #[.int .i64 (vi0 l k), .int .i64 (vi1 l k), .int .i64 (vi2 l k)] 38 2 (.int .i64 (vi2 l k)) rfl
      replace hC := ext_alloc hC (.cells #[.int .i64 (vi0 l k), .int .i64 (vi1 l k), .int .i64 (vi2 l k)] 38)
      cases g1 : inB (vi0 l k) 0 6
      · go_wp2_with fail
        refine (l1In_any _ _ _ _).mono ?_
        rintro e w1 ⟨rfl, hBc⟩
        replace hC := ext_trans hC hBc
        go_wp2
        go_ret
        exact ⟨ret_bool (viOk_no hlt (by simp [viGood, viOne, g1])).symm, hB0.trans (hC.mono hB0.size)⟩
      · cases g2 : inB (vi1 l k) 0 (vi2 l k)
        · go_wp2_with fail
          refine (l1In_any _ _ _ _).mono ?_
          rintro e w1 ⟨rfl, hBc⟩
          replace hC := ext_trans hC hBc
          replace y1 := below_cell hBc y1
          replace y2 := below_cell hBc y2
          clear hBc
          go_wp2_with fail
          refine (l1In_any _ _ _ _).mono ?_
          rintro e w2 ⟨rfl, hBc⟩
          replace hC := ext_trans hC hBc
          go_wp2
          go_ret
          refine ⟨ret_bool (viOk_no hlt ?_).symm, hB0.trans (hC.mono hB0.size)⟩
          rw [Bool.eq_false_iff]
          intro hh
          have := (viGood_iff.1 hh).1
          rw [inB_false] at g2
          omega
        · by_cases g3 : 1000 < vi2 l k
          · go_wp2_with fail
            refine (l1In_any _ _ _ _).mono ?_
            rintro e w1 ⟨rfl, hBc⟩
            replace hC := ext_trans hC hBc
            replace y1 := below_cell hBc y1
            replace y2 := below_cell hBc y2
            clear hBc
            go_wp2_with fail
            refine (l1In_any _ _ _ _).mono ?_
            rintro e w2 ⟨rfl, hBc⟩
            replace hC := ext_trans hC hBc
            replace y2 := below_cell hBc y2
            go_wp2
            go_ret
            refine ⟨ret_bool (viOk_no hlt ?_).symm, hB0.trans (hC.mono hB0.size)⟩
            rw [Bool.eq_false_iff]
            intro hh
            have := (viGood_iff.1 hh).1
            omega
          · have HO : Hid (viOne l k = true) := Lib.hid (by
              have h1 := inB_true.1 g1
              have h2 := inB_true.1 g2
              simp only [viOne, Bool.and_eq_true]
              exact ⟨g1, inB_true.2 (by omega), inB_true.2 (by omega)⟩)
            go_wp2_with fail
            refine (l1In_any _ _ _ _).mono ?_
            rintro e w1 ⟨rfl, hBc⟩
            replace hC := ext_trans hC hBc
            replace y0 := below_cell hBc y0
            replace y1 := below_cell hBc y1
            replace y2 := below_cell hBc y2
            clear hBc
            go_wp2_with fail
            refine (l1In_any _ _ _ _).mono ?_
            rintro e w2 ⟨rfl, hBc⟩
            replace hC := ext_trans hC hBc
            replace y0 := below_cell hBc y0
            replace y2 := below_cell hBc y2
            clear hBc y1 m0 m1 m2
            go_wp2
            clear g1 g2
            obtain ⟨g, hg⟩ : ∃ g, g = wr.heap.size := ⟨_, rfl⟩
            rw [← hg] at y0 y2 ⊢
            clear hg
            go_loopw [7] (fun i w3 => ∃ j : Nat, j ≤ k ∧ i = .int .i64 j ∧ (∀ i, i < j → vi0 l i ≠ vi0 l k) ∧ Below w2.heap.size w2 w3) (fun i _ => k - (intOf i).toNat)
            case atStart => exact ⟨0, Nat.zero_le _, rfl, fun j h => by omega, Below.refl _ _⟩
            case round =>
              rename_i w3
              obtain ⟨j, hj, rfl, hnew, hD⟩ := hrel
              have HN := Lib.hid hnew
              clear hnew
              by_cases hjk : j < k
              · obtain ⟨c0, _, _⟩ := HC.out j (by omega)
                have m0 := cell_regrown (below_cell hD (below_cell hC c0))
                have z0 := cell_regrown (below_cell hD y0)
                clear c0
                cases g5 : (vi0 l j == vi0 l k)
                all_goals
                  go_wp2
                  refine wp_region_quiet_below (by kernel_rfl) (by kernel_rfl) ?_
                  repeat (go_big_quiet_step (fail))
                  refine wpQuiet_nil ?_
                  intro w4 hw'regrown
                  replace hD := ext_trans hD (below_of_regrown hw'regrown (Nat.le_refl _))
                  clear hw'regrown
                  go_wp2
                · go_roundw
                  case rel => exact ⟨j + 1, by omega, by go_num, all_succ HN.out (by simpa using g5), hD⟩
                  case measure => simp [intOf]; omega
                · go_ret
                  refine ⟨ret_bool (viOk_no hlt ?_).symm, hB0.trans ((ext_trans hC hD).mono hB0.size)⟩
                  rw [Bool.eq_false_iff]
                  intro hh
                  exact (viGood_iff.1 hh).2 j hjk (by simpa using g5)
              · obtain rfl : j = k := by omega
                go_wp2
                go_roundw
                case rel => exact ⟨j + 1, by omega, by go_num, all_succ HG.out (by simp only [viGood, HO.out, Bool.true_and, viNew, decide_eq_true_eq]; exact HN.out), ext_trans hC hD⟩
                case measure => simp [intOf]; omega
    · obtain rfl : k = l.length := by omega
      have HE : Hid (viOk long idle l = viEnds long idle l) := Lib.hid (viOk_yes HG.out)
      cases g1 : inB long 1 1000
      · go_wp2_with fail
        refine (l1In_any _ _ _ _).mono ?_
        rintro e w1 ⟨rfl, hBc⟩
        replace hC := ext_trans hC hBc
        go_wp2
        go_ret
        exact ⟨ret_bool (by rw [HE.out]; simp [viEnds, g1]), hB0.trans (hC.mono hB0.size)⟩
      · cases g2 : inB idle 1 1000
        all_goals
          go_wp2_with fail
          refine (l1In_any _ _ _ _).mono ?_
          rintro e w1 ⟨rfl, hBc⟩
          replace hC := ext_trans hC hBc
          replace p1 := below_cell hBc p1
          clear hBc
          go_wp2_with fail
          refine (l1In_any _ _ _ _).mono ?_
          rintro e w2 ⟨rfl, hBc⟩
          replace hC := ext_trans hC hBc
          go_wp2
          go_ret
          exact ⟨ret_bool (by rw [HE.out]; simp [viEnds, g1, g2] <;> omega), hB0.trans (hC.mono hB0.size)⟩
end Go.Proofs.Ytflhmkpabhedjaa
