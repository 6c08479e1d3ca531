/- The two HoursValid. -/
import Derived.Test.YticiggciigmhaaaHrT
import Derived.Test.YticiggciigmhaaaBas
namespace Go.Proofs.Yticiggciigmhaaa
open Go.RowKit

abbrev HrL := List (Int × Int × Int)
def hrGood (l : HrL) (k : Nat) : Prop := inB (hr0 l k) 1 127 = true ∧ inB (hr1 l k) 0 24 = true ∧ inB (hr2 l k) 0 24 = true ∧ (hr1 l k == hr2 l k) = false
instance (l : HrL) (k : Nat) : Decidable (hrGood l k) := by unfold hrGood; infer_instance
def hrOk (l : HrL) : Bool := decide (l.length ≤ 6 ∧ ∀ k, k < l.length → hrGood l k)
theorem hrOk_no {l : HrL} {k : Nat} (hk : k < l.length) (h : ¬ hrGood l k) : false = hrOk l := by
  simp only [hrOk, Bool.false_eq, decide_eq_false_iff_not]
  exact fun hh => h (hh.2 k hk)
theorem hrOk_yes {l : HrL} (h : ∀ k, k < l.length → hrGood l k) : decide ((l.length : Int) ≤ 6) = hrOk l := by
  simp only [hrOk, decide_eq_decide]
  exact ⟨fun hh => ⟨by omega, h⟩, fun hh => by omega⟩
theorem hr_cases (l : HrL) (k : Nat) : inB (hr0 l k) 1 127 = false ∨ (inB (hr0 l k) 1 127 = true ∧ (inB (hr1 l k) 0 24 = false ∨ (inB (hr1 l k) 0 24 = true ∧
    (inB (hr2 l k) 0 24 = false ∨ (inB (hr2 l k) 0 24 = true ∧ ((hr1 l k == hr2 l k) = true ∨ (hr1 l k == hr2 l k) = false)))))) := by
  cases inB (hr0 l k) 1 127 <;> cases inB (hr1 l k) 0 24 <;> cases inB (hr2 l k) 0 24 <;> cases (hr1 l k == hr2 l k) <;> simp

set_option maxHeartbeats 1000000 in
theorem specHoursValid {A : Option Addr} {l : HrL} {c : Nat} {w : World} (hU : hrR w A l) :
    Calls Try.prog 12 #[.slice A l.length c] w fun e w' => e = .returned (.bool (hrOk l)) ∧ Below w.heap.size w w' := by
  have hl := hU.len
  go_enter Try.func12, Try.ntmps12
  go_wp2
  go_loopw [3] (fun i wr => ∃ k : Nat, k ≤ l.length ∧ i = .int .i64 k ∧ (∀ j, j < k → hrGood l j) ∧ Below w.heap.size w wr) (fun i _ => l.length - (intOf i).toNat)
  case atStart => exact ⟨0, Nat.zero_le _, rfl, fun j h => by omega, Below.refl _ _⟩
  case round =>
    obtain ⟨k, hk, rfl, hgood, hB⟩ := hrel
    have HG := Lib.hid hgood
    clear hgood
    by_cases hlt : k < l.length
    · obtain ⟨b, off, rfl, hc⟩ := hU.cells (by omega)
      obtain ⟨c1, c2, c3⟩ := hc k hlt
      have k1 := cell_regrown (below_cell hB c1)
      have k2 := cell_regrown (below_cell hB c2)
      have k3 := cell_regrown (below_cell hB c3)
      clear c1 c2 c3 hc
      rcases hr_cases l k with g1 | ⟨g1, g2 | ⟨g2, g3 | ⟨g3, g4 | g4⟩⟩⟩
      all_goals
        go_wp2
        refine wp_region_quiet_below (by kernel_rfl) (by kernel_rfl) ?_
        repeat (go_big_quiet_step ((go_at_call 27; exact Calls.regrown_of (l1In_any _ _ _ _))))
        refine wpQuiet_nil ?_
        intro w2 hw'regrown
        replace hB := hB.trans (below_of_regrown hw'regrown hB.size)
        clear hw'regrown
        go_wp2
      · go_ret
        exact ⟨ret_bool (hrOk_no hlt (by simp [hrGood, g1])), hB⟩
      · go_ret
        exact ⟨ret_bool (hrOk_no hlt (by simp [hrGood, g2])), hB⟩
      · go_ret
        exact ⟨ret_bool (hrOk_no hlt (by simp [hrGood, g3])), hB⟩
      · go_ret
        exact ⟨ret_bool (hrOk_no hlt (by simp [hrGood]; intros; simpa using g4)), hB⟩
      · go_round
        case rel => exact ⟨k + 1, by omega, by go_num, all_succ HG.out ⟨g1, g2, g3, g4⟩, hB⟩
        case measure => simp [intOf]; omega
    · go_wp2
      go_ret
      exact ⟨ret_bool (hrOk_yes (by obtain rfl : k = l.length := by omega
                                    exact HG.out)), hB⟩

set_option maxHeartbeats 1000000 in
theorem implHoursValid {A : Option Addr} {l : HrL} {c : Nat} {w : World} (hU : hrR w A l) :
    Calls Try.prog 14 #[.slice A l.length c] w fun e w' => e = .returned (.bool (hrOk l)) ∧ Below w.heap.size w w' := by
  have hl := hU.len
  go_enter Try.func14, Try.ntmps14
  go_wp2
  go_loopw [7] (fun i wr => ∃ k : Nat, k ≤ l.length ∧ i = .int .i64 k ∧ (∀ j, j < k → hrGood l j) ∧ Below w.heap.size w wr) (fun i _ => l.length - (intOf i).toNat)
  case atStart => exact ⟨0, Nat.zero_le _, rfl, fun j h => by omega, Below.refl _ _⟩
  case round =>
    obtain ⟨k, hk, rfl, hgood, hB⟩ := hrel
    have HG := Lib.hid hgood
    clear hgood
    by_cases hlt : k < l.length
    · obtain ⟨b, off, rfl, hc⟩ := hU.cells (by omega)
      obtain ⟨c1, c2, c3⟩ := hc k hlt
      have m1 := below_cell hB c1
      have m2 := below_cell hB c2
      have m3 := below_cell hB c3
      have hB1 := below_alloc wr (.cells #[.int .i64 (hr0 l k), .int .i64 (hr1 l k), .int .i64 (hr2 l k)] 32)
      replace hB := ext_trans hB hB1
      have y0 := box_cell wr #[.int .i64 (hr0 l k), .int .i64 (hr1 l k), .int .i64 (hr2 l k)] 32 0 (.int .i64 (hr0 l k)) rfl
      have y1 := box_cell wr #[.int .i64 (hr0 l k), .int .i64 (hr1 l k), .int .i64 (hr2 l k)] 32 1 (.int .i64 (hr1 l k)) rfl
      have y2 := box_cell wr #[.int .i64 (hr0 l k), .int .i64 (hr1 l k), .int .i64 (hr2 l k)] 32 2 (.int .i64 (hr2 l k)) rfl
      clear c1 c2 c3 hc hB1
      rcases hr_cases l k with g1 | ⟨g1, g2 | ⟨g2, g3 | ⟨g3, g4 | g4⟩⟩⟩
      all_goals
        go_wp2_with (go_at_call 29; refine (in_any _ _ _ _).mono ?_; rintro e w2 ⟨rfl, hb⟩; replace y0 := below_cell hb y0; replace y1 := below_cell hb y1; replace y2 := below_cell hb y2; replace hB := ext_trans hB hb; clear hb)
      · go_ret
        exact ⟨ret_bool (hrOk_no hlt (by simp [hrGood, g1])), hB⟩
      · go_ret
        exact ⟨ret_bool (hrOk_no hlt (by simp [hrGood, g2])), hB⟩
      · go_ret
        exact ⟨ret_bool (hrOk_no hlt (by simp [hrGood, g3])), hB⟩
      · go_ret
        exact ⟨ret_bool (hrOk_no hlt (by simp [hrGood]; intros; simpa using g4)), hB⟩
      · go_round
        case rel => exact ⟨k + 1, by omega, by go_num, all_succ HG.out ⟨g1, g2, g3, g4⟩, hB⟩
        case measure => simp [intOf]; omega
    · go_wp2
      go_ret
      exact ⟨ret_bool (hrOk_yes (by obtain rfl : k = l.length := by omega
                                    exact HG.out)), hB⟩
end Go.Proofs.Yticiggciigmhaaa
