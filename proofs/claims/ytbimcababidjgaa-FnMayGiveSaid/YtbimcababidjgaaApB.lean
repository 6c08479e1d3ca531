/- Rules on roles: validity, by the reference. -/
import Derived.Test.YtbimcababidjgaaApA
namespace Go.Proofs.Ytbimcababidjgaa
set_option linter.unusedSimpArgs false
set_option linter.unusedVariables false
open Go.RowKit

theorem ascCases (l : IL) (hi : Int) (k : Nat) : (inB (il0 l k) 0 hi = false ∧ ascAt l hi k = false) ∨ (inB (il0 l k) 0 hi = true ∧ (¬ 0 < k ∧ ascAt l hi k = true ∨ 0 < k ∧ (il0 l k ≤ il0 l (k - 1) ∧ ascAt l hi k = false ∨ il0 l (k - 1) < il0 l k ∧ ascAt l hi k = true))) := by
  have h := ascAt_iff (l := l) (hi := hi) (k := k)
  cases g : inB (il0 l k) 0 hi
  · left
    refine ⟨rfl, ?_⟩
    rw [Bool.eq_false_iff]
    intro hh
    rw [inB_true.2 (h.1 hh).1] at g
    cases g
  · right
    have gb := inB_true.1 g
    refine ⟨rfl, ?_⟩
    by_cases hk : 0 < k
    · right
      refine ⟨hk, ?_⟩
      by_cases hl : il0 l (k - 1) < il0 l k
      · right; exact ⟨hl, h.2 ⟨gb, fun _ => hl⟩⟩
      · left
        refine ⟨by omega, ?_⟩
        rw [Bool.eq_false_iff]
        exact fun hh => hl ((h.1 hh).2 hk)
    · left; exact ⟨hk, h.2 ⟨gb, fun hh => absurd hh hk⟩⟩
set_option maxRecDepth 100000 in
set_option maxHeartbeats 4000000 in
theorem specApartValid_in {A : Option Addr} {l : ApL} {c : Nat} {many : Int} {w : World} (hU : apR w A l) (hm0 : 1 ≤ many) (hm1 : many ≤ 8) :
    Calls Try.prog 34 #[.int .i64 many, .slice A l.length c] w fun e w' => e = .returned (.bool (apOk many l)) ∧ Below w.heap.size w w' := by
  have hl := hU.len
  go_enter Try.func34, Try.ntmps34
  go_wp2
  go_loopw [5] (fun i wr => ∃ k : Nat, k ≤ l.length ∧ i = .int .i64 k ∧ (∀ j, j < k → apGood many (apAt l j) = true) ∧ Below w.heap.size w wr) (fun i _ => l.length - (intOf i).toNat)
  case atStart => exact ⟨0, Nat.zero_le _, rfl, fun j h => by omega, Below.refl _ _⟩
  case round =>
    obtain ⟨k, hk, rfl, hgood, hB⟩ := hrel
    have HG := Lib.hid hgood
    clear hgood
    by_cases hlt : k < l.length
    · obtain ⟨b, off, rfl, hc⟩ := apR.cells hU (by omega)
      obtain ⟨A', c', hfd, c0, c1⟩ := hc k hlt
      have HGD : Hid (apGood many (apAt l k) = (ascB (ap0 l k) (many - 1) && inB (ap1 l k) 1 ((ap0 l k).length - 1))) := Lib.hid rfl
      have hll := hfd.len
      clear hc
      go_wp2
      go_loopw [6] (fun i w2 => ∃ j : Nat, j ≤ (ap0 l k).length ∧ i = .int .i64 j ∧ (∀ m, m < j → ascAt (ap0 l k) (many - 1) m = true) ∧ Below w.heap.size w w2) (fun i _ => (ap0 l k).length - (intOf i).toNat)
      case atStart => exact ⟨0, Nat.zero_le _, rfl, fun j h => by omega, hB⟩
      case round =>
        clear hB
        rename_i w2
        obtain ⟨j, hj, rfl, hasc, hB⟩ := hrel
        have HA := Lib.hid hasc
        clear hasc
        have d0 := below_cell hB c0
        have d1 := below_cell hB c1
        have r0 := cell_regrown d0
        have r1 := cell_regrown d1
        by_cases hlt2 : j < (ap0 l k).length
        · obtain ⟨b2, off2, rfl, hc2⟩ := hfd.cells (by omega)
          have m0 := cell_regrown (below_cell hB (hc2 j hlt2))
          rcases ascCases (ap0 l k) (many - 1) j with ⟨g1, g⟩ | ⟨g1, ⟨g2, g⟩ | ⟨g2, ⟨g3, g⟩ | ⟨g3, g⟩⟩⟩
          · clear hc2
            go_wp2
            refine wp_region_quiet_below (by kernel_rfl) (by kernel_rfl) ?_
            repeat (go_big_quiet_step ((go_at_call 44; exact Calls.regrown_of (l1In_any _ _ _ _))))
            refine wpQuiet_nil ?_
            intro w2 hw'regrown
            replace hB := ext_trans hB (below_of_regrown hw'regrown (Nat.le_refl _))
            clear hw'regrown
            go_wp2
            go_ret
            exact ⟨ret_bool (apOk_no hlt (by rw [HGD.out, ← ascB_no hlt2 g]; rfl)), hB⟩
          · clear hc2
            go_wp2
            refine wp_region_quiet_below (by kernel_rfl) (by kernel_rfl) ?_
            repeat (go_big_quiet_step ((go_at_call 44; exact Calls.regrown_of (l1In_any _ _ _ _))))
            refine wpQuiet_nil ?_
            intro w2 hw'regrown
            replace hB := ext_trans hB (below_of_regrown hw'regrown (Nat.le_refl _))
            clear hw'regrown
            go_wp2
            go_roundw
            case rel => exact ⟨j + 1, by omega, by go_num, all_succ HA.out g, hB⟩
            case measure => simp [intOf]; omega
          · have m1 := cell_regrown (below_cell hB (hc2 (j - 1) (by omega)))
            clear hc2
            go_wp2
            refine wp_region_quiet_below (by kernel_rfl) (by kernel_rfl) ?_
            repeat (go_big_quiet_step ((go_at_call 44; exact Calls.regrown_of (l1In_any _ _ _ _))))
            refine wpQuiet_nil ?_
            intro w2 hw'regrown
            replace hB := ext_trans hB (below_of_regrown hw'regrown (Nat.le_refl _))
            clear hw'regrown
            go_wp2
            go_ret
            exact ⟨ret_bool (apOk_no hlt (by rw [HGD.out, ← ascB_no hlt2 g]; rfl)), hB⟩
          · have m1 := cell_regrown (below_cell hB (hc2 (j - 1) (by omega)))
            clear hc2
            go_wp2
            refine wp_region_quiet_below (by kernel_rfl) (by kernel_rfl) ?_
            repeat (go_big_quiet_step ((go_at_call 44; exact Calls.regrown_of (l1In_any _ _ _ _))))
            refine wpQuiet_nil ?_
            intro w2 hw'regrown
            replace hB := ext_trans hB (below_of_regrown hw'regrown (Nat.le_refl _))
            clear hw'regrown
            go_wp2
            go_roundw
            case rel => exact ⟨j + 1, by omega, by go_num, all_succ HA.out g, hB⟩
            case measure => simp [intOf]; omega
        · obtain rfl : j = (ap0 l k).length := by omega
          cases g2 : inB (ap1 l k) 1 ((ap0 l k).length - 1)
          all_goals
            go_wp2
            refine wp_region_quiet_below (by kernel_rfl) (by kernel_rfl) ?_
            repeat (go_big_quiet_step ((go_at_call 44; exact Calls.regrown_of (l1In_any _ _ _ _))))
            refine wpQuiet_nil ?_
            intro w2 hw'regrown
            replace hB := ext_trans hB (below_of_regrown hw'regrown (Nat.le_refl _))
            clear hw'regrown
            go_wp2
          · go_ret
            exact ⟨ret_bool (apOk_no hlt (by rw [HGD.out, g2]; simp)), hB⟩
          · go_roundw
            case rel => exact ⟨k + 1, by omega, by go_num, all_succ HG.out (by rw [HGD.out, g2, ← ascB_yes HA.out]; rfl), hB⟩
            case measure => simp [intOf]; omega
    · obtain rfl : k = l.length := by omega
      have hin : inB many 1 8 = true := inB_true.2 ⟨hm0, hm1⟩
      have HO := Lib.hid (apOk_yes HG.out)
      have HI := Lib.hid hin
      clear hin
      go_wp2_with fail
      refine (l1In_any _ _ _ _).mono ?_
      rintro e w2 ⟨rfl, hb2⟩
      rw [HI.out]
      replace hB := ext_trans hB hb2
      go_wp2
      go_ret
      exact ⟨ret_bool (by rw [HO.out, HI.out]; simp; try omega), hB⟩
theorem spApOut (l : IL) (hi : Int) (k : Nat) : inB (il0 l k) 0 hi = false ∨ (inB (il0 l k) 0 hi = true ∧ (¬ 0 < k ∨ 0 < k ∧ (il0 l k ≤ il0 l (k - 1) ∨ il0 l (k - 1) < il0 l k))) := by
  cases inB (il0 l k) 0 hi <;> simp
  omega
set_option maxRecDepth 100000 in
set_option maxHeartbeats 4000000 in
theorem specApartValid_out {A : Option Addr} {l : ApL} {c : Nat} {many : Int} {w : World} (hU : apR w A l) (hm : inB many 1 8 = false) :
    Calls Try.prog 34 #[.int .i64 many, .slice A l.length c] w fun e w' => e = .returned (.bool false) ∧ Below w.heap.size w w' := by
  have hl := hU.len
  have HM := Lib.hid hm
  clear hm
  obtain ⟨hi, hhi⟩ : ∃ hi : Int, IntKind.i64.wrap (many - 1) = hi := ⟨_, rfl⟩
  go_enter Try.func34, Try.ntmps34
  go_wp2
  go_loopw [5] (fun i wr => ∃ k : Nat, k ≤ l.length ∧ i = .int .i64 k ∧ Below w.heap.size w wr) (fun i _ => l.length - (intOf i).toNat)
  case atStart => exact ⟨0, Nat.zero_le _, rfl, Below.refl _ _⟩
  case round =>
    obtain ⟨k, hk, rfl, hB⟩ := hrel
    by_cases hlt : k < l.length
    · obtain ⟨b, off, rfl, hc⟩ := apR.cells hU (by omega)
      obtain ⟨A', c', hfd, c0, c1⟩ := hc k hlt
      have hll := hfd.len
      clear hc
      go_wp2
      go_loopw [6] (fun i w2 => ∃ j : Nat, j ≤ (ap0 l k).length ∧ i = .int .i64 j ∧ Below w.heap.size w w2) (fun i _ => (ap0 l k).length - (intOf i).toNat)
      case atStart => exact ⟨0, Nat.zero_le _, rfl, hB⟩
      case round =>
        clear hB
        rename_i w2
        obtain ⟨j, hj, rfl, hB⟩ := hrel
        have d0 := below_cell hB c0
        have d1 := below_cell hB c1
        have r0 := cell_regrown d0
        have r1 := cell_regrown d1
        by_cases hlt2 : j < (ap0 l k).length
        · obtain ⟨b2, off2, rfl, hc2⟩ := hfd.cells (by omega)
          have m0 := cell_regrown (below_cell hB (hc2 j hlt2))
          have m1 := cell_regrown (below_cell hB (hc2 (j - 1) (by omega)))
          clear hc2
          rcases spApOut (ap0 l k) hi j with g1 | ⟨g1, g2 | ⟨g2, g3 | g3⟩⟩
          all_goals
            go_wp2
            refine wp_region_quiet_below (by kernel_rfl) (by kernel_rfl) ?_
            repeat (go_big_quiet_step ((go_at_call 44; exact Calls.regrown_of (l1In_any _ _ _ _))))
            refine wpQuiet_nil ?_
            intro w2 hw'regrown
            replace hB := ext_trans hB (below_of_regrown hw'regrown (Nat.le_refl _))
            clear hw'regrown
            go_wp2
          · go_ret
            exact ⟨rfl, hB⟩
          · go_roundw
            case rel => exact ⟨j + 1, by omega, by go_num, hB⟩
            case measure => simp [intOf]; omega
          · go_ret
            exact ⟨rfl, hB⟩
          · go_roundw
            case rel => exact ⟨j + 1, by omega, by go_num, hB⟩
            case measure => simp [intOf]; omega
        · obtain rfl : j = (ap0 l k).length := by omega
          cases g2 : inB (ap1 l k) 1 ((ap0 l k).length - 1)
          all_goals
            go_wp2
            refine wp_region_quiet_below (by kernel_rfl) (by kernel_rfl) ?_
            repeat (go_big_quiet_step ((go_at_call 44; exact Calls.regrown_of (l1In_any _ _ _ _))))
            refine wpQuiet_nil ?_
            intro w2 hw'regrown
            replace hB := ext_trans hB (below_of_regrown hw'regrown (Nat.le_refl _))
            clear hw'regrown
            go_wp2
          · go_ret
            exact ⟨rfl, hB⟩
          · go_roundw
            case rel => exact ⟨k + 1, by omega, by go_num, hB⟩
            case measure => simp [intOf]; omega
    · obtain rfl : k = l.length := by omega
      go_wp2_with fail
      refine (l1In_any _ _ _ _).mono ?_
      rintro e w2 ⟨rfl, hb2⟩
      rw [HM.out]
      replace hB := ext_trans hB hb2
      go_wp2
      go_ret
      exact ⟨rfl, hB⟩
theorem specApartValid {A : Option Addr} {l : ApL} {c : Nat} {many : Int} {w : World} (hU : apR w A l) :
    Calls Try.prog 34 #[.int .i64 many, .slice A l.length c] w fun e w' => e = .returned (.bool (apOk many l)) ∧ Below w.heap.size w w' := by
  cases h : inB many 1 8
  · rw [← apOk_out h]; exact specApartValid_out hU h
  · exact specApartValid_in hU (inB_true.1 h).1 (inB_true.1 h).2
end Go.Proofs.Ytbimcababidjgaa
