/- Roles: validity, by the reference, continued. -/
import Derived.Test.YtbimcababidjgaaRoA
import Derived.Test.YtbimcababidjgaaApB
namespace Go.Proofs.Ytbimcababidjgaa
set_option linter.unusedSimpArgs false
set_option linter.unusedVariables false
open Go.RowKit

theorem seenF_iff {l : RoL} {z : ByteArray} : ∀ {k : Nat}, seenF l k z = true ↔ ∃ j, j < k ∧ ro0 l j = z
  | 0 => by simp [seenF]
  | k + 1 => by
    rw [seenF]
    by_cases e : z = ro0 l k
    · rw [if_pos e]; exact ⟨fun _ => ⟨k, by omega, e.symm⟩, fun _ => rfl⟩
    · rw [if_neg e, seenF_iff]
      constructor
      · rintro ⟨j, h1, h2⟩; exact ⟨j, by omega, h2⟩
      · rintro ⟨j, h1, h2⟩
        refine ⟨j, ?_, h2⟩
        by_cases ej : j = k
        · subst ej; exact absurd h2.symm e
        · omega
theorem seenF_no {l : RoL} {z : ByteArray} {k : Nat} (h : ∀ j, j < k → ro0 l j ≠ z) : seenF l k z = false := by
  rw [Bool.eq_false_iff]
  intro hh
  obtain ⟨j, h1, h2⟩ := seenF_iff.1 hh
  exact h j h1 h2
set_option maxRecDepth 100000 in
set_option maxHeartbeats 8000000 in
theorem specRolesValid {A : Option Addr} {l : RoL} {c : Nat} {w : World} (hU : roR w A l) (hw : WfRoL l) (hn : l.length ≤ 2097152) :
    Calls Try.prog 43 #[.slice A l.length c] w fun e w' => e = .returned (.bool (roOk l)) ∧ Below w.heap.size w w' := by
  have hl := hU.len
  have HWF := Lib.hid hw
  clear hw
  go_enter Try.func43, Try.ntmps43
  go_wp2
  go_loopw [3] (fun i wr => ∃ k : Nat, k ≤ l.length ∧ i = .int .i64 k ∧ Hid (∀ j, j < k → roGood l j = true) ∧ Below w.heap.size w wr) (fun i _ => l.length - (intOf i).toNat)
  case atStart => exact ⟨0, Nat.zero_le _, rfl, Lib.hid (fun j h => by omega), Below.refl _ _⟩
  case round =>
    obtain ⟨k, hk, rfl, HG, hB⟩ := hrel
    by_cases hlt : k < l.length
    · obtain ⟨b, off, rfl, hc⟩ := roR.cells hU (by omega)
      obtain ⟨A', c', hfd, c0, c1, c2⟩ := hc k hlt
      have hll := hfd.len
      have hsz := HWF.out.sz hlt
      have HGD : Hid (roGood l k = ((nmOk (ro0 l k) && !seenF l k (ro0 l k)) && (inB (ro1 l k) 0 15 && ascB (ro2 l k) (l.length - 1)))) := Lib.hid rfl
      have HC := Lib.hid hc
      clear hc
      have e0 := below_cell hB c0
      have e1 := below_cell hB c1
      go_wp2_with fail
      refine (specNameValid _ hsz _).mono ?_
      rintro e w1 ⟨rfl, hb⟩
      replace hB := ext_trans hB hb
      replace e1 := below_cell hb e1
      clear hb e0
      cases g1 : nmOk (ro0 l k)
      · have HG1 := Lib.hid g1
        go_wp2
        go_ret
        exact ⟨ret_bool (roOk_no hlt (by rw [HGD.out, HG1.out]; rfl)), hB⟩
      have HG1 := Lib.hid g1
      clear g1
      go_wp2_with fail
      refine (l1In_any _ _ _ _).mono ?_
      rintro e w2 ⟨rfl, hb⟩
      replace hB := ext_trans hB hb
      clear hb e1
      cases g3 : inB (ro1 l k) 0 15
      · have HG3 := Lib.hid g3
        go_wp2
        go_ret
        exact ⟨ret_bool (roOk_no hlt (by rw [HGD.out, HG3.out]; simp)), hB⟩
      have HG3 := Lib.hid g3
      clear g3
      go_wp2
      go_loopw [4] (fun i w3 => ∃ j : Nat, j ≤ (ro2 l k).length ∧ i = .int .i64 j ∧ (∀ m, m < j → ascAt (ro2 l k) (l.length - 1) m = true) ∧ Below w.heap.size w w3) (fun i _ => (ro2 l k).length - (intOf i).toNat)
      case atStart => exact ⟨0, Nat.zero_le _, rfl, fun j h => by omega, hB⟩
      case round =>
        clear hB
        rename_i w3
        obtain ⟨j, hj, rfl, hasc, hB⟩ := hrel
        have HA := Lib.hid hasc
        clear hasc
        have d2 := below_cell hB c2
        have r2 := cell_regrown d2
        by_cases hlt2 : j < (ro2 l k).length
        · obtain ⟨b2, off2, rfl, hc2⟩ := hfd.cells (by omega)
          have m0 := cell_regrown (below_cell hB (hc2 j hlt2))
          rcases ascCases (ro2 l k) (l.length - 1) j with ⟨g1, g⟩ | ⟨g1, ⟨g2, g⟩ | ⟨g2, ⟨g3, g⟩ | ⟨g3, g⟩⟩⟩
          · clear hc2
            go_wp2
            refine wp_region_quiet_below (by kernel_rfl) (by kernel_rfl) ?_
            repeat (go_big_quiet_step ((go_at_call 44; exact Calls.regrown_of (l1In_any _ _ _ _))))
            refine wpQuiet_nil ?_
            intro w2 hw'regrown
            replace hB := ext_trans hB (below_of_regrown hw'regrown (Nat.le_refl _))
            clear hw'regrown
            go_wp2
            go_ret
            exact ⟨ret_bool (roOk_no hlt (by rw [HGD.out, ← ascB_no hlt2 g]; simp)), hB⟩
          · clear hc2
            go_wp2
            refine wp_region_quiet_below (by kernel_rfl) (by kernel_rfl) ?_
            repeat (go_big_quiet_step ((go_at_call 44; exact Calls.regrown_of (l1In_any _ _ _ _))))
            refine wpQuiet_nil ?_
            intro w2 hw'regrown
            replace hB := ext_trans hB (below_of_regrown hw'regrown (Nat.le_refl _))
            clear hw'regrown
            go_wp2
            go_roundw
            case rel => exact ⟨j + 1, by omega, by go_num, all_succ HA.out g, hB⟩
            case measure => simp [intOf]; omega
          · have m1 := cell_regrown (below_cell hB (hc2 (j - 1) (by omega)))
            clear hc2
            go_wp2
            refine wp_region_quiet_below (by kernel_rfl) (by kernel_rfl) ?_
            repeat (go_big_quiet_step ((go_at_call 44; exact Calls.regrown_of (l1In_any _ _ _ _))))
            refine wpQuiet_nil ?_
            intro w2 hw'regrown
            replace hB := ext_trans hB (below_of_regrown hw'regrown (Nat.le_refl _))
            clear hw'regrown
            go_wp2
            go_ret
            exact ⟨ret_bool (roOk_no hlt (by rw [HGD.out, ← ascB_no hlt2 g]; simp)), hB⟩
          · have m1 := cell_regrown (below_cell hB (hc2 (j - 1) (by omega)))
            clear hc2
            go_wp2
            refine wp_region_quiet_below (by kernel_rfl) (by kernel_rfl) ?_
            repeat (go_big_quiet_step ((go_at_call 44; exact Calls.regrown_of (l1In_any _ _ _ _))))
            refine wpQuiet_nil ?_
            intro w2 hw'regrown
            replace hB := ext_trans hB (below_of_regrown hw'regrown (Nat.le_refl _))
            clear hw'regrown
            go_wp2
            go_roundw
            case rel => exact ⟨j + 1, by omega, by go_num, all_succ HA.out g, hB⟩
            case measure => simp [intOf]; omega
        · obtain rfl : j = (ro2 l k).length := by omega
          have HAS : Hid (ascB (ro2 l k) (l.length - 1) = true) := Lib.hid (ascB_yes HA.out).symm
          go_wp2
          go_loopw [5] (fun i w4 => ∃ j : Nat, j ≤ k ∧ i = .int .i64 j ∧ Hid (∀ m, m < j → ro0 l m ≠ ro0 l k) ∧ Below w.heap.size w w4) (fun i _ => k - (intOf i).toNat)
          case atStart => exact ⟨0, Nat.zero_le _, rfl, Lib.hid (fun j h => by omega), hB⟩
          case round =>
            clear hB
            obtain ⟨j2, hj2, rfl, HN, hB⟩ := hrel
            by_cases hlt3 : j2 < k
            · obtain ⟨A8, c8, _, x0, _⟩ := HC.out j2 (by omega)
              have r0 := cell_regrown (below_cell hB c0)
              have q0 := cell_regrown (below_cell hB x0)
              have hj2l : j2 < l.length := by omega
              clear x0
              by_cases g : ro0 l j2 = ro0 l k
              · have gs : ((ro0 l j2).toList == (ro0 l k).toList) = true := by rw [str_beq]; simp [g]
                have HGG := Lib.hid g
                clear g
                go_wp2
                refine wp_region_quiet_below (by kernel_rfl) (by kernel_rfl) ?_
                repeat (go_big_quiet_step (fail))
                refine wpQuiet_nil ?_
                intro w2 hw'regrown
                replace hB := ext_trans hB (below_of_regrown hw'regrown (Nat.le_refl _))
                clear hw'regrown
                go_wp2
                go_ret
                exact ⟨ret_bool (roOk_no hlt (by rw [HGD.out, seenF_iff.2 ⟨j2, hlt3, HGG.out⟩]; simp)), hB⟩
              · have gs : ((ro0 l j2).toList == (ro0 l k).toList) = false := by rw [str_beq]; simp [g]
                have HGG := Lib.hid g
                clear g
                go_wp2
                refine wp_region_quiet_below (by kernel_rfl) (by kernel_rfl) ?_
                repeat (go_big_quiet_step (fail))
                refine wpQuiet_nil ?_
                intro w2 hw'regrown
                replace hB := ext_trans hB (below_of_regrown hw'regrown (Nat.le_refl _))
                clear hw'regrown
                go_wp2
                go_roundw
                case rel => exact ⟨j2 + 1, by omega, by go_num, Lib.hid (all_succ (p := fun m => ro0 l m ≠ ro0 l k) HN.out HGG.out), hB⟩
                case measure => simp [intOf]; omega
            · obtain rfl : j2 = k := by omega
              have HGS : Hid (∀ j, j < j2 + 1 → roGood l j = true) := Lib.hid (all_succ HG.out (by rw [HGD.out, HG1.out, seenF_no HN.out, HG3.out, HAS.out]; rfl))
              go_wp2
              go_roundw
              case rel => exact ⟨j2 + 1, by omega, by go_num, HGS, hB⟩
              case measure => simp [intOf]; omega
    · obtain rfl : k = l.length := by omega
      have HO := Lib.hid (roOk_yes HG.out)
      go_wp2
      go_ret
      exact ⟨ret_bool (by rw [HO.out]; simp; omega), hB⟩
end Go.Proofs.Ytbimcababidjgaa
