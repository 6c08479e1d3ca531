/- FnNextOpen, walked. -/
import Derived.Test.YticiggciigmhaaaHrP
namespace Go.Proofs.Yticiggciigmhaaa
open Go.RowKit

set_option maxHeartbeats 4000000 in
theorem lawNextOpen {A : Option Addr} {l : List Int} {c : Nat} {w : World} (hC : CodeR w w.heap.size A l) (hc : l.length ≤ c) :
    Calls Try.prog 9 #[.slice A l.length c] w fun e w' => e = .returned (.bool true) ∧ Below w.heap.size w w' := by
  by_cases h : (1048576 : Int) < l.length
  · go_enter Try.func9, Try.ntmps9
    go_wp2
    go_ret
    exact ⟨rfl, Below.refl _ _⟩
  · go_enter Try.func9, Try.ntmps9
    go_wp2_with fail
    refine (DrawNextOpen_d hC hc).mono ?_
    rintro e w1 ⟨us, _, x, y, rfl, hn, ⟨hx0, hx1⟩, ⟨hy0, hy1⟩, ⟨Au, cu, rfl, ho⟩, hB⟩
    have hU : hrR w1 Au us := hr_own rfl (by omega) ho
    clear ho
    go_wp2_with fail
    refine (implNextOpen hU).mono ?_
    rintro e w2 ⟨rfl, hBc⟩
    replace hB := ext_trans hB hBc
    replace hU := hU.below hBc
    clear hBc
    go_wp2_with fail
    refine (specNextOpen hU).mono ?_
    rintro e w3 ⟨rfl, hBc⟩
    replace hB := ext_trans hB hBc
    replace hU := hU.below hBc
    clear hBc
    by_cases g : 0 ≤ hrNext us x y
    · obtain ⟨m, g1, g2, ⟨g3, g4⟩, ⟨g5, g6⟩, g7⟩ := hrNext_pos g
      rw [g1]
      have HG := Lib.hid g7
      clear g g1 g7
      go_wp2
      obtain ⟨wo, hwo⟩ : ∃ wo : World, wo = w3 := ⟨_, rfl⟩
      subst hwo
      go_loopw [8] (fun i wr => ∃ k : Nat, k ≤ m + 1 ∧ i = .int .i64 k ∧ Below wo.heap.size wo wr) (fun i _ => m + 1 - (intOf i).toNat)
      case atStart => exact ⟨0, by omega, rfl, Below.refl _ _⟩
      case round =>
        obtain ⟨k, hk, rfl, hD⟩ := hrel
        have hU2 := hU.below hD
        by_cases hlt : k ≤ m
        · have HK := Lib.hid (HG.out k hlt)
          by_cases e : k = m
          · subst e
            go_wp2_with fail
            refine (implInHours hU2).mono ?_
            rintro e w4 ⟨rfl, hBc⟩
            rw [HK.out]
            replace hD := ext_trans hD hBc
            go_wp2
            go_roundw
            case rel => exact ⟨k + 1, by omega, by go_num, hD⟩
            case measure => simp [intOf]; try omega
          · have e1 : decide (k = m) = false := by simpa using e
            have e2 : ((k : Int) == (m : Int)) = false := by simp; omega
            clear e
            go_wp2_with fail
            refine (implInHours hU2).mono ?_
            rintro e w4 ⟨rfl, hBc⟩
            rw [HK.out, e1]
            replace hD := ext_trans hD hBc
            go_wp2
            go_roundw
            case rel => exact ⟨k + 1, by omega, by go_num, hD⟩
            case measure => simp [intOf]; try omega
        · obtain rfl : k = m + 1 := by omega
          clear hk hlt
          have hlt : ¬ ((m + 1 : Nat) : Int) ≤ (m : Int) := by omega
          go_wp2
          go_ret
          exact ⟨ret_bool (by simp; omega), ext_trans hB hD⟩
    · obtain ⟨g1, g2⟩ := hrNext_neg (Int.not_le.1 g)
      rw [g1]
      clear g g1
      go_wp2_with fail
      refine (implInHours hU).mono ?_
      rintro e w4 ⟨rfl, hBc⟩
      rw [g2]
      replace hB := ext_trans hB hBc
      go_wp2_with fail
      refine (alive_any _).mono ?_
      rintro e w5 ⟨rfl, hBc⟩
      replace hB := ext_trans hB hBc
      clear hBc
      go_wp2
      go_ret
      exact ⟨rfl, hB⟩
end Go.Proofs.Yticiggciigmhaaa
