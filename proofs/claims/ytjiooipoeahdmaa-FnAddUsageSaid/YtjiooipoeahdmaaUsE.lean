/- the sums of uses within a time -/
import Derived.Test.YtjiooipoeahdmaaUsB
namespace Go.Proofs.Ytjiooipoeahdmaa
open Go.RowKit

def usCount (us : List (Int × Int)) (within now : Int) (k : Nat) : Int := if uAt us k ≤ now ∧ now - uAt us k < within then uMuch us k else 0
def usedTo (us : List (Int × Int)) (within now : Int) : Nat → Int
  | 0 => 0
  | k + 1 => usedTo us within now k + usCount us within now k
def usUsed (us : List (Int × Int)) (within now : Int) : Int := usedTo us within now us.length
theorem usOk_len {us : List (Int × Int)} (h : usOk us = true) : us.length ≤ 20 := by simp only [usOk, decide_eq_true_eq] at h; exact h.1
theorem usOk_good {us : List (Int × Int)} (h : usOk us = true) {k : Nat} (hk : k < us.length) : usGood us k := by simp only [usOk, decide_eq_true_eq] at h; exact h.2 k hk
theorem usOk_bounds {us : List (Int × Int)} (h : usOk us = true) {k : Nat} (hk : k < us.length) : (0 ≤ uAt us k ∧ uAt us k ≤ 1000) ∧ (1 ≤ uMuch us k ∧ uMuch us k ≤ 1000) :=
  ⟨inB_true.1 (usOk_good h hk).1, inB_true.1 (usOk_good h hk).2.1⟩
theorem usedTo_bounds {us : List (Int × Int)} (h : usOk us = true) (within now : Int) : ∀ k, k ≤ us.length → 0 ≤ usedTo us within now k ∧ usedTo us within now k ≤ 1000 * k
  | 0, _ => by simp [usedTo]
  | k + 1, hk => by
    have ih := usedTo_bounds h within now k (by omega)
    have hb := usOk_bounds h (k := k) (by omega)
    simp only [usedTo, usCount]
    split <;> omega

set_option maxHeartbeats 1000000 in
theorem used_any {A : Option Addr} {us : List (Int × Int)} {c : Nat} {within now : Int} {w : World} (hU : Us w A us) (hok : usOk us = true) (h1 : 1 ≤ within ∧ within ≤ 1000) (h2 : 0 ≤ now ∧ now ≤ 1000) :
    Calls Try.prog 33 #[.slice A us.length c, .int .i64 within, .int .i64 now] w fun e w' => e = .returned (.int .i64 (usUsed us within now)) ∧ Below w.heap.size w w' := by
  have hl := usOk_len hok
  obtain ⟨h1a, h1b⟩ := h1
  obtain ⟨h2a, h2b⟩ := h2
  have HOK := Lib.hid hok
  clear hok
  go_enter Try.func33, Try.ntmps33
  go_wp2
  go_loopw [7, 12] (fun s i wr => ∃ k : Nat, k ≤ us.length ∧ i = .int .i64 k ∧ s = .int .i64 (usedTo us within now k) ∧ Below w.heap.size w wr) (fun _ i _ => us.length - (intOf i).toNat)
  case atStart => exact ⟨0, Nat.zero_le _, rfl, rfl, Below.refl _ _⟩
  case round =>
    obtain ⟨k, hk, rfl, rfl, hB⟩ := hrel
    by_cases hlt : k < us.length
    · obtain ⟨b, off, rfl, hc⟩ := hU.cells (by omega)
      obtain ⟨c1, c2⟩ := hc k hlt
      have m1 := below_cell hB c1
      have m2 := below_cell hB c2
      obtain ⟨⟨b1, b2⟩, b3, b4⟩ := usOk_bounds HOK.out hlt
      obtain ⟨b5, b6⟩ := usedTo_bounds HOK.out within now k hk
      have hst : Hid (usedTo us within now (k + 1) = usedTo us within now k + usCount us within now k) := Lib.hid rfl
      clear c1 c2 hc
      by_cases q1 : uAt us k ≤ now
      · by_cases q2 : now - uAt us k < within
        · go_wp2
          go_roundw
          case rel => exact ⟨k + 1, by omega, by go_num, by rw [hst.out, usCount, if_pos ⟨by omega, by omega⟩], ext_trans hB (below_alloc _ _)⟩
          case measure => simp [intOf]; omega
        · go_wp2
          go_roundw
          case rel => exact ⟨k + 1, by omega, by go_num, by rw [hst.out, usCount, if_neg (by omega), Int.add_zero], ext_trans hB (below_alloc _ _)⟩
          case measure => simp [intOf]; omega
      · go_wp2
        go_roundw
        case rel => exact ⟨k + 1, by omega, by go_num, by rw [hst.out, usCount, if_neg (by omega), Int.add_zero], ext_trans hB (below_alloc _ _)⟩
        case measure => simp [intOf]; omega
    · obtain rfl : k = us.length := by omega
      go_wp2
      go_ret
      exact ⟨rfl, hB⟩

def usWithin (us : List (Int × Int)) (within now : Int) : Int := if usOk us && inB within 1 1000 && inB now 0 1000 then usUsed us within now else -1

set_option maxHeartbeats 1000000 in
theorem implUsedWithin {A : Option Addr} {us : List (Int × Int)} {c : Nat} {within now : Int} {w : World} (hU : Us w A us) :
    Calls Try.prog 17 #[.slice A us.length c, .int .i64 within, .int .i64 now] w fun e w' => e = .returned (.int .i64 (usWithin us within now)) ∧ Below w.heap.size w w' := by
  have hB := Below.refl w.heap.size w
  cases g1 : usOk us
  · go_enter Try.func17, Try.ntmps17
    go_wp2_with fail
    refine (implUsagesValid hU).mono ?_
    rintro e w1 ⟨rfl, hBc⟩
    replace hB := ext_trans hB hBc
    replace hU := hU.below hBc
    clear hBc
    go_wp2
    go_ret
    exact ⟨ret_int (by simp [usWithin, g1]), hB⟩
  · cases g2 : inB within 1 1000
    · go_enter Try.func17, Try.ntmps17
      go_wp2_with fail
      refine (implUsagesValid hU).mono ?_
      rintro e w1 ⟨rfl, hBc⟩
      replace hB := ext_trans hB hBc
      replace hU := hU.below hBc
      clear hBc
      go_wp2_with fail
      refine (in_any _ _ _ _).mono ?_
      rintro e w2 ⟨rfl, hBc⟩
      replace hB := ext_trans hB hBc
      replace hU := hU.below hBc
      clear hBc
      go_wp2
      go_ret
      exact ⟨ret_int (by simp [usWithin, g2]), hB⟩
    · cases g3 : inB now 0 1000
      · go_enter Try.func17, Try.ntmps17
        go_wp2_with fail
        refine (implUsagesValid hU).mono ?_
        rintro e w1 ⟨rfl, hBc⟩
        replace hB := ext_trans hB hBc
        replace hU := hU.below hBc
        clear hBc
        go_wp2_with fail
        refine (in_any _ _ _ _).mono ?_
        rintro e w2 ⟨rfl, hBc⟩
        replace hB := ext_trans hB hBc
        replace hU := hU.below hBc
        clear hBc
        go_wp2_with fail
        refine (isTime_any _ _).mono ?_
        rintro e w3 ⟨rfl, hBc⟩
        replace hB := ext_trans hB hBc
        replace hU := hU.below hBc
        clear hBc
        go_wp2
        go_ret
        exact ⟨ret_int (by simp [usWithin, g3]), hB⟩
      · have hv : Hid (usWithin us within now = usUsed us within now) := Lib.hid (by simp [usWithin, g1, g2, g3])
        have HG := Lib.hid g1
        have HG2 := Lib.hid g2
        have HG3 := Lib.hid g3
        go_enter Try.func17, Try.ntmps17
        go_wp2_with fail
        refine (implUsagesValid hU).mono ?_
        rintro e w1 ⟨rfl, hBc⟩
        replace hB := ext_trans hB hBc
        replace hU := hU.below hBc
        clear hBc
        go_wp2_with fail
        refine (in_any _ _ _ _).mono ?_
        rintro e w2 ⟨rfl, hBc⟩
        replace hB := ext_trans hB hBc
        replace hU := hU.below hBc
        clear hBc
        go_wp2_with fail
        refine (isTime_any _ _).mono ?_
        rintro e w3 ⟨rfl, hBc⟩
        replace hB := ext_trans hB hBc
        replace hU := hU.below hBc
        clear hBc
        go_wp2_with fail
        refine (used_any hU HG.out (inB_true.1 HG2.out) (inB_true.1 HG3.out)).mono ?_
        rintro e w4 ⟨rfl, hBc⟩
        replace hB := ext_trans hB hBc
        replace hU := hU.below hBc
        clear hBc
        go_wp2
        go_ret
        exact ⟨ret_int hv.out.symm, hB⟩

set_option maxHeartbeats 1000000 in
theorem specUsedWithin {A : Option Addr} {us : List (Int × Int)} {c : Nat} {within now : Int} {w : World} (hU : Us w A us) :
    Calls Try.prog 16 #[.slice A us.length c, .int .i64 within, .int .i64 now] w fun e w' => e = .returned (.int .i64 (usWithin us within now)) ∧ Below w.heap.size w w' := by
  have hB := Below.refl w.heap.size w
  cases g1 : usOk us
  · go_enter Try.func16, Try.ntmps16
    go_wp2_with fail
    refine (specUsagesValid hU).mono ?_
    rintro e w1 ⟨rfl, hBc⟩
    replace hB := ext_trans hB hBc
    replace hU := hU.below hBc
    clear hBc
    go_wp2
    go_ret
    exact ⟨ret_int (by simp [usWithin, g1]), hB⟩
  · cases g2 : inB within 1 1000
    · go_enter Try.func16, Try.ntmps16
      go_wp2_with fail
      refine (specUsagesValid hU).mono ?_
      rintro e w1 ⟨rfl, hBc⟩
      replace hB := ext_trans hB hBc
      replace hU := hU.below hBc
      clear hBc
      go_wp2_with fail
      refine (l1In_any _ _ _ _).mono ?_
      rintro e w2 ⟨rfl, hBc⟩
      replace hB := ext_trans hB hBc
      replace hU := hU.below hBc
      clear hBc
      go_wp2
      go_ret
      exact ⟨ret_int (by simp [usWithin, g2]), hB⟩
    · cases g3 : inB now 0 1000
      · go_enter Try.func16, Try.ntmps16
        go_wp2_with fail
        refine (specUsagesValid hU).mono ?_
        rintro e w1 ⟨rfl, hBc⟩
        replace hB := ext_trans hB hBc
        replace hU := hU.below hBc
        clear hBc
        go_wp2_with fail
        refine (l1In_any _ _ _ _).mono ?_
        rintro e w2 ⟨rfl, hBc⟩
        replace hB := ext_trans hB hBc
        replace hU := hU.below hBc
        clear hBc
        go_wp2_with fail
        refine (l1In_any _ _ _ _).mono ?_
        rintro e w3 ⟨rfl, hBc⟩
        replace hB := ext_trans hB hBc
        replace hU := hU.below hBc
        clear hBc
        go_wp2
        go_ret
        exact ⟨ret_int (by simp [usWithin, g3]), hB⟩
      · have hv : Hid (usWithin us within now = usUsed us within now) := Lib.hid (by simp [usWithin, g1, g2, g3])
        have hl := usOk_len g1
        have HOK := Lib.hid g1
        obtain ⟨h1a, h1b⟩ := inB_true.1 g2
        obtain ⟨h2a, h2b⟩ := inB_true.1 g3
        go_enter Try.func16, Try.ntmps16
        go_wp2_with fail
        refine (specUsagesValid hU).mono ?_
        rintro e w1 ⟨rfl, hBc⟩
        replace hB := ext_trans hB hBc
        replace hU := hU.below hBc
        clear hBc
        go_wp2_with fail
        refine (l1In_any _ _ _ _).mono ?_
        rintro e w2 ⟨rfl, hBc⟩
        replace hB := ext_trans hB hBc
        replace hU := hU.below hBc
        clear hBc
        go_wp2_with fail
        refine (l1In_any _ _ _ _).mono ?_
        rintro e w3 ⟨rfl, hBc⟩
        replace hB := ext_trans hB hBc
        replace hU := hU.below hBc
        clear hBc
        go_wp2
        clear g1 g2 g3
        obtain ⟨wo, hwo⟩ : ∃ wo : World, wo = w3 := ⟨_, rfl⟩
        subst hwo
        go_loopw [7, 8] (fun s i wr => ∃ k : Nat, k ≤ us.length ∧ i = .int .i64 k ∧ s = .int .i64 (usedTo us within now k) ∧ Below wo.heap.size wo wr) (fun _ i _ => us.length - (intOf i).toNat)
        case atStart => exact ⟨0, Nat.zero_le _, rfl, rfl, Below.refl _ _⟩
        case round =>
          obtain ⟨k, hk, rfl, rfl, hC⟩ := hrel
          by_cases hlt : k < us.length
          · obtain ⟨b, off, rfl, hc⟩ := hU.cells (by omega)
            obtain ⟨c1, c2⟩ := hc k hlt
            have m1 := below_cell hC c1
            have m2 := below_cell hC c2
            obtain ⟨⟨b1, b2⟩, b3, b4⟩ := usOk_bounds HOK.out hlt
            obtain ⟨b5, b6⟩ := usedTo_bounds HOK.out within now k hk
            have hst : Hid (usedTo us within now (k + 1) = usedTo us within now k + usCount us within now k) := Lib.hid rfl
            clear c1 c2 hc
            by_cases q1 : uAt us k ≤ now
            · by_cases q2 : now - uAt us k < within
              · go_wp2
                go_roundw
                case rel => exact ⟨k + 1, by omega, by go_num, by rw [hst.out, usCount, if_pos ⟨by omega, by omega⟩], hC⟩
                case measure => simp [intOf]; omega
              · go_wp2
                go_roundw
                case rel => exact ⟨k + 1, by omega, by go_num, by rw [hst.out, usCount, if_neg (by omega), Int.add_zero], hC⟩
                case measure => simp [intOf]; omega
            · go_wp2
              go_roundw
              case rel => exact ⟨k + 1, by omega, by go_num, by rw [hst.out, usCount, if_neg (by omega), Int.add_zero], hC⟩
              case measure => simp [intOf]; omega
          · obtain rfl : k = us.length := by omega
            go_wp2
            go_ret
            exact ⟨ret_int hv.out.symm, ext_trans hB hC⟩
end Go.Proofs.Ytjiooipoeahdmaa
