/- FnUsedWithin, walked. -/
import Derived.Test.YtjiooipoeahdmaaUsM
import Derived.Test.YtjiooipoeahdmaaUsE
namespace Go.Proofs.Ytjiooipoeahdmaa
open Go.RowKit

def usSum (us : List (Int × Int)) : Nat → Int
  | 0 => 0
  | k + 1 => usSum us k + uMuch us k
theorem usSum_bounds {us : List (Int × Int)} (h : usOk us = true) : ∀ k, k ≤ us.length → 0 ≤ usSum us k ∧ usSum us k ≤ 1000 * k
  | 0, _ => by simp [usSum]
  | k + 1, hk => by
    have ih := usSum_bounds h k (by omega)
    have hb := usOk_bounds h (k := k) (by omega)
    simp only [usSum]
    omega
theorem usedTo_sum {us : List (Int × Int)} (h : usOk us = true) (within now : Int) : ∀ k, k ≤ us.length → usedTo us within now k ≤ usSum us k
  | 0, _ => by simp [usSum, usedTo]
  | k + 1, hk => by
    have ih := usedTo_sum h within now k (by omega)
    have hb := usOk_bounds h (k := k) (by omega)
    simp only [usSum, usedTo, usCount]
    split <;> omega
theorem usedTo_more {us : List (Int × Int)} (h : usOk us = true) (within now : Int) : ∀ k, k ≤ us.length → usedTo us within now k ≤ usedTo us (within + 1) now k
  | 0, _ => by simp [usedTo]
  | k + 1, hk => by
    have ih := usedTo_more h within now k (by omega)
    have hb := usOk_bounds h (k := k) (by omega)
    simp only [usedTo, usCount]
    split <;> split <;> omega
theorem usWithin_no {us : List (Int × Int)} {within now : Int} (h : (usOk us && inB within 1 1000 && inB now 0 1000) = false) : usWithin us within now = -1 := by
  simp [usWithin, h]
theorem usWithin_yes {us : List (Int × Int)} {within now : Int} (h : (usOk us && inB within 1 1000 && inB now 0 1000) = true) : usWithin us within now = usUsed us within now := by
  simp only [usWithin, h, if_true]

set_option maxHeartbeats 4000000 in
theorem lawUsedWithin {A : Option Addr} {l : List Int} {c : Nat} {w : World} (hC : CodeR w w.heap.size A l) (hc : l.length ≤ c) :
    Calls Try.prog 6 #[.slice A l.length c] w fun e w' => e = .returned (.bool true) ∧ Below w.heap.size w w' := by
  by_cases h : (1048576 : Int) < l.length
  · go_enter Try.func6, Try.ntmps6
    go_wp2
    go_ret
    exact ⟨rfl, Below.refl _ _⟩
  · go_enter Try.func6, Try.ntmps6
    go_wp2_with fail
    refine (DrawUsedWithin_d hC hc).mono ?_
    rintro e w1 ⟨us, _, x, y, rfl, hn, ⟨hx0, hx1⟩, ⟨hy0, hy1⟩, ⟨Au, cu, rfl, ho⟩, hB⟩
    have hU : Us w1 Au us := us_own rfl (by omega) ho
    clear ho
    go_wp2_with fail
    refine (implUsedWithin hU).mono ?_
    rintro e w2 ⟨rfl, hBc⟩
    replace hB := ext_trans hB hBc
    replace hU := hU.below hBc
    clear hBc
    go_wp2_with fail
    refine (specUsedWithin hU).mono ?_
    rintro e w3 ⟨rfl, hBc⟩
    replace hB := ext_trans hB hBc
    replace hU := hU.below hBc
    clear hBc
    obtain ⟨n, hnv⟩ : ∃ n, n = usWithin us x y := ⟨_, rfl⟩
    rw [← hnv]
    cases g : (usOk us && inB x 1 1000 && inB y 0 1000)
    · rw [usWithin_no g] at hnv
      subst hnv
      go_wp2_with fail
      refine (alive_any _).mono ?_
      rintro e w4 ⟨rfl, hBc⟩
      replace hB := ext_trans hB hBc
      replace hU := hU.below hBc
      clear hBc
      go_wp2
      go_ret
      exact ⟨rfl, hB⟩
    · rw [usWithin_yes g] at hnv
      simp only [Bool.and_eq_true] at g
      obtain ⟨⟨g1, g2⟩, g3⟩ := g
      have hlen := usOk_len g1
      have hn0 : 0 ≤ n := by rw [hnv]; exact (usedTo_bounds g1 x y us.length (Nat.le_refl _)).1
      have hns : n ≤ usSum us us.length := by rw [hnv]; exact usedTo_sum g1 x y us.length (Nat.le_refl _)
      have hmore : x = 1000 ∨ n ≤ usWithin us (x + 1) y := by
        by_cases e : x = 1000
        · exact .inl e
        · right
          have g2' := inB_true.1 g2
          rw [usWithin_yes (by simp only [Bool.and_eq_true]; exact ⟨⟨g1, inB_true.2 (by omega)⟩, g3⟩), hnv]
          exact usedTo_more g1 x y us.length (Nat.le_refl _)
      have HG1 := Lib.hid g1
      have HM := Lib.hid hmore
      clear hmore g1 g2 g3 hnv
      go_wp2
      go_loopw [7, 8] (fun s i wr => ∃ k : Nat, k ≤ us.length ∧ i = .int .i64 k ∧ s = .int .i64 (usSum us k) ∧ Below w.heap.size w wr ∧ Us wr Au us) (fun _ i _ => us.length - (intOf i).toNat)
      case atStart => exact ⟨0, Nat.zero_le _, rfl, rfl, hB, hU⟩
      case round =>
        clear hB hU
        obtain ⟨k, hk, rfl, rfl, hB, hU⟩ := hrel
        by_cases hlt : k < us.length
        · obtain ⟨b, off, rfl, hcl⟩ := hU.cells (by omega)
          obtain ⟨c1, c2⟩ := hcl k hlt
          obtain ⟨_, b3, b4⟩ := usOk_bounds HG1.out hlt
          obtain ⟨b5, b6⟩ := usSum_bounds HG1.out k hk
          have hst : Hid (usSum us (k + 1) = usSum us k + uMuch us k) := Lib.hid rfl
          clear hcl
          go_wp2
          go_roundw
          case rel => exact ⟨k + 1, by omega, by go_num, by rw [hst.out], hB, hU⟩
          case measure => simp [intOf]; omega
        · obtain rfl : k = us.length := by omega
          by_cases e : x = 1000
          · subst e
            go_wp2
            go_ret
            exact ⟨rfl, hB⟩
          · have hm : n ≤ usWithin us (x + 1) y := by rcases HM.out with h | h; exact absurd h e; exact h
            obtain ⟨m, hmv⟩ : ∃ m, m = usWithin us (x + 1) y := ⟨_, rfl⟩
            rw [← hmv] at hm
            have HMV := Lib.hid hmv
            clear hmv
            go_wp2_with fail
            refine (implUsedWithin hU).mono ?_
            rintro e w10 ⟨rfl, hBc⟩
            replace hB := ext_trans hB hBc
            replace hU := hU.below hBc
            clear hBc
            rw [← HMV.out]
            go_wp2
            go_ret
            exact ⟨rfl, hB⟩
end Go.Proofs.Ytjiooipoeahdmaa
