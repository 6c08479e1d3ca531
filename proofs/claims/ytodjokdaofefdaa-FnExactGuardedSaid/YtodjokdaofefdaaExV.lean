/- Expressions: how many parts and which numbers a kind has. -/
import Derived.Test.YtodjokdaofefdaaBas
namespace Go.Proofs.Ytodjokdaofefdaa
set_option linter.unusedSimpArgs false
set_option linter.unusedVariables false
open Go.RowKit

def arK (k : Int) : Nat := if k = 8 ∨ k = 9 ∨ k = 13 then 1 else if k = 10 ∨ k = 11 ∨ k = 12 ∨ k = 14 ∨ k = 15 then 2 else 0
def nmK (k : Int) : Bool := decide (k = 7 ∨ k = 8 ∨ k = 9)
theorem partsOf_any (k : Int) (w : World) :
    Calls Try.prog 127 #[.int .i64 k] w fun e w' => e = .returned (.tuple #[.int .i64 (arK k), .bool (nmK k)]) ∧ Below w.heap.size w w' := by
  by_cases h : k = 7 ∨ k = 8 ∨ k = 9 ∨ k = 10 ∨ k = 11 ∨ k = 12 ∨ k = 13 ∨ k = 14 ∨ k = 15
  · rcases h with rfl | rfl | rfl | rfl | rfl | rfl | rfl | rfl | rfl
    all_goals
      go_enter Try.func127, Try.ntmps127
      go_wp2
      go_ret2
      exact ⟨rfl, Below.refl _ _⟩
  · have n7 : (k == 7) = false := by simp; omega
    have n8 : (k == 8) = false := by simp; omega
    have n9 : (k == 9) = false := by simp; omega
    have n10 : (k == 10) = false := by simp; omega
    have n11 : (k == 11) = false := by simp; omega
    have n12 : (k == 12) = false := by simp; omega
    have n13 : (k == 13) = false := by simp; omega
    have n14 : (k == 14) = false := by simp; omega
    have n15 : (k == 15) = false := by simp; omega
    have HA : Hid (arK k = 0) := Lib.hid (by unfold arK; rw [if_neg (by omega), if_neg (by omega)])
    have HN : Hid (nmK k = false) := Lib.hid (by unfold nmK; simp only [decide_eq_false_iff_not]; omega)
    clear h
    go_enter Try.func127, Try.ntmps127
    go_wp2
    go_ret2
    refine ⟨?_, Below.refl _ _⟩
    rw [HA.out, HN.out]; rfl
def mostK (k : Int) : Int := if k = 1 then 1 else if k = 2 then 99 else if k = 3 then 6 else 0
theorem greatestNumber_any (k : Int) (w : World) :
    Calls Try.prog 128 #[.int .i64 k] w fun e w' => e = .returned (.int .i64 (mostK k)) ∧ Below w.heap.size w w' := by
  by_cases h : k = 1 ∨ k = 2 ∨ k = 3
  · rcases h with rfl | rfl | rfl
    all_goals
      go_enter Try.func128, Try.ntmps128
      go_wp2
      go_ret
      exact ⟨rfl, Below.refl _ _⟩
  · have n1 : (k == 1) = false := by simp; omega
    have n2 : (k == 2) = false := by simp; omega
    have n3 : (k == 3) = false := by simp; omega
    have HA : Hid (mostK k = 0) := Lib.hid (by unfold mostK; rw [if_neg (by omega), if_neg (by omega), if_neg (by omega)])
    clear h
    go_enter Try.func128, Try.ntmps128
    go_wp2
    go_ret
    refine ⟨?_, Below.refl _ _⟩
    rw [HA.out]; rfl
theorem mostK_le (k : Int) : 0 ≤ mostK k ∧ mostK k ≤ 99 := by
  unfold mostK
  split
  · omega
  · split
    · omega
    · split <;> omega
/-- How many parts a kind has, by the reference: -1 for what is no kind. -/
def arS (k : Int) : Int := if inB k 1 15 then arK k else -1
set_option maxHeartbeats 4000000 in
set_option maxRecDepth 100000 in
theorem l4Parts_any (k : Int) (w : World) :
    Calls Try.prog 147 #[.int .i64 k] w fun e w' => e = .returned (.int .i64 (arS k)) ∧ Below w.heap.size w w' := by
  cases g : inB k 1 15
  · have HE : Hid (arS k = -1) := Lib.hid (by rw [arS, g]; rfl)
    have HG := Lib.hid g
    clear g
    go_enter Try.func147, Try.ntmps147
    go_wp2_with fail
    refine (l1In_any _ _ _ _).mono ?_
    rintro e w1 ⟨rfl, hB⟩
    rw [HG.out]
    go_wp2
    go_ret
    exact ⟨by rw [HE.out]; rfl, hB⟩
  · have hk := inB_true.1 g
    have h : k = 1 ∨ k = 2 ∨ k = 3 ∨ k = 4 ∨ k = 5 ∨ k = 6 ∨ k = 7 ∨ k = 8 ∨ k = 9 ∨ k = 10 ∨ k = 11 ∨ k = 12 ∨ k = 13 ∨ k = 14 ∨ k = 15 := by omega
    clear hk
    rcases h with rfl | rfl | rfl | rfl | rfl | rfl | rfl | rfl | rfl | rfl | rfl | rfl | rfl | rfl | rfl
    all_goals
      clear g
      go_enter Try.func147, Try.ntmps147
      go_wp2_with fail
      refine (l1In_any _ _ _ _).mono ?_
      rintro e w1 ⟨rfl, hB⟩
      rw [show inB _ 1 15 = true by decide]
      go_wp2
      go_ret
      exact ⟨rfl, ext_trans hB (by (repeat (first | exact Below.refl _ _ | refine ext_alloc ?_ _ | refine Below.setCell ?_ (by simp) _)))⟩
end Go.Proofs.Ytodjokdaofefdaa
