/- Expressions: sizes of valid ones, by the program. -/
import Derived.Test.YtodjokdaofefdaaExV
import Derived.Test.YtodjokdaofefdaaExB
import Derived.Test.YtodjokdaofefdaaAlv
namespace Go.Proofs.Ytodjokdaofefdaa
set_option linter.unusedSimpArgs false
set_option linter.unusedVariables false
open Go.RowKit

def headB (t : Ex) : Bool := inB t.k 1 15 && (inB t.n 0 (mostK t.k) && (decide (t.ps.length = arK t.k) && ((nmK t.k == !decide (t.s = ByteArray.empty)) && (!nmK t.k || nmOk t.s))))
/-- How many expressions are in a valid one at most so deep; 0 for others. -/
def szE : Nat → Ex → Nat
  | 0, _ => 0
  | m + 1, t => if (headB t && t.ps.all (fun p => decide (szE m p ≠ 0))) = true then 1 + (t.ps.map (szE m)).sum else 0
theorem arK_le (k : Int) : arK k ≤ 2 := by
  unfold arK
  split
  · omega
  · split <;> omega
theorem headB_len {t : Ex} (h : headB t = true) : t.ps.length ≤ 2 := by
  simp only [headB, Bool.and_eq_true, decide_eq_true_eq] at h
  have := arK_le t.k
  omega
theorem szE_lt : ∀ (m : Nat) (t : Ex), szE m t < 2 ^ m
  | 0, _ => by simp [szE]
  | m + 1, t => by
    rw [szE]
    split
    · rename_i h
      have hl := headB_len (Bool.and_eq_true_iff.1 h).1
      have ih := szE_lt m
      have hs : ∀ l : ExL, (l.map (szE m)).sum ≤ l.length * (2 ^ m - 1) := by
        intro l
        induction l with
        | nil => simp
        | cons a l ihl =>
          have := ih a
          simp only [List.map_cons, List.sum_cons, List.length_cons, Nat.succ_mul]
          omega
      have h1 := hs t.ps
      have h2 : t.ps.length * (2 ^ m - 1) ≤ 2 * (2 ^ m - 1) := Nat.mul_le_mul_right _ hl
      have h3 := Nat.two_pow_pos m
      rw [Nat.pow_succ]
      omega
    · exact Nat.two_pow_pos _
/-- Where a head stops being a valid one. -/
theorem headCases (t : Ex) : (inB t.k 1 15 = false ∧ headB t = false) ∨ (inB t.k 1 15 = true ∧ inB t.n 0 (mostK t.k) = false ∧ headB t = false) ∨
    (inB t.k 1 15 = true ∧ inB t.n 0 (mostK t.k) = true ∧ t.ps.length ≠ arK t.k ∧ headB t = false) ∨
    (inB t.k 1 15 = true ∧ inB t.n 0 (mostK t.k) = true ∧ t.ps.length = arK t.k ∧ (nmK t.k = decide (t.s = ByteArray.empty)) ∧ headB t = false) ∨
    (inB t.k 1 15 = true ∧ inB t.n 0 (mostK t.k) = true ∧ t.ps.length = arK t.k ∧ (nmK t.k = true ∧ decide (t.s = ByteArray.empty) = false) ∧ nmOk t.s = false ∧ headB t = false) ∨
    (inB t.k 1 15 = true ∧ inB t.n 0 (mostK t.k) = true ∧ t.ps.length = arK t.k ∧ (nmK t.k = true ∧ decide (t.s = ByteArray.empty) = false) ∧ nmOk t.s = true ∧ headB t = true) ∨
    (inB t.k 1 15 = true ∧ inB t.n 0 (mostK t.k) = true ∧ t.ps.length = arK t.k ∧ (nmK t.k = false ∧ decide (t.s = ByteArray.empty) = true) ∧ headB t = true) := by
  unfold headB
  cases inB t.k 1 15
  · simp
  · cases inB t.n 0 (mostK t.k)
    · simp
    · by_cases h : t.ps.length = arK t.k
      · cases nmK t.k <;> cases decide (t.s = ByteArray.empty) <;> cases nmOk t.s <;> simp [h]
      · simp [h]
end Go.Proofs.Ytodjokdaofefdaa
