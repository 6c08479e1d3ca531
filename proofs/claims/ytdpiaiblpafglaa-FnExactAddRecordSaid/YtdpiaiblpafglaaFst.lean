/- The first number at which something holds. -/
import Derived.Test.YtdpiaiblpafglaaKit
namespace Go.Proofs.Ytdpiaiblpafglaa
set_option linter.unusedSimpArgs false
set_option linter.unusedVariables false
open Go.RowKit

/-- The first number from i on, among so many, at which p holds. -/
def firstOf (p : Nat → Bool) : Nat → Nat → Int
  | 0, _ => -1
  | f + 1, i => if p i then (i : Int) else firstOf p f (i + 1)
theorem firstOf_step {p : Nat → Bool} {N k : Nat} (hk : k < N) (h : firstOf p N 0 = firstOf p (N - k) k) : firstOf p N 0 = if p k then (k : Int) else firstOf p (N - (k + 1)) (k + 1) := by
  rw [h, show N - k = (N - (k + 1)) + 1 by omega, firstOf]
theorem firstOf_some {p : Nat → Bool} : ∀ (f i : Nat) (n : Int), firstOf p f i = n → 0 ≤ n → ∃ m : Nat, n = m ∧ i ≤ m ∧ m < i + f ∧ p m = true ∧ ∀ j, i ≤ j → j < m → p j = false
  | 0, i, n, h, hn => by simp [firstOf] at h; omega
  | f + 1, i, n, h, hn => by
    simp only [firstOf] at h
    split at h
    · rename_i hp
      exact ⟨i, h.symm, Nat.le_refl _, by omega, hp, fun j h1 h2 => by omega⟩
    · rename_i hp
      obtain ⟨m, h1, h2, h3, h4, h5⟩ := firstOf_some f (i + 1) n h hn
      refine ⟨m, h1, by omega, by omega, h4, fun j h6 h7 => ?_⟩
      by_cases e : j = i
      · subst e; simpa using hp
      · exact h5 j (by omega) h7
theorem firstOf_cases {p : Nat → Bool} (f : Nat) : ∀ i, (firstOf p f i = -1 ∧ ∀ j, i ≤ j → j < i + f → p j = false) ∨ 0 ≤ firstOf p f i := by
  induction f with
  | zero => intro i; exact .inl ⟨rfl, fun j h1 h2 => by omega⟩
  | succ f ih =>
    intro i
    simp only [firstOf]
    cases hp : p i
    · simp only [Bool.false_eq_true, if_false]
      rcases ih (i + 1) with ⟨h1, h2⟩ | h1
      · refine .inl ⟨h1, fun j h3 h4 => ?_⟩
        by_cases e : j = i
        · subst e; exact hp
        · exact h2 j (by omega) (by omega)
      · exact .inr h1
    · right; simp
theorem firstOf_none {p : Nat → Bool} : ∀ (f i : Nat), (∀ j, i ≤ j → j < i + f → p j = false) → firstOf p f i = -1
  | 0, _, _ => rfl
  | f + 1, i, h => by
    rw [firstOf, h i (by omega) (by omega)]
    simp only [Bool.false_eq_true, if_false]
    exact firstOf_none f (i + 1) (fun j h1 h2 => h j (by omega) (by omega))
end Go.Proofs.Ytdpiaiblpafglaa
