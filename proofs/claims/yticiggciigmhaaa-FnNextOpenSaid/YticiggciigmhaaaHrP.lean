/- FnNextOpen: the plain law. -/
import Derived.Test.YticiggciigmhaaaHrN
namespace Go.Proofs.Yticiggciigmhaaa
open Go.RowKit

theorem firstOf_some {p : Nat → Bool} : ∀ (f i : Nat) (n : Int), firstOf p f i = n → 0 ≤ n → ∃ m : Nat, n = m ∧ i ≤ m ∧ m < i + f ∧ p m = true ∧ ∀ j, i ≤ j → j < m → p j = false
  | 0, i, n, h, hn => by simp [firstOf] at h; omega
  | f + 1, i, n, h, hn => by
    simp only [firstOf] at h
    split at h
    · rename_i hp
      exact ⟨i, h.symm, Nat.le_refl _, by omega, hp, fun j h1 h2 => by omega⟩
    · rename_i hp
      obtain ⟨m, h1, h2, h3, h4, h5⟩ := firstOf_some f (i + 1) n h hn
      refine ⟨m, h1, by omega, by omega, h4, fun j h6 h7 => ?_⟩
      by_cases e : j = i
      · subst e; simpa using hp
      · exact h5 j (by omega) h7
theorem firstOf_neg {p : Nat → Bool} : ∀ (f i : Nat), firstOf p f i < 0 → firstOf p f i = -1
  | 0, _, _ => rfl
  | f + 1, i, h => by
    simp only [firstOf] at h ⊢
    split
    · rename_i hp; rw [if_pos hp] at h; omega
    · rename_i hp; rw [if_neg hp] at h; exact firstOf_neg f (i + 1) h
theorem hrNext_neg {us : HrL} {x y : Int} (h : hrNext us x y < 0) : hrNext us x y = -1 ∧ hrIn us x y = false := by
  unfold hrNext at h ⊢
  split at h
  · rename_i hc
    rw [if_pos hc]
    have e := firstOf_neg _ _ h
    refine ⟨e, ?_⟩
    have h0 := (firstOf_none _ _).1 e 0 (by omega) (by omega)
    simp only [Bool.and_eq_true] at hc
    obtain ⟨d1, d2⟩ := inB_true.1 hc.2.1
    obtain ⟨d3, d4⟩ := inB_true.1 hc.2.2
    rw [hrIn_open hc.1 d1 d2 d3 d4]
    unfold hrP at h0
    have e1 : (24 * x + y + ((0 : Nat) : Int)) % 168 / 24 = x := by omega
    have e2 : (24 * x + y + ((0 : Nat) : Int)) % 24 = y := by omega
    rwa [e1, e2] at h0
  · rename_i hc
    rw [if_neg hc]
    refine ⟨rfl, ?_⟩
    unfold hrIn
    cases h1 : hrOk us <;> cases h2 : inB x 0 6 <;> cases h3 : inB y 0 23 <;> simp_all
theorem hrNext_pos {us : HrL} {x y : Int} (h : 0 ≤ hrNext us x y) : ∃ m : Nat, hrNext us x y = m ∧ m < 168 ∧ (0 ≤ x ∧ x ≤ 6) ∧ (0 ≤ y ∧ y ≤ 23) ∧ ∀ j : Nat, j ≤ m → hrIn us ((24 * x + y + (j : Int)) / 24 % 7) ((24 * x + y + (j : Int)) % 24) = decide (j = m) := by
  unfold hrNext at h ⊢
  split at h
  · rename_i hc
    rw [if_pos hc]
    obtain ⟨m, h1, _, h3, h4, h5⟩ := firstOf_some _ _ _ rfl h
    simp only [Bool.and_eq_true] at hc
    obtain ⟨d1, d2⟩ := inB_true.1 hc.2.1
    obtain ⟨d3, d4⟩ := inB_true.1 hc.2.2
    refine ⟨m, h1, by omega, ⟨d1, d2⟩, ⟨d3, d4⟩, fun j hj => ?_⟩
    rw [hrIn_open hc.1 (by omega) (by omega) (by omega) (by omega)]
    have e1 : (24 * x + y + (j : Int)) / 24 % 7 = (24 * x + y + (j : Int)) % 168 / 24 := by omega
    rw [e1]
    show hrP us x y j = _
    by_cases e : j = m
    · subst e; simp [h4]
    · rw [h5 j (by omega) (by omega)]; simp [e]
  · omega
end Go.Proofs.Yticiggciigmhaaa
