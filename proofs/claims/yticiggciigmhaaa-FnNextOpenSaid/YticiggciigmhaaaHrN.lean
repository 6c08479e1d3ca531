/- FnHoursOpen and FnNextOpen, walked. -/
import Derived.Test.YticiggciigmhaaaHrM
namespace Go.Proofs.Yticiggciigmhaaa
open Go.RowKit

theorem hrCount_parts (us : HrL) (m : Nat) (hm : m ≤ us.length) : ∀ k, hrCount us k ≤ hrCount (us.take m) k + hrCount (us.drop m) k
  | 0 => by simp [hrCount]
  | k + 1 => by
    have ih := hrCount_parts us m hm k
    simp only [hrCount, hrOpen_parts us m hm]
    cases hrOpen (us.take m) (↑k / 24) (↑k % 24) <;> cases hrOpen (us.drop m) (↑k / 24) (↑k % 24) <;> simp <;> omega
theorem hrCount_zero (us : HrL) : ∀ k, hrCount us k = 0 ↔ ∀ j, j < k → hrOpen us ((j : Int) / 24) ((j : Int) % 24) = false
  | 0 => by simp [hrCount]
  | k + 1 => by
    have ih := hrCount_zero us k
    have hb := hrCount_bounds us k
    simp only [hrCount]
    constructor
    · intro h j hj
      split at h
      · omega
      · rename_i hh
        by_cases e : j = k
        · subst e; simpa using hh
        · exact ih.1 (by omega) j (by omega)
    · intro h
      rw [if_neg (by rw [h k (by omega)]; simp), ih.2 (fun j hj => h j (by omega))]
      rfl
theorem firstOf_none {p : Nat → Bool} : ∀ f i, firstOf p f i = -1 ↔ ∀ j, i ≤ j → j < i + f → p j = false
  | 0, i => by simp [firstOf]; omega
  | f + 1, i => by
    have ih := firstOf_none (p := p) f (i + 1)
    simp only [firstOf]
    constructor
    · intro h j h1 h2
      split at h
      · omega
      · rename_i hh
        by_cases e : j = i
        · subst e; simpa using hh
        · exact ih.1 h j (by omega) (by omega)
    · intro h
      rw [if_neg (by rw [h i (by omega) (by omega)]; simp)]
      exact ih.2 (fun j h1 h2 => h j (by omega) (by omega))
theorem hrNext_zero (us : HrL) (hok : hrOk us = true) : (hrNext us 0 0 = -1) ↔ hrCount us 168 = 0 := by
  have h1 : (hrOk us && (inB 0 0 6 && inB 0 0 23)) = true := by simp [hok, inB]
  rw [hrNext, if_pos h1, firstOf_none, hrCount_zero]
  constructor
  · intro h j hj
    have := h j (by omega) (by omega)
    unfold hrP at this
    have e : (24 * (0 : Int) + 0 + (j : Int)) % 168 = j := by omega
    rw [e] at this
    have e2 : (24 * (0 : Int) + 0 + (j : Int)) % 24 = (j : Int) % 24 := by omega
    rwa [e2] at this
  · intro h j _ hj
    have := h j (by omega)
    unfold hrP
    have e : (24 * (0 : Int) + 0 + (j : Int)) % 168 = j := by omega
    have e2 : (24 * (0 : Int) + 0 + (j : Int)) % 24 = (j : Int) % 24 := by omega
    rw [e, e2]
    exact this
end Go.Proofs.Yticiggciigmhaaa
