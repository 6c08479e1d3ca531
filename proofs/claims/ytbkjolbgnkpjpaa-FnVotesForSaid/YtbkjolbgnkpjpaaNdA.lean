/- Needs and votes: the plain law. -/
import Derived.Test.YtbkjolbgnkpjpaaIlB
import Derived.Test.YtbkjolbgnkpjpaaVoT
import Derived.Test.YtbkjolbgnkpjpaaPer
namespace Go.Proofs.Ytbkjolbgnkpjpaa
open Go.RowKit

abbrev VoL := List (Int × Bool)
def ndOk (may : IL) (least asked : Int) : Bool := ascB may 6 && (inB least 1 7 && inB asked 0 6)
/-- Who is for it, after so many votes. -/
def voF (l : VoL) : Nat → Int → Bool
  | 0, _ => false
  | k + 1, z => if z = vo0 l k then vo1 l k else voF l k z
def voFor (may : IL) (asked : Int) (l : VoL) : IL := may.filter (fun who => decide (who ≠ asked) && voF l l.length who)
def ndFor (may : IL) (least asked : Int) (l : VoL) : IL := if ndOk may least asked && decide (l.length ≤ 20) then voFor may asked l else []
def ndApr (may : IL) (least asked : Int) (l : VoL) : Bool := ndOk may least asked && (decide (l.length ≤ 20) && decide (least ≤ (voFor may asked l).length))
/-- The first number from i on, among so many, at which p holds. -/
def firstOf (p : Nat → Bool) : Nat → Nat → Int
  | 0, _ => -1
  | f + 1, i => if p i then (i : Int) else firstOf p f (i + 1)
def ndAt (may : IL) (least asked : Int) (l : VoL) : Int := if l.length ≤ 20 then firstOf (fun k => ndApr may least asked (l.take k)) (l.length + 1) 0 else -1
theorem voFor_len (may : IL) (asked : Int) (l : VoL) : (voFor may asked l).length ≤ may.length := List.length_filter_le _ _
theorem ndFor_len (may : IL) (least asked : Int) (l : VoL) : (ndFor may least asked l).length ≤ may.length := by
  unfold ndFor; split
  · exact voFor_len _ _ _
  · simp
theorem ndOk_len {may : IL} {least asked : Int} (h : ndOk may least asked = true) : may.length ≤ 7 := by
  simp only [ndOk, Bool.and_eq_true] at h
  have := ascB_len (by omega) h.1
  omega
theorem ndOk_bounds {may : IL} {least asked : Int} (h : ndOk may least asked = true) : (1 ≤ least ∧ least ≤ 7) ∧ (0 ≤ asked ∧ asked ≤ 6) := by
  simp only [ndOk, Bool.and_eq_true] at h
  exact ⟨inB_true.1 h.2.1, inB_true.1 h.2.2⟩
theorem filter_take_succ {α : Type} (p : α → Bool) (l : List α) (k : Nat) (hk : k < l.length) : (l.take (k + 1)).filter p = if p l[k] = true then (l.take k).filter p ++ [l[k]] else (l.take k).filter p := by
  rw [List.take_succ_eq_append_getElem hk, List.filter_append]
  cases h : p l[k] <;> simp [h]
theorem voF_take (l : VoL) (m : Nat) : ∀ k, k ≤ m → ∀ z, voF (l.take m) k z = voF l k z
  | 0, _, _ => rfl
  | k + 1, h, z => by
    have e : ∀ (f : Nat), f < m → (l.take m).getD f voD = l.getD f voD := fun f hf => by simp [List.getD_eq_getElem?_getD, List.getElem?_take_of_lt hf]
    simp only [voF, vo0, vo1, e k (by omega), voF_take l m k (by omega) z]
    rfl
theorem firstOf_step {p : Nat → Bool} {N k : Nat} (hk : k < N) (h : firstOf p N 0 = firstOf p (N - k) k) : firstOf p N 0 = if p k then (k : Int) else firstOf p (N - (k + 1)) (k + 1) := by
  rw [h, show N - k = (N - (k + 1)) + 1 by omega, firstOf]
theorem firstOf_some {p : Nat → Bool} : ∀ (f i : Nat) (n : Int), firstOf p f i = n → 0 ≤ n → ∃ m : Nat, n = m ∧ i ≤ m ∧ m < i + f ∧ p m = true ∧ ∀ j, i ≤ j → j < m → p j = false
  | 0, i, n, h, hn => by simp [firstOf] at h; omega
  | f + 1, i, n, h, hn => by
    simp only [firstOf] at h
    split at h
    · rename_i hp
      exact ⟨i, h.symm, Nat.le_refl _, by omega, hp, fun j h1 h2 => by omega⟩
    · rename_i hp
      obtain ⟨m, h1, h2, h3, h4, h5⟩ := firstOf_some f (i + 1) n h hn
      refine ⟨m, h1, by omega, by omega, h4, fun j h6 h7 => ?_⟩
      by_cases e : j = i
      · subst e; simpa using hp
      · exact h5 j (by omega) h7
theorem firstOf_cases {p : Nat → Bool} (f : Nat) : ∀ i, (firstOf p f i = -1 ∧ ∀ j, i ≤ j → j < i + f → p j = false) ∨ 0 ≤ firstOf p f i := by
  induction f with
  | zero => intro i; exact .inl ⟨rfl, fun j h1 h2 => by omega⟩
  | succ f ih =>
    intro i
    simp only [firstOf]
    cases hp : p i
    · simp only [Bool.false_eq_true, if_false]
      rcases ih (i + 1) with ⟨h1, h2⟩ | h1
      · refine .inl ⟨h1, fun j h3 h4 => ?_⟩
        by_cases e : j = i
        · subst e; exact hp
        · exact h2 j (by omega) (by omega)
      · exact .inr h1
    · right; simp
end Go.Proofs.Ytbkjolbgnkpjpaa
