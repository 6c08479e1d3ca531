/- Paths that fit patterns: both say the same: plain. -/
import Derived.Test.YtpmelhkhmichcaaDoorPaP
namespace Go.Proofs.YtpmelhkhmichcaaDoor
set_option linter.unusedSimpArgs false
set_option linter.unusedVariables false
open Go.RowKit

def pathOk (s : ByteArray) : Bool := decide (∀ i, i < (pws s).length → nmOk (sg0 (pws s) i) = true) && decide ((pws s).length ≤ 5)
abbrev Wd := List ByteArray
/-- By the reference, from here on. -/
def fitG : Wd → Wd → Bool
  | a, [] => a.isEmpty
  | [], _ :: _ => false
  | x :: a, y :: b => if y = star2 then true else if ¬ y = star1 ∧ ¬ y = x then false else fitG a b
/-- The words for each number of words. -/
def lens (ws : Wd) : List Wd := if ws.getLast? = some star2 then (List.range (5 - (ws.length - 1))).map (fun j => ws.dropLast ++ List.replicate (j + 1) star1) else [ws]
def covW : Wd → Wd → Bool
  | [], [] => true
  | x :: a, y :: b => decide (x = star1 ∨ x = y) && covW a b
  | _, _ => false
def covBy (p : Wd) (ws : Wd) : Bool := (lens p).any (fun v => covW v ws)
theorem star_ne : star1 ≠ star2 := by
  intro h
  have := congrArg ByteArray.size h
  exact absurd this (by decide)
/-- Valid words of a pattern: two stars stand last. -/
def goodW : Wd → Prop
  | [] => True
  | [_] => True
  | y :: z :: b => y ≠ star2 ∧ goodW (z :: b)
theorem covW_len : ∀ {a b : Wd}, covW a b = true → a.length = b.length
  | [], [], _ => rfl
  | x :: a, y :: b, h => by
    simp only [covW, Bool.and_eq_true] at h
    simp [covW_len h.2]
  | [], _ :: _, h => by simp [covW] at h
  | _ :: _, [], h => by simp [covW] at h
theorem covW_stars : ∀ (b : Wd), covW (List.replicate b.length star1) b = true
  | [] => rfl
  | y :: b => by
    rw [List.length_cons, List.replicate_succ, covW, covW_stars b]
    simp
theorem fit_plain : ∀ (b a : Wd), (∀ y ∈ b, y ≠ star2) → fitG a b = covW b a
  | [], a, _ => by cases a <;> rfl
  | y :: b, [], _ => rfl
  | y :: b, x :: a, h => by
    rw [fitG, if_neg (h y (by simp)), covW, fit_plain b a (fun z hz => h z (by simp [hz]))]
    by_cases h2 : y = star1 ∨ y = x
    · rw [if_neg (by rintro ⟨h3, h4⟩; rcases h2 with h2 | h2; exact h3 h2; exact h4 h2), decide_eq_true h2, Bool.true_and]
    · rw [if_pos ⟨fun h3 => h2 (.inl h3), fun h3 => h2 (.inr h3)⟩, decide_eq_false h2, Bool.false_and]
theorem fit_star : ∀ (b a : Wd), (∀ y ∈ b, y ≠ star2) → (fitG a (b ++ [star2]) = true ↔ ∃ j, covW (b ++ List.replicate (j + 1) star1) a = true)
  | [], [], _ => by
    simp only [List.nil_append]
    rw [fitG]
    simp [List.replicate_succ, covW]
  | [], x :: a, _ => by
    simp only [List.nil_append]
    rw [fitG, if_pos rfl]
    refine ⟨fun _ => ⟨a.length, ?_⟩, fun _ => rfl⟩
    exact covW_stars (x :: a)
  | y :: b, [], _ => by
    simp only [List.cons_append]
    rw [fitG]
    simp [covW]
  | y :: b, x :: a, h => by
    simp only [List.cons_append]
    have ih := fit_star b a (fun z hz => h z (by simp [hz]))
    rw [fitG, if_neg (h y (by simp))]
    by_cases h2 : y = star1 ∨ y = x
    · rw [if_neg (by rintro ⟨h3, h4⟩; rcases h2 with h2 | h2; exact h3 h2; exact h4 h2), ih]
      simp only [covW, decide_eq_true h2, Bool.true_and]
    · rw [if_pos ⟨fun h3 => h2 (.inl h3), fun h3 => h2 (.inr h3)⟩]
      simp only [covW, decide_eq_false h2, Bool.false_and, Bool.false_eq_true, exists_false]
theorem goodW_last : ∀ {p : Wd}, goodW p → ∀ y ∈ p.dropLast, y ≠ star2
  | [], _, y, h => by simp at h
  | [_], _, y, h => by simp at h
  | y :: z :: b, h, x, hx => by
    rw [List.dropLast_cons_cons] at hx
    rcases List.mem_cons.1 hx with rfl | hx
    · exact h.1
    · exact goodW_last h.2 x hx
theorem fit_eq {p a : Wd} (hp : goodW p) (ha : a.length ≤ 5) : covBy p a = fitG a p := by
  rw [Bool.eq_iff_iff, covBy, lens]
  by_cases hl : p.getLast? = some star2
  · rw [if_pos hl]
    have hne : p ≠ [] := by rintro rfl; simp at hl
    have e : p = p.dropLast ++ [star2] := by
      rw [List.getLast?_eq_some_getLast hne, Option.some.injEq] at hl
      conv => lhs; rw [← List.dropLast_concat_getLast hne, hl]
    have hb := goodW_last hp
    have hf := fit_star p.dropLast a hb
    rw [← e] at hf
    rw [hf, List.any_eq_true]
    constructor
    · rintro ⟨v, hv, hc⟩
      obtain ⟨j, _, rfl⟩ := List.mem_map.1 hv
      exact ⟨j, hc⟩
    · rintro ⟨j, hc⟩
      refine ⟨_, List.mem_map.2 ⟨j, List.mem_range.2 ?_, rfl⟩, hc⟩
      have := covW_len hc
      simp only [List.length_append, List.length_dropLast, List.length_replicate] at this
      omega
  · rw [if_neg hl, List.any_cons, List.any_nil, Bool.or_false, fit_plain p a]
    intro y hy
    by_cases hne : p = []
    · subst hne; simp at hy
    · rw [← List.dropLast_concat_getLast hne] at hy
      rcases List.mem_append.1 hy with hy | hy
      · exact goodW_last hp y hy
      · simp only [List.mem_singleton] at hy
        rintro rfl
        exact hl (by rw [List.getLast?_eq_some_getLast hne, ← hy])
end Go.Proofs.YtpmelhkhmichcaaDoor
