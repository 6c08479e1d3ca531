/- Paths: words of a text, by a byte between them: plain. -/
import Derived.Test.YtpmelhkhmichcaaDoorKit
import Derived.Lib.SplitLaws
namespace Go.Proofs.YtpmelhkhmichcaaDoor
set_option linter.unusedSimpArgs false
set_option linter.unusedVariables false
open Go.RowKit

/-- The words of a text, with c between them. -/
def wdL (c : UInt8) : List UInt8 → List (List UInt8)
  | [] => [[]]
  | b :: l => if b = c then [] :: wdL c l else match wdL c l with
    | [] => [[b]]
    | h :: t => (b :: h) :: t
theorem wdL_ne (c : UInt8) : ∀ l, wdL c l ≠ []
  | [] => by simp [wdL]
  | b :: l => by
    rw [wdL]
    split
    · simp
    · split <;> simp
def bsOf (l : List UInt8) : ByteArray := ⟨l.toArray⟩
theorem bsOf_data (s : ByteArray) : bsOf s.data.toList = s := by
  obtain ⟨⟨l⟩⟩ := s
  rfl
def wds (c : UInt8) (s : ByteArray) : List ByteArray := (wdL c s.data.toList).map bsOf
theorem index_cons (c b : UInt8) (l : List UInt8) : Lib.index (b :: l) [c] = if b = c then 0 else if Lib.index l [c] = -1 then -1 else Lib.index l [c] + 1 := by
  rw [Lib.index]
  by_cases h : b = c
  · subst h; simp [List.isPrefixOf]
  · have h2 : ([c] : List UInt8).isPrefixOf (b :: l) = false := by simp [List.isPrefixOf, Ne.symm h]
    rw [if_neg (by rw [h2]; simp), if_neg h]
    simp
theorem splitK_wdL (c : UInt8) : ∀ l : List UInt8, Lib.splitK [c] 0 (Lib.count l [c]) l = wdL c l
  | [] => by
    rw [Lib.count_one]
    rfl
  | b :: l => by
    have ih := splitK_wdL c l
    rw [Lib.count_one] at ih ⊢
    by_cases h : b = c
    · subst h
      have hc : List.count b (b :: l) = List.count b l + 1 := by simp
      rw [hc, Lib.splitK, index_cons, if_pos rfl, wdL, if_pos rfl]
      simp [ih]
    · have hc : List.count c (b :: l) = List.count c l := List.count_cons_of_ne (by simpa using h)
      rw [hc, wdL, if_neg h, ← ih]
      cases hk : List.count c l with
      | zero => rfl
      | succ k =>
        rw [Lib.splitK, Lib.splitK, index_cons, if_neg h]
        by_cases hi : Lib.index l [c] = -1
        · simp [hi]
        · have hge := Lib.index_ge l [c]
          obtain ⟨j, hj⟩ : ∃ j : Nat, Lib.index l [c] = j := ⟨(Lib.index l [c]).toNat, by omega⟩
          have h1 : ((j : Int) == -1) = false := by simp <;> omega
          have h2 : ((j : Int) + 1 == -1) = false := by simp <;> omega
          have h3 : ¬ ((j : Int) = -1) := by omega
          have h4 : ((j : Int) + 1).toNat = j + 1 := by omega
          rw [hj, if_neg h3, h1, h2]
          simp [h4]
theorem splitB_wds (c : UInt8) (s : ByteArray) : Lib.splitB ⟨#[c]⟩ 0 (Lib.countB s ⟨#[c]⟩) s = wds c s := by
  have h := Lib.splitB_data ⟨#[c]⟩ 0 (Lib.countB s ⟨#[c]⟩) s
  have h2 := splitK_wdL c s.data.toList
  have h3 : Lib.splitB ⟨#[c]⟩ 0 (Lib.countB s ⟨#[c]⟩) s = ((Lib.splitB ⟨#[c]⟩ 0 (Lib.countB s ⟨#[c]⟩) s).map (·.data.toList)).map bsOf := by
    rw [List.map_map]
    conv => lhs; rw [← List.map_id (Lib.splitB ⟨#[c]⟩ 0 (Lib.countB s ⟨#[c]⟩) s)]
    apply List.map_congr_left
    intro x _
    exact (bsOf_data x).symm
  rw [h3, h]
  show List.map bsOf (Lib.splitK [c] 0 (Lib.count s.data.toList [c]) s.data.toList) = wds c s
  rw [h2]
  rfl
/-- One byte more. -/
def wdStep (c : UInt8) (out : List (List UInt8)) (b : UInt8) : List (List UInt8) := if b = c then out ++ [[]] else out.dropLast ++ [(out.getLast?.getD []) ++ [b]]
/-- Words already closed, the one under way, what is still to come. -/
theorem wd_fold (c : UInt8) : ∀ (l : List UInt8) (out : List (List UInt8)) (x : List UInt8), l.foldl (wdStep c) (out ++ [x]) = out ++ (match wdL c l with | [] => [x] | h :: t => (x ++ h) :: t)
  | [], out, x => by simp [wdL]
  | b :: l, out, x => by
    rw [List.foldl_cons]
    by_cases h : b = c
    · rw [wdStep, if_pos h, wdL, if_pos h]
      have ih := wd_fold c l (out ++ [x]) []
      rw [ih]
      cases hw : wdL c l with
      | nil => exact absurd hw (wdL_ne c l)
      | cons a t => simp
    · rw [wdStep, if_neg h, wdL, if_neg h]
      have ih := wd_fold c l out (x ++ [b])
      simp only [List.dropLast_concat, List.getLast?_append, List.getLast?_singleton, Option.some_or, Option.getD_some]
      rw [ih]
      cases hw : wdL c l with
      | nil => exact absurd hw (wdL_ne c l)
      | cons a t => simp
theorem wd_all (c : UInt8) (l : List UInt8) : l.foldl (wdStep c) [[]] = wdL c l := by
  have h := wd_fold c l [] []
  rw [List.nil_append] at h
  rw [h]
  cases hw : wdL c l with
  | nil => exact absurd hw (wdL_ne c l)
  | cons a t => simp
theorem wdL_len (c : UInt8) (l : List UInt8) : (wdL c l).length ≤ l.length + 1 := by
  induction l with
  | nil => simp [wdL]
  | cons b l ih =>
    rw [wdL]
    split
    · simp; omega
    · split
      · simp
      · rename_i h t e; rw [e] at ih; simp at ih ⊢; omega
theorem wdL_size (c : UInt8) : ∀ (l : List UInt8), ∀ x ∈ wdL c l, x.length ≤ l.length
  | [] => by simp [wdL]
  | b :: l => by
    have ih := wdL_size c l
    rw [wdL]
    split
    · intro x hx
      rcases List.mem_cons.1 hx with rfl | hx
      · simp
      · have := ih x hx; simp; omega
    · split
      · intro x hx; simp at hx; subst hx; simp
      · rename_i h t e
        rw [e] at ih
        intro x hx
        rcases List.mem_cons.1 hx with rfl | hx
        · have := ih h (by simp); simp; omega
        · have := ih x (by simp [hx]); simp; omega
end Go.Proofs.YtpmelhkhmichcaaDoor
