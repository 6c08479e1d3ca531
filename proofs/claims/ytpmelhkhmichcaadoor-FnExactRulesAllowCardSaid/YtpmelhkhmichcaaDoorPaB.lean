/- Paths: words, by the reference: the walk. -/
import Derived.Test.YtpmelhkhmichcaaDoorPaP
import Derived.Test.YtpmelhkhmichcaaDoorRe2
import Derived.Test.YtpmelhkhmichcaaDoorKi3
namespace Go.Proofs.YtpmelhkhmichcaaDoor
set_option linter.unusedSimpArgs false
set_option linter.unusedVariables false
open Go.RowKit

/-- The words of the first bytes. -/
def wlK (s : ByteArray) (k : Nat) : List ByteArray := ((s.data.toList.take k).foldl (wdStep 47) [[]]).map bsOf
theorem wlK_zero (s : ByteArray) : wlK s 0 = [ByteArray.empty] := rfl
theorem wlK_all (s : ByteArray) : wlK s s.size = pws s := by
  rw [wlK, show s.size = s.data.toList.length from rfl, List.take_length, wd_all]
  rfl
theorem fold_take {s : ByteArray} {k : Nat} (hk : k < s.size) : (s.data.toList.take (k + 1)).foldl (wdStep 47) [[]] = wdStep 47 ((s.data.toList.take k).foldl (wdStep 47) [[]]) (s[k]'hk) := by
  rw [List.take_succ_eq_append_getElem (show k < s.data.toList.length from hk), List.foldl_append]
  rfl
theorem wdStep_ne {c b : UInt8} {out : List (List UInt8)} : wdStep c out b ≠ [] := by
  unfold wdStep; split <;> simp
theorem fold_ne (l : List UInt8) : ∀ {out : List (List UInt8)}, out ≠ [] → l.foldl (wdStep 47) out ≠ [] := by
  induction l with
  | nil => intro out h; exact h
  | cons b l ih => intro out h; exact ih wdStep_ne
theorem fold_len (l : List UInt8) : ∀ (out : List (List UInt8)), out ≠ [] → (l.foldl (wdStep 47) out).length ≤ out.length + l.length := by
  induction l with
  | nil => intro out _; simp
  | cons b l ih =>
    intro out ho
    have := ih (wdStep 47 out b) wdStep_ne
    have h2 : (wdStep 47 out b).length ≤ out.length + 1 := by
      unfold wdStep
      split
      · simp
      · have := List.length_pos_iff.2 ho
        simp <;> omega
    simp only [List.foldl_cons, List.length_cons]
    omega
theorem wlK_pos (s : ByteArray) (k : Nat) : 0 < (wlK s k).length := by
  rw [wlK, List.length_map]
  exact List.length_pos_iff.2 (fold_ne _ (by simp))
theorem wlK_len (s : ByteArray) (k : Nat) : (wlK s k).length ≤ 1 + s.size := by
  rw [wlK, List.length_map]
  have := fold_len (s.data.toList.take k) [[]] (by simp)
  have h2 : (s.data.toList.take k).length ≤ s.size := by rw [List.length_take]; exact Nat.min_le_right _ _
  simp only [List.length_singleton] at this
  omega
theorem wlK_sep {s : ByteArray} {k : Nat} (hk : k < s.size) (h : s[k]'hk = 47) : wlK s (k + 1) = wlK s k ++ [ByteArray.empty] := by
  rw [wlK, fold_take hk, h, wdStep, if_pos rfl, List.map_append]
  rfl
theorem bs_add (a b : List UInt8) : bsOf a ++ bsOf b = bsOf (a ++ b) := by
  apply ByteArray.ext
  simp [bsOf]
theorem bs_one {s : ByteArray} {k : Nat} (hk : k < s.size) : s.extract k (k + 1) = bsOf [s[k]'hk] := by
  obtain ⟨⟨l⟩⟩ := s
  have hk2 : k < l.length := hk
  apply ByteArray.ext
  apply Array.ext'
  show ((ByteArray.mk ⟨l⟩).extract k (k + 1)).data.toList = [l[k]]
  simp only [ByteArray.data_extract]
  rw [Array.toList_extract]
  show List.extract l k (k + 1) = [l[k]]
  rw [List.extract_eq_take_drop, Nat.add_sub_cancel_left, List.drop_eq_getElem_cons hk2]
  rfl
theorem wlK_add {s : ByteArray} {k : Nat} (hk : k < s.size) (h : ¬ s[k]'hk = 47) : wlK s (k + 1) = (wlK s k).set ((wlK s k).length - 1) (sg0 (wlK s k) ((wlK s k).length - 1) ++ s.extract k (k + 1)) := by
  have hne := fold_ne (s.data.toList.take k) (out := [[]]) (by simp)
  rw [wlK, fold_take hk, wdStep, if_neg h]
  obtain ⟨x, a, e⟩ : ∃ (x : List (List UInt8)) (a : List UInt8), (s.data.toList.take k).foldl (wdStep 47) [[]] = x ++ [a] := ⟨_, _, (List.dropLast_concat_getLast hne).symm⟩
  have e2 : wlK s k = x.map bsOf ++ [bsOf a] := by rw [wlK, e]; simp
  rw [e2, e, bs_one hk]
  have hl : (x.map bsOf ++ [bsOf a]).length - 1 = x.length := by simp
  rw [hl]
  have hs : sg0 (x.map bsOf ++ [bsOf a]) x.length = bsOf a := by
    unfold sg0
    simp
  rw [hs, bs_add]
  simp only [List.dropLast_concat, List.getLast?_append, List.getLast?_singleton, Option.some_or, Option.getD_some, List.map_append, List.map_cons, List.map_nil]
  rw [show (x.map bsOf ++ [bsOf a]).set x.length (bsOf (a ++ [s[k]'hk])) = x.map bsOf ++ [bsOf (a ++ [s[k]'hk])] by rw [List.set_append, if_neg (by simp)]; simp]
theorem wdStep_size {c b : UInt8} {n : Nat} {out : List (List UInt8)} (ho : out ≠ []) (h : ∀ x ∈ out, x.length ≤ n) : ∀ x ∈ wdStep c out b, x.length ≤ n + 1 := by
  unfold wdStep
  split
  · intro x hx
    rcases List.mem_append.1 hx with hx | hx
    · have := h x hx; omega
    · simp at hx; subst hx; simp
  · obtain ⟨y, a, rfl⟩ : ∃ (y : List (List UInt8)) (a : List UInt8), out = y ++ [a] := ⟨_, _, (List.dropLast_concat_getLast ho).symm⟩
    simp only [List.dropLast_concat, List.getLast?_append, List.getLast?_singleton, Option.some_or, Option.getD_some]
    intro x hx
    rcases List.mem_append.1 hx with hx | hx
    · have := h x (by simp [hx]); omega
    · have := h a (by simp)
      simp at hx; subst hx; simp; omega
theorem fold_size : ∀ (l : List UInt8) {n : Nat} {out : List (List UInt8)}, out ≠ [] → (∀ x ∈ out, x.length ≤ n) → ∀ x ∈ l.foldl (wdStep 47) out, x.length ≤ n + l.length
  | [], n, out, _, h => h
  | b :: l, n, out, ho, h => by
    intro x hx
    have := fold_size l (n := n + 1) wdStep_ne (wdStep_size (c := 47) (b := b) ho h) x hx
    simp only [List.length_cons]; omega
theorem wlK_size {s : ByteArray} {k j : Nat} (hj : j < (wlK s k).length) : (sg0 (wlK s k) j).size ≤ s.size := by
  have e : sg0 (wlK s k) j = (wlK s k)[j] := sg_elem hj
  rw [e]
  have hm : (wlK s k)[j] ∈ wlK s k := List.getElem_mem hj
  generalize (wlK s k)[j] = y at hm
  unfold wlK at hm
  obtain ⟨x, hx, rfl⟩ := List.mem_map.1 hm
  have h1 := fold_size (s.data.toList.take k) (n := 0) (out := [[]]) (by simp) (by simp) x hx
  have h2 : (s.data.toList.take k).length ≤ s.size := by rw [List.length_take]; exact Nat.min_le_right _ _
  show x.length ≤ s.size
  omega
end Go.Proofs.YtpmelhkhmichcaaDoor
