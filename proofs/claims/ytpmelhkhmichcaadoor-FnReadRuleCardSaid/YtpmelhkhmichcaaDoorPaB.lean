/- Paths: words of a text, valid patterns (plain); words by the reference (plain). -/
import Derived.Test.YtpmelhkhmichcaaDoorKit
import Derived.Lib.SplitLaws
import Derived.Test.YtpmelhkhmichcaaDoorSgT
import Derived.Test.YtpmelhkhmichcaaDoorAlv
import Derived.Test.YtpmelhkhmichcaaDoorRe2
import Derived.Test.YtpmelhkhmichcaaDoorKi3
namespace Go.Proofs.YtpmelhkhmichcaaDoor
set_option linter.unusedSimpArgs false
set_option linter.unusedVariables false
open Go.RowKit

/-- The words of a text, with c between them. -/
def wdL (c : UInt8) : List UInt8 → List (List UInt8)
  | [] => [[]]
  | b :: l => if b = c then [] :: wdL c l else match wdL c l with
    | [] => [[b]]
    | h :: t => (b :: h) :: t
theorem wdL_ne (c : UInt8) : ∀ l, wdL c l ≠ []
  | [] => by simp [wdL]
  | b :: l => by
    rw [wdL]
    split
    · simp
    · split <;> simp
def bsOf (l : List UInt8) : ByteArray := ⟨l.toArray⟩
theorem bsOf_data (s : ByteArray) : bsOf s.data.toList = s := by
  obtain ⟨⟨l⟩⟩ := s
  rfl
def wds (c : UInt8) (s : ByteArray) : List ByteArray := (wdL c s.data.toList).map bsOf
theorem index_cons (c b : UInt8) (l : List UInt8) : Lib.index (b :: l) [c] = if b = c then 0 else if Lib.index l [c] = -1 then -1 else Lib.index l [c] + 1 := by
  rw [Lib.index]
  by_cases h : b = c
  · subst h; simp [List.isPrefixOf]
  · have h2 : ([c] : List UInt8).isPrefixOf (b :: l) = false := by simp [List.isPrefixOf, Ne.symm h]
    rw [if_neg (by rw [h2]; simp), if_neg h]
    simp
theorem splitK_wdL (c : UInt8) : ∀ l : List UInt8, Lib.splitK [c] 0 (Lib.count l [c]) l = wdL c l
  | [] => by
    rw [Lib.count_one]
    rfl
  | b :: l => by
    have ih := splitK_wdL c l
    rw [Lib.count_one] at ih ⊢
    by_cases h : b = c
    · subst h
      have hc : List.count b (b :: l) = List.count b l + 1 := by simp
      rw [hc, Lib.splitK, index_cons, if_pos rfl, wdL, if_pos rfl]
      simp [ih]
    · have hc : List.count c (b :: l) = List.count c l := List.count_cons_of_ne (by simpa using h)
      rw [hc, wdL, if_neg h, ← ih]
      cases hk : List.count c l with
      | zero => rfl
      | succ k =>
        rw [Lib.splitK, Lib.splitK, index_cons, if_neg h]
        by_cases hi : Lib.index l [c] = -1
        · simp [hi]
        · have hge := Lib.index_ge l [c]
          obtain ⟨j, hj⟩ : ∃ j : Nat, Lib.index l [c] = j := ⟨(Lib.index l [c]).toNat, by omega⟩
          have h1 : ((j : Int) == -1) = false := by simp <;> omega
          have h2 : ((j : Int) + 1 == -1) = false := by simp <;> omega
          have h3 : ¬ ((j : Int) = -1) := by omega
          have h4 : ((j : Int) + 1).toNat = j + 1 := by omega
          rw [hj, if_neg h3, h1, h2]
          simp [h4]
theorem splitB_wds (c : UInt8) (s : ByteArray) : Lib.splitB ⟨#[c]⟩ 0 (Lib.countB s ⟨#[c]⟩) s = wds c s := by
  have h := Lib.splitB_data ⟨#[c]⟩ 0 (Lib.countB s ⟨#[c]⟩) s
  have h2 := splitK_wdL c s.data.toList
  have h3 : Lib.splitB ⟨#[c]⟩ 0 (Lib.countB s ⟨#[c]⟩) s = ((Lib.splitB ⟨#[c]⟩ 0 (Lib.countB s ⟨#[c]⟩) s).map (·.data.toList)).map bsOf := by
    rw [List.map_map]
    conv => lhs; rw [← List.map_id (Lib.splitB ⟨#[c]⟩ 0 (Lib.countB s ⟨#[c]⟩) s)]
    apply List.map_congr_left
    intro x _
    exact (bsOf_data x).symm
  rw [h3, h]
  show List.map bsOf (Lib.splitK [c] 0 (Lib.count s.data.toList [c]) s.data.toList) = wds c s
  rw [h2]
  rfl
/-- One byte more. -/
def wdStep (c : UInt8) (out : List (List UInt8)) (b : UInt8) : List (List UInt8) := if b = c then out ++ [[]] else out.dropLast ++ [(out.getLast?.getD []) ++ [b]]
/-- Words already closed, the one under way, what is still to come. -/
theorem wd_fold (c : UInt8) : ∀ (l : List UInt8) (out : List (List UInt8)) (x : List UInt8), l.foldl (wdStep c) (out ++ [x]) = out ++ (match wdL c l with | [] => [x] | h :: t => (x ++ h) :: t)
  | [], out, x => by simp [wdL]
  | b :: l, out, x => by
    rw [List.foldl_cons]
    by_cases h : b = c
    · rw [wdStep, if_pos h, wdL, if_pos h]
      have ih := wd_fold c l (out ++ [x]) []
      rw [ih]
      cases hw : wdL c l with
      | nil => exact absurd hw (wdL_ne c l)
      | cons a t => simp
    · rw [wdStep, if_neg h, wdL, if_neg h]
      have ih := wd_fold c l out (x ++ [b])
      simp only [List.dropLast_concat, List.getLast?_append, List.getLast?_singleton, Option.some_or, Option.getD_some]
      rw [ih]
      cases hw : wdL c l with
      | nil => exact absurd hw (wdL_ne c l)
      | cons a t => simp
theorem wd_all (c : UInt8) (l : List UInt8) : l.foldl (wdStep c) [[]] = wdL c l := by
  have h := wd_fold c l [] []
  rw [List.nil_append] at h
  rw [h]
  cases hw : wdL c l with
  | nil => exact absurd hw (wdL_ne c l)
  | cons a t => simp
theorem wdL_len (c : UInt8) (l : List UInt8) : (wdL c l).length ≤ l.length + 1 := by
  induction l with
  | nil => simp [wdL]
  | cons b l ih =>
    rw [wdL]
    split
    · simp; omega
    · split
      · simp
      · rename_i h t e; rw [e] at ih; simp at ih ⊢; omega
theorem wdL_size (c : UInt8) : ∀ (l : List UInt8), ∀ x ∈ wdL c l, x.length ≤ l.length
  | [] => by simp [wdL]
  | b :: l => by
    have ih := wdL_size c l
    rw [wdL]
    split
    · intro x hx
      rcases List.mem_cons.1 hx with rfl | hx
      · simp
      · have := ih x hx; simp; omega
    · split
      · intro x hx; simp at hx; subst hx; simp
      · rename_i h t e
        rw [e] at ih
        intro x hx
        rcases List.mem_cons.1 hx with rfl | hx
        · have := ih h (by simp); simp; omega
        · have := ih x (by simp [hx]); simp; omega
def star1 : ByteArray := ⟨#[42]⟩
def star2 : ByteArray := ⟨#[42, 42]⟩
/-- The words of a path. -/
def pws (s : ByteArray) : List ByteArray := wds 47 s
def pwOk (ws : List ByteArray) (i : Nat) : Bool := nmOk (sg0 ws i) || (decide (sg0 ws i = star1) || (decide (sg0 ws i = star2) && !decide (i + 1 < ws.length)))
def patOk (s : ByteArray) : Bool := decide (∀ i, i < (pws s).length → pwOk (pws s) i = true) && decide ((pws s).length ≤ 5)
theorem patOk_no {s : ByteArray} {k : Nat} (hk : k < (pws s).length) (h : pwOk (pws s) k = false) : patOk s = false := by
  rw [patOk, Bool.and_eq_false_iff]
  left
  rw [decide_eq_false_iff_not]
  intro hh
  rw [hh k hk] at h
  cases h
theorem patOk_yes {s : ByteArray} (h : ∀ k, k < (pws s).length → pwOk (pws s) k = true) : patOk s = decide ((pws s).length ≤ 5) := by
  rw [patOk, decide_eq_true h, Bool.true_and]
theorem pws_len (s : ByteArray) : (pws s).length ≤ s.size + 1 := by
  rw [pws, wds, List.length_map]
  have := wdL_len 47 s.data.toList
  rw [show s.data.toList.length = s.size from rfl] at this
  exact this
theorem pws_pos (s : ByteArray) : 0 < (pws s).length := by
  rw [pws, wds, List.length_map]
  have := wdL_ne 47 s.data.toList
  exact List.length_pos_iff.2 this
theorem pws_size {s : ByteArray} {k : Nat} (hk : k < (pws s).length) : (sg0 (pws s) k).size ≤ s.size := by
  have e : sg0 (pws s) k = (pws s)[k] := sg_elem hk
  rw [e]
  have hm : (pws s)[k] ∈ pws s := List.getElem_mem hk
  unfold pws wds at hm
  obtain ⟨x, hx, h2⟩ := List.mem_map.1 hm
  have := wdL_size 47 _ x hx
  rw [show (pws s)[k] = bsOf x from h2.symm]
  exact this
/-- The words of the first bytes. -/
def wlK (s : ByteArray) (k : Nat) : List ByteArray := ((s.data.toList.take k).foldl (wdStep 47) [[]]).map bsOf
theorem wlK_zero (s : ByteArray) : wlK s 0 = [ByteArray.empty] := rfl
theorem wlK_all (s : ByteArray) : wlK s s.size = pws s := by
  rw [wlK, show s.size = s.data.toList.length from rfl, List.take_length, wd_all]
  rfl
theorem fold_take {s : ByteArray} {k : Nat} (hk : k < s.size) : (s.data.toList.take (k + 1)).foldl (wdStep 47) [[]] = wdStep 47 ((s.data.toList.take k).foldl (wdStep 47) [[]]) (s[k]'hk) := by
  rw [List.take_succ_eq_append_getElem (show k < s.data.toList.length from hk), List.foldl_append]
  rfl
theorem wdStep_ne {c b : UInt8} {out : List (List UInt8)} : wdStep c out b ≠ [] := by
  unfold wdStep; split <;> simp
theorem fold_ne (l : List UInt8) : ∀ {out : List (List UInt8)}, out ≠ [] → l.foldl (wdStep 47) out ≠ [] := by
  induction l with
  | nil => intro out h; exact h
  | cons b l ih => intro out h; exact ih wdStep_ne
theorem fold_len (l : List UInt8) : ∀ (out : List (List UInt8)), out ≠ [] → (l.foldl (wdStep 47) out).length ≤ out.length + l.length := by
  induction l with
  | nil => intro out _; simp
  | cons b l ih =>
    intro out ho
    have := ih (wdStep 47 out b) wdStep_ne
    have h2 : (wdStep 47 out b).length ≤ out.length + 1 := by
      unfold wdStep
      split
      · simp
      · have := List.length_pos_iff.2 ho
        simp <;> omega
    simp only [List.foldl_cons, List.length_cons]
    omega
theorem wlK_pos (s : ByteArray) (k : Nat) : 0 < (wlK s k).length := by
  rw [wlK, List.length_map]
  exact List.length_pos_iff.2 (fold_ne _ (by simp))
theorem wlK_len (s : ByteArray) (k : Nat) : (wlK s k).length ≤ 1 + s.size := by
  rw [wlK, List.length_map]
  have := fold_len (s.data.toList.take k) [[]] (by simp)
  have h2 : (s.data.toList.take k).length ≤ s.size := by rw [List.length_take]; exact Nat.min_le_right _ _
  simp only [List.length_singleton] at this
  omega
theorem wlK_sep {s : ByteArray} {k : Nat} (hk : k < s.size) (h : s[k]'hk = 47) : wlK s (k + 1) = wlK s k ++ [ByteArray.empty] := by
  rw [wlK, fold_take hk, h, wdStep, if_pos rfl, List.map_append]
  rfl
theorem bs_add (a b : List UInt8) : bsOf a ++ bsOf b = bsOf (a ++ b) := by
  apply ByteArray.ext
  simp [bsOf]
theorem bs_one {s : ByteArray} {k : Nat} (hk : k < s.size) : s.extract k (k + 1) = bsOf [s[k]'hk] := by
  obtain ⟨⟨l⟩⟩ := s
  have hk2 : k < l.length := hk
  apply ByteArray.ext
  apply Array.ext'
  show ((ByteArray.mk ⟨l⟩).extract k (k + 1)).data.toList = [l[k]]
  simp only [ByteArray.data_extract]
  rw [Array.toList_extract]
  show List.extract l k (k + 1) = [l[k]]
  rw [List.extract_eq_take_drop, Nat.add_sub_cancel_left, List.drop_eq_getElem_cons hk2]
  rfl
theorem wlK_add {s : ByteArray} {k : Nat} (hk : k < s.size) (h : ¬ s[k]'hk = 47) : wlK s (k + 1) = (wlK s k).set ((wlK s k).length - 1) (sg0 (wlK s k) ((wlK s k).length - 1) ++ s.extract k (k + 1)) := by
  have hne := fold_ne (s.data.toList.take k) (out := [[]]) (by simp)
  rw [wlK, fold_take hk, wdStep, if_neg h]
  obtain ⟨x, a, e⟩ : ∃ (x : List (List UInt8)) (a : List UInt8), (s.data.toList.take k).foldl (wdStep 47) [[]] = x ++ [a] := ⟨_, _, (List.dropLast_concat_getLast hne).symm⟩
  have e2 : wlK s k = x.map bsOf ++ [bsOf a] := by rw [wlK, e]; simp
  rw [e2, e, bs_one hk]
  have hl : (x.map bsOf ++ [bsOf a]).length - 1 = x.length := by simp
  rw [hl]
  have hs : sg0 (x.map bsOf ++ [bsOf a]) x.length = bsOf a := by
    unfold sg0
    simp
  rw [hs, bs_add]
  simp only [List.dropLast_concat, List.getLast?_append, List.getLast?_singleton, Option.some_or, Option.getD_some, List.map_append, List.map_cons, List.map_nil]
  rw [show (x.map bsOf ++ [bsOf a]).set x.length (bsOf (a ++ [s[k]'hk])) = x.map bsOf ++ [bsOf (a ++ [s[k]'hk])] by rw [List.set_append, if_neg (by simp)]; simp]
theorem wdStep_size {c b : UInt8} {n : Nat} {out : List (List UInt8)} (ho : out ≠ []) (h : ∀ x ∈ out, x.length ≤ n) : ∀ x ∈ wdStep c out b, x.length ≤ n + 1 := by
  unfold wdStep
  split
  · intro x hx
    rcases List.mem_append.1 hx with hx | hx
    · have := h x hx; omega
    · simp at hx; subst hx; simp
  · obtain ⟨y, a, rfl⟩ : ∃ (y : List (List UInt8)) (a : List UInt8), out = y ++ [a] := ⟨_, _, (List.dropLast_concat_getLast ho).symm⟩
    simp only [List.dropLast_concat, List.getLast?_append, List.getLast?_singleton, Option.some_or, Option.getD_some]
    intro x hx
    rcases List.mem_append.1 hx with hx | hx
    · have := h x (by simp [hx]); omega
    · have := h a (by simp)
      simp at hx; subst hx; simp; omega
theorem fold_size : ∀ (l : List UInt8) {n : Nat} {out : List (List UInt8)}, out ≠ [] → (∀ x ∈ out, x.length ≤ n) → ∀ x ∈ l.foldl (wdStep 47) out, x.length ≤ n + l.length
  | [], n, out, _, h => h
  | b :: l, n, out, ho, h => by
    intro x hx
    have := fold_size l (n := n + 1) wdStep_ne (wdStep_size (c := 47) (b := b) ho h) x hx
    simp only [List.length_cons]; omega
theorem wlK_size {s : ByteArray} {k j : Nat} (hj : j < (wlK s k).length) : (sg0 (wlK s k) j).size ≤ s.size := by
  have e : sg0 (wlK s k) j = (wlK s k)[j] := sg_elem hj
  rw [e]
  have hm : (wlK s k)[j] ∈ wlK s k := List.getElem_mem hj
  generalize (wlK s k)[j] = y at hm
  unfold wlK at hm
  obtain ⟨x, hx, rfl⟩ := List.mem_map.1 hm
  have h1 := fold_size (s.data.toList.take k) (n := 0) (out := [[]]) (by simp) (by simp) x hx
  have h2 : (s.data.toList.take k).length ≤ s.size := by rw [List.length_take]; exact Nat.min_le_right _ _
  show x.length ≤ s.size
  omega
end Go.Proofs.YtpmelhkhmichcaaDoor
