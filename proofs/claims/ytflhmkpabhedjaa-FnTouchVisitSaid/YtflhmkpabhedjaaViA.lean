/- Visits: the plain law. -/
import Derived.Test.YtflhmkpabhedjaaViT
namespace Go.Proofs.Ytflhmkpabhedjaa
open Go.RowKit

abbrev ViL := List (Int × Int × Int)
def viOne (l : ViL) (k : Nat) : Bool := inB (vi0 l k) 0 6 && (inB (vi1 l k) 0 1000 && inB (vi2 l k) (vi1 l k) 1000)
def viNew (l : ViL) (k : Nat) : Bool := decide (∀ j, j < k → vi0 l j ≠ vi0 l k)
def viGood (l : ViL) (k : Nat) : Bool := viOne l k && viNew l k
def viAll (l : ViL) : Bool := decide (∀ k, k < l.length → viGood l k = true)
def viEnds (long idle : Int) (l : ViL) : Bool := decide (l.length ≤ 6) && (inB long 1 1000 && inB idle 1 1000)
def viOk (long idle : Int) (l : ViL) : Bool := viAll l && viEnds long idle l
theorem viAll_iff {l : ViL} : viAll l = true ↔ ∀ k, k < l.length → viGood l k = true := by simp [viAll]
theorem viGood_iff {l : ViL} {k : Nat} : viGood l k = true ↔ ((0 ≤ vi0 l k ∧ vi0 l k ≤ 6) ∧ (0 ≤ vi1 l k ∧ vi1 l k ≤ 1000) ∧ vi1 l k ≤ vi2 l k ∧ vi2 l k ≤ 1000) ∧ ∀ j, j < k → vi0 l j ≠ vi0 l k := by
  simp [viGood, viOne, viNew, inB]
theorem viOk_no {long idle : Int} {l : ViL} {k : Nat} (hk : k < l.length) (h : viGood l k = false) : viOk long idle l = false := by
  have : viAll l = false := by
    simp only [viAll, decide_eq_false_iff_not]
    exact fun hh => by rw [hh k hk] at h; cases h
  simp [viOk, this]
theorem viOk_yes {long idle : Int} {l : ViL} (h : ∀ k, k < l.length → viGood l k = true) : viOk long idle l = viEnds long idle l := by
  simp [viOk, viAll_iff.2 h]
def viLasts (long idle now : Int) (v : Int × Int × Int) : Bool := decide (v.2.2 ≤ now ∧ now - v.2.1 < long ∧ now - v.2.2 < idle)
def viLast (long idle now : Int) (l : ViL) : ViL := l.filter (viLasts long idle now)
def viEnd (long idle : Int) (l : ViL) (now : Int) : ViL := if viOk long idle l && inB now 0 1000 then viLast long idle now l else []
theorem viLast_succ {long idle now : Int} {l : ViL} {k : Nat} (hk : k < l.length) : viLast long idle now (l.take (k + 1)) = if viLasts long idle now (vi0 l k, vi1 l k, vi2 l k) = true then viLast long idle now (l.take k) ++ [(vi0 l k, vi1 l k, vi2 l k)] else viLast long idle now (l.take k) := by
  rw [vi_elem hk, viLast, viLast, List.take_succ_eq_append_getElem hk, List.filter_append]
  cases h : viLasts long idle now l[k] <;> simp [h]
theorem viLast_len (long idle now : Int) (l : ViL) : (viLast long idle now l).length ≤ l.length := List.length_filter_le _ _
theorem viEnd_len (long idle now : Int) (l : ViL) : (viEnd long idle l now).length ≤ l.length := by
  unfold viEnd; split
  · exact viLast_len _ _ _ _
  · simp
def viBegin (long idle : Int) (l : ViL) (who now : Int) : ViL × Bool :=
  if viOk long idle l && (inB now 0 1000 && inB who 0 6) then
    (if ((viLast long idle now l).filter (fun v => decide (v.1 ≠ who))).length = 6 then (viLast long idle now l, false)
     else ((viLast long idle now l).filter (fun v => decide (v.1 ≠ who)) ++ [(who, now, now)], true))
  else ([], false)
def viSet (who now : Int) (v : Int × Int × Int) : Int × Int × Int := if v.1 = who then (v.1, v.2.1, now) else v
def viTouch (long idle : Int) (l : ViL) (who now : Int) : ViL × Bool :=
  if viOk long idle l && inB now 0 1000 then ((viLast long idle now l).map (viSet who now), (viLast long idle now l).any (fun v => decide (v.1 = who)))
  else ([], false)
/-- Nobody visits twice. -/
def viApart (l : ViL) : Prop := l.Pairwise (fun a b => a.1 ≠ b.1)
theorem viAll_apart {l : ViL} (h : viAll l = true) : viApart l := by
  unfold viApart
  rw [List.pairwise_iff_getElem]
  intro i j hi hj hij
  have := (viGood_iff.1 (viAll_iff.1 h j hj)).2 i hij
  rw [← vi_elem hi, ← vi_elem hj]
  exact this
theorem viAll_mem {l : ViL} : viAll l = true ↔ (∀ v ∈ l, (0 ≤ v.1 ∧ v.1 ≤ 6) ∧ (0 ≤ v.2.1 ∧ v.2.1 ≤ 1000) ∧ v.2.1 ≤ v.2.2 ∧ v.2.2 ≤ 1000) ∧ viApart l := by
  constructor
  · intro h
    refine ⟨fun v hv => ?_, viAll_apart h⟩
    obtain ⟨k, hk, rfl⟩ := List.getElem_of_mem hv
    have := (viGood_iff.1 (viAll_iff.1 h k hk)).1
    rwa [← vi_elem hk]
  · rintro ⟨h1, h2⟩
    rw [viAll_iff]
    intro k hk
    have e := vi_elem hk
    have h3 := h1 _ (List.getElem_mem hk)
    rw [← e] at h3
    refine viGood_iff.2 ⟨h3, fun j hj => ?_⟩
    have hjl : j < l.length := by omega
    have h4 := List.pairwise_iff_getElem.1 h2 j k hjl hk hj
    rw [← vi_elem hjl, ← e] at h4
    exact h4
theorem viOk_bounds {long idle : Int} {l : ViL} (h : viOk long idle l = true) : l.length ≤ 6 ∧ (1 ≤ long ∧ long ≤ 1000) ∧ (1 ≤ idle ∧ idle ≤ 1000) ∧ viAll l = true := by
  simp only [viOk, viEnds, Bool.and_eq_true, decide_eq_true_eq] at h
  exact ⟨h.2.1, inB_true.1 h.2.2.1, inB_true.1 h.2.2.2, h.1⟩
theorem viOk_of {long idle : Int} {l : ViL} (h0 : l.length ≤ 6) (h1 : 1 ≤ long ∧ long ≤ 1000) (h2 : 1 ≤ idle ∧ idle ≤ 1000) (h3 : viAll l = true) : viOk long idle l = true := by
  simp [viOk, viEnds, h0, h3, inB_true.2 h1, inB_true.2 h2]
theorem viAll_sub {l l' : ViL} (hs : l'.Sublist l) (h : viAll l = true) : viAll l' = true := by
  rw [viAll_mem] at h ⊢
  exact ⟨fun v hv => h.1 v (hs.subset hv), h.2.sublist hs⟩
theorem viOk_sub {long idle : Int} {l l' : ViL} (hs : l'.Sublist l) (h : viOk long idle l = true) : viOk long idle l' = true := by
  obtain ⟨h0, h1, h2, h3⟩ := viOk_bounds h
  exact viOk_of (Nat.le_trans hs.length_le h0) h1 h2 (viAll_sub hs h3)
theorem viLast_sub (long idle now : Int) (l : ViL) : (viLast long idle now l).Sublist l := List.filter_sublist
end Go.Proofs.Ytflhmkpabhedjaa
