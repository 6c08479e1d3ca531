/- Expressions: both say the same of validity: plain. -/
import Derived.Test.YtodjokdaofefdaaExT
import Derived.Test.YtodjokdaofefdaaExZ
namespace Go.Proofs.Ytodjokdaofefdaa
set_option linter.unusedSimpArgs false
set_option linter.unusedVariables false
open Go.RowKit

/-- At most d deep. -/
def inD : Nat → Ex → Prop
  | 0, _ => False
  | d + 1, t => ∀ p ∈ t.ps, inD d p
def gdR : Nat → Ex → Bool
  | 0, _ => false
  | d + 1, t => headB t && t.ps.all (gdR d)
theorem exR_in {lo hi : Nat} {w : World} : ∀ {d : Nat} {t : Ex} {cs : List Value}, exR d lo hi w t cs → inD d t
  | 0, _, _, h => h.elim
  | d + 1, t, cs, ⟨A, c, _, h, _⟩ => fun p hp => by
    obtain ⟨k, hk, rfl⟩ := List.getElem_of_mem hp
    obtain ⟨_, _, _, hc⟩ := h.2 (by omega)
    obtain ⟨_, _, h2, _⟩ := hc k hk
    exact exR_in h2
theorem mx_le {l : List Nat} {m : Nat} : mxL l ≤ m ↔ ∀ a ∈ l, a ≤ m := by
  induction l with
  | nil => simp [mxL]
  | cons b l ih => rw [mxL, Nat.max_le, ih]; simp
theorem szE_iff : ∀ (m d : Nat) (t : Ex), inD d t → ((szE m t ≠ 0 ↔ gdR d t = true ∧ dpR d t ≤ m) ∧ (szE m t ≠ 0 → szE m t = 1 + cntR d t))
  | _, 0, _, h => h.elim
  | 0, d + 1, t, _ => by simp [szE, dpR]
  | m + 1, d + 1, t, h => by
    have ih := fun p hp => szE_iff m d p (h p hp)
    have hall : (t.ps.all (fun p => decide (szE m p ≠ 0)) = true) ↔ (t.ps.all (gdR d) = true ∧ mxL (t.ps.map (dpR d)) ≤ m) := by
      rw [mx_le, List.all_eq_true, List.all_eq_true]
      simp only [decide_eq_true_eq, List.mem_map, forall_exists_index, and_imp, forall_apply_eq_imp_iff₂]
      constructor
      · exact fun h => ⟨fun p hp => ((ih p hp).1.1 (h p hp)).1, fun p hp => ((ih p hp).1.1 (h p hp)).2⟩
      · exact fun h p hp => (ih p hp).1.2 ⟨h.1 p hp, h.2 p hp⟩
    have hsum : (t.ps.all (fun p => decide (szE m p ≠ 0)) = true) → (t.ps.map (szE m)).sum = t.ps.length + (t.ps.map (cntR d)).sum := by
      intro ha
      have ha2 : ∀ p ∈ t.ps, szE m p = 1 + cntR d p := fun p hp => (ih p hp).2 (by simpa using List.all_eq_true.1 ha p hp)
      generalize t.ps = l at ha2
      induction l with
      | nil => simp
      | cons a l ihl =>
        have h1 := ha2 a (by simp)
        have h2 := ihl (fun p hp => ha2 p (by simp [hp]))
        simp only [List.map_cons, List.sum_cons, List.length_cons]
        omega
    rw [szE, gdR, dpR, cntR]
    by_cases hc : (headB t && t.ps.all (fun p => decide (szE m p ≠ 0))) = true
    · rw [if_pos hc]
      have hc2 := Bool.and_eq_true_iff.1 hc
      have h1 := hall.1 hc2.2
      have h2 := hsum hc2.2
      refine ⟨⟨fun _ => ⟨by rw [hc2.1, h1.1]; rfl, by omega⟩, fun _ => by omega⟩, fun _ => by omega⟩
    · rw [if_neg hc]
      refine ⟨⟨fun h => absurd rfl h, fun h => absurd (Bool.and_eq_true_iff.2 ⟨(Bool.and_eq_true_iff.1 h.1).1, hall.2 ⟨(Bool.and_eq_true_iff.1 h.1).2, by omega⟩⟩) hc⟩, fun h => absurd rfl h⟩
theorem exOk_eq {d : Nat} {t : Ex} (h : inD d t) : exOk t = (gdR d t && (decide (1 + cntR d t ≤ 40) && decide (dpR d t ≤ 7))) := by
  obtain ⟨h1, h2⟩ := szE_iff 7 d t h
  rw [Bool.eq_iff_iff]
  simp only [exOk, inB_true, Bool.and_eq_true, decide_eq_true_eq]
  constructor
  · rintro ⟨g1, g2⟩
    have hne : szE 7 t ≠ 0 := by omega
    have := h2 hne
    have h3 := h1.1 hne
    exact ⟨h3.1, by omega, h3.2⟩
  · rintro ⟨g1, g2, g3⟩
    have hne := h1.2 ⟨g1, g3⟩
    have := h2 hne
    omega
end Go.Proofs.Ytodjokdaofefdaa
