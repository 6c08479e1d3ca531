/- Guards: what both compute, and that they agree at valid expressions: plain. -/
import Derived.Test.YtodjokdaofefdaaExP
namespace Go.Proofs.Ytodjokdaofefdaa
set_option linter.unusedSimpArgs false
set_option linter.unusedVariables false
open Go.RowKit

noncomputable def hasB (l : ExL) (e : Ex) : Bool := l.any (fun x => sameX x e)
def asHas (t : Ex) : Ex := .nd 9 t.n t.s t.ps
def asHas0 (t : Ex) : Ex := .nd 9 0 t.s t.ps
/-- What is known if an expression holds, behind what is known before. -/
def knS : Nat → Ex → ExL → ExL
  | 0, _, l => l
  | d + 1, t, l => if t.k = 9 then l ++ [t] else if t.k = 14 then knS d (exAt t.ps 1) (knS d (exAt t.ps 0) l) else l
/-- By the reference. -/
noncomputable def guS : Nat → Ex → ExL → Bool
  | 0, _, _ => true
  | d + 1, t, l => if t.k = 7 then false else if t.k = 8 then hasB l (asHas0 t) && guS d (exAt t.ps 0) l
      else if t.k = 14 then guS d (exAt t.ps 0) l && guS d (exAt t.ps 1) (knS d (exAt t.ps 0) l) else t.ps.all (fun p => guS d p l)
/-- What is joined by ExprAnd. -/
def cjI : Nat → Ex → ExL
  | 0, _ => []
  | d + 1, t => if t.k = 14 then cjI d (exAt t.ps 0) ++ cjI d (exAt t.ps 1) else [t]
/-- By the program. -/
noncomputable def guI : Nat → Ex → ExL → Bool
  | 0, _, _ => true
  | d + 1, t, l => if t.k = 7 then false else if t.k = 8 ∧ hasB l (asHas t) = false then false
      else if t.k = 14 then guI d (exAt t.ps 0) l && guI d (exAt t.ps 1) (l ++ cjI d (exAt t.ps 0)) else t.ps.all (fun p => guI d p l)
theorem knS_eq : ∀ (d : Nat) (t : Ex) (l : ExL), knS d t l = l ++ (cjI d t).filter (fun x => decide (x.k = 9))
  | 0, t, l => by simp [knS, cjI]
  | d + 1, t, l => by
    rw [knS, cjI]
    by_cases h9 : t.k = 9
    · have h14 : ¬ t.k = 14 := by omega
      rw [if_pos h9, if_neg h14]; simp [h9]
    · rw [if_neg h9]
      by_cases h14 : t.k = 14
      · rw [if_pos h14, if_pos h14, knS_eq d, knS_eq d, List.filter_append, List.append_assoc]
      · rw [if_neg h14, if_neg h14]; simp [h9]
theorem hasB_append (l l' : ExL) (e : Ex) : hasB (l ++ l') e = (hasB l e || hasB l' e) := by simp [hasB, List.any_append]
theorem hasB_filter (l : ExL) {e : Ex} (h : e.k = 9) : hasB (l.filter (fun x => decide (x.k = 9))) e = hasB l e := by
  rw [Bool.eq_iff_iff]
  simp only [hasB, List.any_eq_true, List.mem_filter, decide_eq_true_eq, sameX_true]
  constructor
  · rintro ⟨x, ⟨hx, _⟩, rfl⟩; exact ⟨x, hx, rfl⟩
  · rintro ⟨x, hx, rfl⟩; exact ⟨x, ⟨hx, h⟩, rfl⟩
/-- Both lists have the same questions. -/
def Alk (l l' : ExL) : Prop := ∀ e : Ex, e.k = 9 → hasB l e = hasB l' e
theorem Alk.step {l l' : ExL} (h : Alk l l') (d : Nat) (t : Ex) : Alk (knS d t l) (l' ++ cjI d t) := fun e he => by
  rw [knS_eq, hasB_append, hasB_append, h e he, hasB_filter _ he]
theorem head_len {t : Ex} (h : headB t = true) : t.ps.length = arK t.k := by
  simp only [headB, Bool.and_eq_true, decide_eq_true_eq] at h
  exact h.2.2.1
theorem head_num {t : Ex} (h : headB t = true) : inB t.n 0 (mostK t.k) = true := by
  simp only [headB, Bool.and_eq_true, decide_eq_true_eq] at h
  exact h.2.1
theorem head_8 {t : Ex} (h : headB t = true) (h8 : t.k = 8) : t.n = 0 ∧ t.ps.length = 1 := by
  have h1 := head_len h
  have h2 := head_num h
  rw [h8] at h1 h2
  rw [inB_true] at h2
  have e1 : mostK 8 = 0 := by decide
  have e2 : arK 8 = 1 := by decide
  rw [e1] at h2
  rw [e2] at h1
  exact ⟨by omega, h1⟩
theorem head_14 {t : Ex} (h : headB t = true) (h14 : t.k = 14) : t.ps.length = 2 := by
  have h1 := head_len h
  rw [h14] at h1
  exact h1.trans (by decide)
theorem gd_head {d : Nat} {t : Ex} (h : gdR (d + 1) t = true) : headB t = true := (Bool.and_eq_true_iff.1 h).1
theorem gd_part {d : Nat} {t : Ex} (h : gdR (d + 1) t = true) {k : Nat} (hk : k < t.ps.length) : gdR d (exAt t.ps k) = true := by
  rw [exAt_eq hk]
  exact List.all_eq_true.1 (Bool.and_eq_true_iff.1 h).2 _ (List.getElem_mem hk)
theorem all_at {l : ExL} {p : Ex → Bool} : l.all p = true ↔ ∀ k, k < l.length → p (exAt l k) = true := by
  rw [List.all_eq_true]
  constructor
  · intro h k hk; rw [exAt_eq hk]; exact h _ (List.getElem_mem hk)
  · intro h x hx
    obtain ⟨k, hk, rfl⟩ := List.getElem_of_mem hx
    have := h k hk
    rwa [exAt_eq hk] at this
theorem all_1 {l : ExL} {p : Ex → Bool} (h : l.length = 1) : l.all p = p (exAt l 0) := by
  match l, h with
  | [x], _ => simp [exAt]
theorem gu_eq : ∀ (d : Nat) (t : Ex) (l l' : ExL), gdR d t = true → Alk l l' → guS d t l = guI d t l'
  | 0, _, _, _, _, _ => rfl
  | d + 1, t, l, l', hg, ha => by
    rw [guS, guI]
    by_cases h7 : t.k = 7
    · rw [if_pos h7, if_pos h7]
    rw [if_neg h7, if_neg h7]
    by_cases h8 : t.k = 8
    · obtain ⟨hn, hl⟩ := head_8 (gd_head hg) h8
      have e : asHas0 t = asHas t := by unfold asHas0 asHas; rw [hn]
      have h14 : ¬ t.k = 14 := by omega
      rw [if_pos h8, e, ha _ (by rfl), if_neg h14, gu_eq d _ l l' (gd_part hg (by omega)) ha, all_1 hl]
      cases hb : hasB l' (asHas t)
      · rw [if_pos ⟨h8, rfl⟩]; rfl
      · rw [if_neg (by simp)]; rfl
    · rw [if_neg h8, if_neg (show ¬ (t.k = 8 ∧ hasB l' (asHas t) = false) from fun h => h8 h.1)]
      by_cases h14 : t.k = 14
      · have hl := head_14 (gd_head hg) h14
        rw [if_pos h14, if_pos h14, gu_eq d _ l l' (gd_part hg (by omega)) ha, gu_eq d _ _ _ (gd_part hg (by omega)) (ha.step d _)]
      · rw [if_neg h14, if_neg h14, Bool.eq_iff_iff, all_at, all_at]
        constructor
        · intro h k hk; rw [← gu_eq d _ l l' (gd_part hg hk) ha]; exact h k hk
        · intro h k hk; rw [gu_eq d _ l l' (gd_part hg hk) ha]; exact h k hk
theorem cnt_at {d : Nat} {l : ExL} : ∀ {k : Nat}, k < l.length → cntR d (exAt l k) ≤ (l.map (cntR d)).sum := by
  induction l with
  | nil => intro k hk; simp at hk
  | cons a l ih =>
    intro k hk
    simp only [List.map_cons, List.sum_cons]
    cases k with
    | zero => simp [exAt]
    | succ k =>
      have := ih (k := k) (by simpa using hk)
      have e : exAt (a :: l) (k + 1) = exAt l k := by simp [exAt]
      rw [e]; omega
theorem cnt_two {d : Nat} {t : Ex} (h : t.ps.length = 2) : cntR (d + 1) t = 2 + cntR d (exAt t.ps 0) + cntR d (exAt t.ps 1) := by
  rw [cntR]
  match t.ps, h with
  | [x, y], _ => simp [exAt]; omega
theorem cj_len : ∀ (d : Nat) (t : Ex), gdR d t = true → (cjI d t).length ≤ 1 + cntR d t
  | 0, t, _ => by simp [cjI]
  | d + 1, t, hg => by
    rw [cjI]
    by_cases h14 : t.k = 14
    · have hl := head_14 (gd_head hg) h14
      have h0 := cj_len d _ (gd_part hg (k := 0) (by omega))
      have h1 := cj_len d _ (gd_part hg (k := 1) (by omega))
      rw [if_pos h14, List.length_append, cnt_two hl]
      omega
    · rw [if_neg h14]; simp
theorem kn_len (d : Nat) (t : Ex) (l : ExL) (hg : gdR d t = true) : (knS d t l).length ≤ l.length + 1 + cntR d t := by
  have h1 := cj_len d t hg
  have h2 : ((cjI d t).filter (fun x => decide (x.k = 9))).length ≤ (cjI d t).length := List.length_filter_le _ _
  rw [knS_eq, List.length_append]
  omega
end Go.Proofs.Ytodjokdaofefdaa
