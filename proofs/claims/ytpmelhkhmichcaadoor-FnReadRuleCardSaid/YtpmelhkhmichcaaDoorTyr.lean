/- A region in its own order, by the same obligations as one that draws its order. -/
import Derived.Test.YtpmelhkhmichcaaDoorReg
import Derived.Tactics
namespace Go.Proofs.YtpmelhkhmichcaaDoor
set_option linter.unusedSimpArgs false
set_option linter.unusedVariables false
open Go.RowKit

theorem seq_of_any {P : Program} {ops : Array Oper} {n : Nat} (hok : okRegion ops n = true) {Q : Exit → Act → World → Prop} :
    ∀ (fuel k : Nat) (listed : Array Bool) (a : Act) (w : World), k + fuel = ops.size → listed.size = ops.size → (∀ j, j < k → listed.getD j true = true) → (∀ j, k ≤ j → j < ops.size → listed.getD j true = false) →
      wpAny P .any ops Q fuel listed a w → wpList P ops Q (ops.toList.drop k) a w := by
  intro fuel
  induction fuel with
  | zero =>
    intro k listed a w hk _ _ _ h
    rw [List.drop_eq_nil_of_le (by simp; omega)]
    exact h.2
  | succ fuel ih =>
    intro k listed a w hk hls h1 h2 h
    have hkl : k < ops.size := by omega
    have hr := ready_first hok hls hkl (h2 k (Nat.le_refl _) hkl) h1
    have h3 := h.2 k hr
    have h4 := wpOp_mono (K' := wpList P ops Q (ops.toList.drop (k + 1))) (fun a' w' h5 => ih (k + 1) (listed.setIfInBounds k true) a' w' (by omega) (by simpa using hls) (fun j hj => by
      simp only [Array.getD_eq_getD_getElem?, Array.getElem?_setIfInBounds]
      by_cases e : k = j
      · subst e; simp [hls, hkl]
      · rw [if_neg e]
        have := h1 j (by omega)
        rwa [Array.getD_eq_getD_getElem?] at this) (fun j hj1 hj2 => by
      simp only [Array.getD_eq_getD_getElem?, Array.getElem?_setIfInBounds]
      rw [if_neg (by omega)]
      have := h2 j (by omega) hj2
      rwa [Array.getD_eq_getD_getElem?] at this) h5) h3
    rw [List.drop_eq_getElem_cons (by simpa using hkl)]
    unfold wpOp at h4
    rw [Array.getElem?_eq_getElem hkl] at h4
    simp only [wpList, Array.getElem_toList]
    exact h4
theorem wp_region_seq {P : Program} {a0 : Act} (T : Nat → World → Value → Prop) (Inv : Nat → World → Prop) (Rel : Nat → World → World → Prop) {id : Nat} {Q : Exit → Act → World → Prop} {w : World} {l : List Oper}
    (hok : okRegion l.toArray a0.tmps.size = true) (hstab : ∀ i j w w' v, Rel i w w' → j ≠ i → T j w v → T j w' v) (hI : Inv 0 w) (hone : RAll P l.toArray a0 T Inv Rel Option.none (fun _ => True) l 0)
    (hQ : ∀ (f : Nat → Value) (w' : World), (∀ i, i < l.length → (dstOf l.toArray i).isSome = true → T i w' (f i)) → Inv l.length w' → Q .normal (putAll f l 0 a0) w') : (Code.region id l.toArray false).wp P Q a0 w := by
  have hlen : l.toArray.size = l.length := by simp
  refine wp_region_list ?_
  have h0 := seq_of_any (P := P) hok (Q := Q) l.toArray.size 0 (Array.replicate l.toArray.size false) a0 w (by omega) (by simp) (fun j hj => by omega) (fun j _ hj => by simp only [List.size_toArray] at hj; simp [Array.getD_eq_getD_getElem?, hj]) ?_
  · rw [List.drop_zero] at h0; exact h0
  refine region_any_step (a0 := a0) (T := T) (Inv := Inv) (Rel := Rel) (kill := fun _ => Option.none) (gc := Option.none) (G := fun _ => True) hok (by simp [okKill]) (fun i j w w' v h1 _ h3 _ _ _ h7 => hstab i j w w' v h1 h3 h7) (fun _ _ _ _ _ _ => trivial) (fun i o ho => by
    have := RAll.at hone i o (by simpa using ho)
    simpa using this) ?_ _ 0 _ a0 _ (by simp) ?_ ?_
  · intro listed a w' hall hg
    have hlist : ∀ i, i < l.length → listed.getD i false = true := fun i hi => by
      have := hall i (by simpa using hi)
      rw [Array.getD_eq_getD_getElem?, Array.getElem?_eq_getElem (by rw [hg.lsize]; simpa using hi)] at this ⊢
      exact this
    have hlt : ∀ i d, dstOf l.toArray i = some d → i < l.length := fun i d hd => by
      unfold dstOf at hd
      cases ho : l.toArray[i]? with
      | none => simp [ho] at hd
      | some o => simpa using (Array.getElem?_eq_some_iff.1 ho).1
    have he : a = putAll (fun i => a.eval (.tmp ((dstOf l.toArray i).getD 0))) l 0 a0 := by
      have hp := putAll_defers (fun i => a.eval (.tmp ((dstOf l.toArray i).getD 0))) l 0 a0
      refine act_ext (hg.size.trans hp.2.symm) (hg.defers.trans hp.1.symm) (fun s hs => ?_)
      by_cases h : ∃ i, dstOf l.toArray i = some s
      · obtain ⟨i, hi⟩ := h
        have hi' := hi
        unfold dstOf at hi'
        cases ho : l.toArray[i]? with
        | none => simp [ho] at hi'
        | some o =>
          simp only [ho, Option.bind_some] at hi'
          rw [putAll_some _ l 0 a0 s i o (by simpa using ho) hi' (fun j o' ho' hd' => okRegion_uniq hok (d := s) (by simp [dstOf, ho', hd']) hi) (by rw [← hg.size]; exact hs)]
          simp [hi]
      · rw [putAll_none _ l 0 a0 s (fun j o ho hd => h ⟨j, by simp [dstOf, ho, hd]⟩)]
        exact hg.todo s (fun i hi => absurd ⟨i, hi⟩ h)
    rw [he]
    refine hQ _ _ (fun i hi hs => ?_) (by simpa using hg.inv)
    obtain ⟨d, hd⟩ := Option.isSome_iff_exists.1 hs
    simp only [hd, Option.getD_some]
    exact hg.done i d hd (hlist i hi) (fun c hc => by cases hc)
  · have : ∀ N, unl N (fun i => !(Array.replicate N false).getD i true) = N := by
      intro N
      unfold unl
      rw [List.filter_eq_self.2]
      · simp
      · intro i hi
        simp [Array.getD_eq_getD_getElem?, List.mem_range.1 hi]
    exact this _
  · refine ⟨rfl, rfl, hI, by simp, ?_, ?_, fun _ _ => rfl, fun _ => trivial⟩
    · intro i j h
      simp [Array.getD_eq_getD_getElem?, Array.getElem?_replicate] at h
      split at h <;> simp at h
    · intro i d _ h _
      simp [Array.getD_eq_getD_getElem?, Array.getElem?_replicate] at h
      split at h <;> simp at h
end Go.Proofs.YtpmelhkhmichcaaDoor
