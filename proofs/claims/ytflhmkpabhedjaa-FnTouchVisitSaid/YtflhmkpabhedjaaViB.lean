/- Visits: what the laws say. -/
import Derived.Test.YtflhmkpabhedjaaViA
namespace Go.Proofs.Ytflhmkpabhedjaa
open Go.RowKit

theorem vi_mem_at {l : ViL} {k : Nat} (hk : k < l.length) : (vi0 l k, vi1 l k, vi2 l k) ∈ l := by rw [vi_elem hk]; exact List.getElem_mem hk
theorem viOk_double {long idle : Int} (v : Int × Int × Int) (l : ViL) : viOk long idle (v :: v :: l) = false := by
  cases h : viOk long idle (v :: v :: l)
  · rfl
  · have := (viAll_mem.1 (viOk_bounds h).2.2.2).2
    simp [viApart] at this
theorem viEnd_mem {long idle now : Int} {l : ViL} {k : Nat} (hk : k < (viEnd long idle l now).length) : vi2 (viEnd long idle l now) k ≤ now ∧ now - vi1 (viEnd long idle l now) k < long ∧ now - vi2 (viEnd long idle l now) k < idle := by
  have h := vi_mem_at hk
  have hm : (vi0 (viEnd long idle l now) k, vi1 (viEnd long idle l now) k, vi2 (viEnd long idle l now) k) ∈ viLast long idle now l := by
    revert h
    generalize (vi0 (viEnd long idle l now) k, vi1 (viEnd long idle l now) k, vi2 (viEnd long idle l now) k) = u
    unfold viEnd
    split
    · exact id
    · intro h; cases h
  have := (List.mem_filter.1 hm).2
  simpa [viLasts] using this
theorem viEnd_bounds {long idle now : Int} {l : ViL} {k : Nat} (hk : k < (viEnd long idle l now).length) : (0 ≤ now ∧ now ≤ 1000) ∧ (0 ≤ vi1 (viEnd long idle l now) k ∧ vi1 (viEnd long idle l now) k ≤ 1000) ∧ 0 ≤ vi2 (viEnd long idle l now) k := by
  have h := vi_mem_at hk
  have hc : (viOk long idle l && inB now 0 1000) = true := by
    cases hc : (viOk long idle l && inB now 0 1000)
    · simp [viEnd, hc] at hk
    · rfl
  have e : viEnd long idle l now = viLast long idle now l := by simp only [viEnd, hc, if_true]
  rw [e] at h ⊢
  simp only [Bool.and_eq_true] at hc
  have := (viAll_mem.1 (viOk_bounds hc.1).2.2.2).1 _ ((viLast_sub _ _ _ _).subset h)
  obtain ⟨_, ⟨t1, t2⟩, t3, _⟩ := this
  exact ⟨inB_true.1 hc.2, ⟨t1, t2⟩, Int.le_trans t1 t3⟩
theorem viEnd_again {long idle now : Int} (l : ViL) : viEnd long idle (viEnd long idle l now) now = viEnd long idle l now := by
  cases hc : (viOk long idle l && inB now 0 1000)
  · have e : viEnd long idle l now = [] := by simp [viEnd, hc]
    rw [e]
    unfold viEnd
    split
    · rfl
    · rfl
  · have e : viEnd long idle l now = viLast long idle now l := by simp only [viEnd, hc, if_true]
    rw [e]
    simp only [Bool.and_eq_true] at hc
    have h1 : viOk long idle (viLast long idle now l) = true := viOk_sub (viLast_sub _ _ _ _) hc.1
    simp only [viEnd, h1, hc.2, Bool.and_self, if_true]
    simp [viLast, List.filter_filter]
theorem viEnd_all {long idle now : Int} {l : ViL} (h1 : viOk long idle l = true) (h2 : inB now 0 1000 = true) (h3 : ∀ v ∈ l, viLasts long idle now v = true) : viEnd long idle l now = l := by
  simp only [viEnd, h1, h2, Bool.and_self, if_true]
  exact List.filter_eq_self.2 h3
/-- What a visit that has begun leaves. -/
theorem viBegin_yes {long idle who now : Int} {l : ViL} (h : (viBegin long idle l who now).2 = true) :
    ∃ r, (viBegin long idle l who now).1 = r ++ [(who, now, now)] ∧ r.length ≤ 5 ∧ viOk long idle (r ++ [(who, now, now)]) = true ∧ viEnd long idle (r ++ [(who, now, now)]) now = r ++ [(who, now, now)] := by
  unfold viBegin at h ⊢
  split at h
  · rename_i hc
    rw [if_pos hc]
    split at h
    · cases h
    · rename_i h6
      rw [if_neg h6]
      simp only [Bool.and_eq_true] at hc
      obtain ⟨b0, b1, b2, b3⟩ := viOk_bounds hc.1
      obtain ⟨n0, n1⟩ := inB_true.1 hc.2.1
      obtain ⟨p0, p1⟩ := inB_true.1 hc.2.2
      obtain ⟨a1, a2⟩ := viAll_mem.1 b3
      obtain ⟨r, hr⟩ : ∃ r, r = (viLast long idle now l).filter (fun v => decide (v.1 ≠ who)) := ⟨_, rfl⟩
      rw [← hr] at h6 ⊢
      have hs : r.Sublist l := by rw [hr]; exact List.filter_sublist.trans (viLast_sub _ _ _ _)
      have hlen : r.length ≤ 5 := by have := hs.length_le; omega
      have hw : ∀ v ∈ r, v.1 ≠ who := fun v hv => by rw [hr] at hv; simpa using (List.mem_filter.1 hv).2
      have hl : ∀ v ∈ r, viLasts long idle now v = true := fun v hv => by rw [hr] at hv; exact (List.mem_filter.1 (List.mem_filter.1 hv).1).2
      have hok : viOk long idle (r ++ [(who, now, now)]) = true := by
        refine viOk_of (by simp; omega) b1 b2 (viAll_mem.2 ⟨fun v hv => ?_, ?_⟩)
        · rcases List.mem_append.1 hv with hv | hv
          · exact a1 v (hs.subset hv)
          · rw [List.mem_singleton.1 hv]; exact ⟨⟨p0, p1⟩, ⟨n0, n1⟩, Int.le_refl _, n1⟩
        · refine List.pairwise_append.2 ⟨a2.sublist hs, by simp, fun v hv u hu => ?_⟩
          rw [List.mem_singleton.1 hu]; exact hw v hv
      refine ⟨r, rfl, hlen, hok, viEnd_all hok hc.2.1 (fun v hv => ?_)⟩
      rcases List.mem_append.1 hv with hv | hv
      · exact hl v hv
      · rw [List.mem_singleton.1 hv]; simp [viLasts]; omega
  · cases h
theorem viBegin_no {long idle who now : Int} {l : ViL} (h : (viBegin long idle l who now).2 = false) : (viBegin long idle l who now).1.length ≤ l.length := by
  unfold viBegin at h ⊢
  split
  · rename_i hc
    rw [if_pos hc] at h
    split
    · exact viLast_len _ _ _ _
    · rename_i h6; rw [if_neg h6] at h; cases h
  · simp
theorem viBegin_len (long idle who now : Int) (l : ViL) : (viBegin long idle l who now).1.length ≤ l.length + 1 := by
  cases h : (viBegin long idle l who now).2
  · have := viBegin_no h; omega
  · unfold viBegin at h ⊢
    split
    · split
      · have := viLast_len long idle now l; show (viLast long idle now l).length ≤ _; omega
      · simp only [List.length_append, List.length_singleton]
        have := List.length_filter_le (fun v : Int × Int × Int => decide (v.1 ≠ who)) (viLast long idle now l)
        have := viLast_len long idle now l
        omega
    · simp
theorem viTouch_len (long idle who now : Int) (l : ViL) : (viTouch long idle l who now).1.length ≤ l.length := by
  unfold viTouch
  split
  · simp; exact viLast_len _ _ _ _
  · simp
theorem viTouch_yes {long idle who now : Int} {l : ViL} (h : (viTouch long idle l who now).2 = true) :
    viOk long idle (viTouch long idle l who now).1 = true ∧ (0 ≤ now ∧ now ≤ 1000) ∧ ∃ f : Int, (who, f, now) ∈ (viTouch long idle l who now).1 ∧ (0 ≤ f ∧ f ≤ now) ∧
      (now + idle - 1 ≤ 1000 → now + idle - 1 - f < long → (who, f, now) ∈ viEnd long idle (viTouch long idle l who now).1 (now + idle - 1)) := by
  unfold viTouch at h ⊢
  split at h
  · rename_i hc
    rw [if_pos hc]
    simp only [Bool.and_eq_true] at hc
    obtain ⟨b0, b1, b2, b3⟩ := viOk_bounds hc.1
    obtain ⟨n0, n1⟩ := inB_true.1 hc.2
    obtain ⟨a1, a2⟩ := viAll_mem.1 b3
    have hlast := viLast_sub long idle now l
    have hlm : ∀ v ∈ viLast long idle now l, v.2.2 ≤ now := fun v hv => by
      have := (List.mem_filter.1 hv).2
      simp [viLasts] at this
      exact this.1
    have hok : viOk long idle ((viLast long idle now l).map (viSet who now)) = true := by
      refine viOk_of (by simp; have := viLast_len long idle now l; omega) b1 b2 (viAll_mem.2 ⟨fun v hv => ?_, ?_⟩)
      · obtain ⟨u, hu, rfl⟩ := List.mem_map.1 hv
        have hb := a1 u (hlast.subset hu)
        have hn := hlm u hu
        unfold viSet
        split
        · exact ⟨hb.1, hb.2.1, by simp only; omega, n1⟩
        · exact hb
      · rw [viApart, List.pairwise_map]
        refine (a2.sublist hlast).imp ?_
        intro a b hab
        have e : ∀ u : Int × Int × Int, (viSet who now u).1 = u.1 := fun u => by unfold viSet; split <;> rfl
        rw [e, e]; exact hab
    refine ⟨hok, ⟨n0, n1⟩, ?_⟩
    simp only [List.any_eq_true, decide_eq_true_eq] at h
    obtain ⟨v, hv, rfl⟩ := h
    have hb := a1 v (hlast.subset hv)
    have hn := hlm v hv
    have hm : (v.1, v.2.1, now) ∈ (viLast long idle now l).map (viSet v.1 now) := List.mem_map.2 ⟨v, hv, by simp [viSet]⟩
    refine ⟨v.2.1, hm, by omega, fun h1 h2 => ?_⟩
    have h3 : inB (now + idle - 1) 0 1000 = true := inB_true.2 (by omega)
    simp only [viEnd, hok, h3, Bool.and_self, if_true]
    refine List.mem_filter.2 ⟨hm, ?_⟩
    simp only [viLasts, decide_eq_true_eq]
    omega
  · cases h
end Go.Proofs.Ytflhmkpabhedjaa
