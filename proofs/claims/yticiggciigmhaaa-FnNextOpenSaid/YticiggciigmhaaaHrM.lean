/- FnInHours, FnHoursOpen, FnNextOpen, walked. -/
import Derived.Test.YticiggciigmhaaaHrL
namespace Go.Proofs.Yticiggciigmhaaa
open Go.RowKit

theorem hr_take (us : HrL) (m k : Nat) (h : k < m) : hr0 (us.take m) k = hr0 us k ∧ hr1 (us.take m) k = hr1 us k ∧ hr2 (us.take m) k = hr2 us k := by
  simp [hr0, hr1, hr2, List.getD_eq_getElem?_getD, List.getElem?_take_of_lt h]
theorem hrOk_take (us : HrL) (m : Nat) (h : hrOk us = true) : hrOk (us.take m) = true := by
  simp only [hrOk, decide_eq_true_eq] at h ⊢
  refine ⟨by simp; omega, fun k hk => ?_⟩
  simp only [List.length_take] at hk
  have := h.2 k (by omega)
  unfold hrGood at this ⊢
  rw [(hr_take us m k (by omega)).1, (hr_take us m k (by omega)).2.1, (hr_take us m k (by omega)).2.2]
  exact this
theorem hrOpen_iff {l : HrL} {d h : Int} : hrOpen l d h = true ↔ ∃ k, k < l.length ∧ hrAt l k d h = true := by simp [hrOpen]
theorem hrOpen_parts (us : HrL) (m : Nat) (hm : m ≤ us.length) (d h : Int) : hrOpen us d h = (hrOpen (us.take m) d h || hrOpen (us.drop m) d h) := by
  rw [Bool.eq_iff_iff, Bool.or_eq_true]
  simp only [hrOpen_iff]
  constructor
  · rintro ⟨k, hk, ha⟩
    by_cases e : k < m
    · exact .inl ⟨k, by simp; omega, by unfold hrAt at ha ⊢; rw [(hr_take us m k e).1, (hr_take us m k e).2.1, (hr_take us m k e).2.2]; exact ha⟩
    · exact .inr ⟨k - m, by simp; omega, by
        unfold hrAt at ha ⊢
        rw [(hr_drop us m (k - m)).1, (hr_drop us m (k - m)).2.1, (hr_drop us m (k - m)).2.2, show m + (k - m) = k by omega]; exact ha⟩
  · rintro (⟨k, hk, ha⟩ | ⟨k, hk, ha⟩)
    · simp only [List.length_take] at hk
      exact ⟨k, by omega, by unfold hrAt at ha ⊢; rw [(hr_take us m k (by omega)).1, (hr_take us m k (by omega)).2.1, (hr_take us m k (by omega)).2.2] at ha; exact ha⟩
    · simp only [List.length_drop] at hk
      exact ⟨m + k, by omega, by unfold hrAt at ha ⊢; rw [(hr_drop us m k).1, (hr_drop us m k).2.1, (hr_drop us m k).2.2] at ha; exact ha⟩
theorem hrIn_nil (d h : Int) : hrIn [] d h = false := by simp [hrIn, hrOpen]
theorem hrIn_parts (us : HrL) (m : Nat) (hm : m ≤ us.length) (d h : Int) (hok : hrOk us = true) : hrIn us d h = (hrIn (us.take m) d h || hrIn (us.drop m) d h) := by
  simp only [hrIn, hok, hrOk_take us m hok, hrOk_drop us m hok, hrOpen_parts us m hm d h, Bool.true_and]
  cases (inB d 0 6 && inB h 0 23) <;> simp
theorem implInHours_n {A : Option Addr} {l : HrL} {c n : Nat} {day hour : Int} {w : World} (hn : l.length = n) (hU : hrR w A l) :
    Calls Try.prog 19 #[.slice A n c, .int .i64 day, .int .i64 hour] w fun e w' => e = .returned (.bool (hrIn l day hour)) ∧ Below w.heap.size w w' := by
  subst hn; exact implInHours hU
theorem implHoursOpen_n {A : Option Addr} {l : HrL} {c n : Nat} {w : World} (hn : l.length = n) (hU : hrR w A l) :
    Calls Try.prog 22 #[.slice A n c] w fun e w' => e = .returned (.int .i64 (hrAll l)) ∧ Below w.heap.size w w' := by
  subst hn; exact implHoursOpen hU

set_option maxHeartbeats 4000000 in
theorem lawInHours {A : Option Addr} {l : List Int} {c : Nat} {w : World} (hC : CodeR w w.heap.size A l) (hc : l.length ≤ c) :
    Calls Try.prog 6 #[.slice A l.length c] w fun e w' => e = .returned (.bool true) ∧ Below w.heap.size w w' := by
  by_cases h : (1048576 : Int) < l.length
  · go_enter Try.func6, Try.ntmps6
    go_wp2
    go_ret
    exact ⟨rfl, Below.refl _ _⟩
  · go_enter Try.func6, Try.ntmps6
    go_wp2_with fail
    refine (DrawInHours_d hC hc).mono ?_
    rintro e w1 ⟨us, _, x, y, rfl, hn, ⟨hx0, hx1⟩, ⟨hy0, hy1⟩, ⟨Au, cu, rfl, ho⟩, hB⟩
    have hU : hrR w1 Au us := hr_own rfl (by omega) ho
    have hsp := Lib.hid (own_split ho)
    clear ho
    go_wp2_with fail
    refine (implInHours hU).mono ?_
    rintro e w2 ⟨rfl, hBc⟩
    replace hB := ext_trans hB hBc
    replace hU := hU.below hBc
    clear hBc
    go_wp2_with fail
    refine (specInHours hU).mono ?_
    rintro e w3 ⟨rfl, hBc⟩
    replace hB := ext_trans hB hBc
    replace hU := hU.below hBc
    clear hBc
    go_wp2_with fail
    refine (implHoursValid hU).mono ?_
    rintro e w4 ⟨rfl, hBc⟩
    replace hB := ext_trans hB hBc
    replace hU := hU.below hBc
    clear hBc
    have hpart := Lib.hid (hrIn_parts us (us.length / 2) (Nat.div_le_self _ _) x y)
    obtain ⟨r, hr⟩ : ∃ r, r = hrIn us x y := ⟨_, rfl⟩
    rw [← hr]
    have HR := Lib.hid hr
    clear hr
    cases hok : hrOk us
    · go_wp2_with fail
      refine (implInHours_n (l := []) rfl (RdL.nil _)).mono ?_
      rintro e w5 ⟨rfl, hBc⟩
      rw [hrIn_nil]
      replace hB := ext_trans hB hBc
      go_wp2_with fail
      refine (alive_any _).mono ?_
      rintro e w6 ⟨rfl, hBc⟩
      replace hB := ext_trans hB hBc
      clear hBc
      go_wp2
      go_ret
      exact ⟨rfl, hB⟩
    · have hp := hpart.out hok
      rw [← HR.out] at hp
      obtain ⟨p1, hp1⟩ : ∃ p, p = hrIn (us.take (us.length / 2)) x y := ⟨_, rfl⟩
      obtain ⟨p2, hp2⟩ : ∃ p, p = hrIn (us.drop (us.length / 2)) x y := ⟨_, rfl⟩
      rw [← hp1, ← hp2] at hp
      have HP1 := Lib.hid hp1
      have HP2 := Lib.hid hp2
      have HOK := Lib.hid hok
      clear hp1 hp2 hpart HR hok
      subst hp
      have hl1 : (us.take (us.length / 2)).length = us.length / 2 := by simp; omega
      have hl2 : (us.drop (us.length / 2)).length = us.length - us.length / 2 := by simp
      have HL1 := Lib.hid hl1
      have HL2 := Lib.hid hl2
      clear hl1 hl2
      rcases Nat.eq_zero_or_pos us.length with h0 | h0
      · obtain rfl := List.eq_nil_of_length_eq_zero h0
        have e1 : p1 = false := by rw [HP1.out]; simp [hrIn_nil]
        have e2 : p2 = false := by rw [HP2.out]; simp [hrIn_nil]
        subst e1
        subst e2
        clear h0
        rcases hsp.out with ⟨rfl, _, rfl⟩ | ⟨g, rfl, hcap, hcap2⟩
        all_goals
          go_wp2_with fail
        all_goals
          refine (implInHours_n (l := []) rfl (RdL.nil _)).mono ?_
          rintro e w5 ⟨rfl, hBc⟩
          rw [hrIn_nil]
          replace hB := ext_trans hB hBc
          clear hBc
          go_wp2_with fail
        all_goals
          refine (implInHours_n (l := []) rfl (RdL.nil _)).mono ?_
          rintro e w6 ⟨rfl, hBc⟩
          rw [hrIn_nil]
          replace hB := ext_trans hB hBc
          clear hBc
          go_wp2_with fail
        all_goals
          refine (implInHours_n (l := []) rfl (RdL.nil _)).mono ?_
          rintro e w7 ⟨rfl, hBc⟩
          rw [hrIn_nil]
          replace hB := ext_trans hB hBc
          clear hBc
          go_wp2_with fail
          refine (alive_any _).mono ?_
          rintro e w8 ⟨rfl, hBc⟩
          replace hB := ext_trans hB hBc
          clear hBc
          go_wp2
          go_ret
          exact ⟨rfl, hB⟩
      · rcases hsp.out with ⟨_, h1, _⟩ | ⟨g, rfl, hcap, hcap2⟩
        · omega
        have hlt : us.length / 2 < cu := by omega
        have hle : us.length / 2 ≤ us.length := by omega
        have hd : ∀ w', Below w4.heap.size w4 w' → hrR w' (some ⟨g, us.length / 2 * 3, none⟩) (us.drop (us.length / 2)) := fun w' hb => by
          have := RdL.dropAt (hU.below hb) (us.length / 2)
          rwa [Nat.zero_add] at this
        cases p1
        · go_wp2_with fail
          refine (implInHours_n HL1.out (RdL.take hU (us.length / 2))).mono ?_
          rintro e w5 ⟨rfl, hBc⟩
          rw [← HP1.out]
          have hd5 := hd w5 hBc
          replace hB := ext_trans hB hBc
          clear hBc hd
          go_wp2_with fail
          refine (implInHours_n HL2.out hd5).mono ?_
          rintro e w6 ⟨rfl, hBc⟩
          rw [← HP2.out]
          replace hB := ext_trans hB hBc
          clear hBc hd5
          go_wp2_with fail
          refine (implInHours_n (l := []) rfl (RdL.nil _)).mono ?_
          rintro e w7 ⟨rfl, hBc⟩
          rw [hrIn_nil]
          replace hB := ext_trans hB hBc
          clear hBc
          go_wp2_with fail
          refine (alive_any _).mono ?_
          rintro e w8 ⟨rfl, hBc⟩
          replace hB := ext_trans hB hBc
          clear hBc
          go_wp2
          go_ret
          exact ⟨rfl, hB⟩
        · go_wp2_with fail
          refine (implInHours_n HL1.out (RdL.take hU (us.length / 2))).mono ?_
          rintro e w5 ⟨rfl, hBc⟩
          rw [← HP1.out]
          replace hB := ext_trans hB hBc
          clear hBc hd
          go_wp2_with fail
          refine (implInHours_n (l := []) rfl (RdL.nil _)).mono ?_
          rintro e w7 ⟨rfl, hBc⟩
          rw [hrIn_nil]
          replace hB := ext_trans hB hBc
          clear hBc
          go_wp2_with fail
          refine (alive_any _).mono ?_
          rintro e w8 ⟨rfl, hBc⟩
          replace hB := ext_trans hB hBc
          clear hBc
          go_wp2
          go_ret
          exact ⟨rfl, hB⟩
end Go.Proofs.Yticiggciigmhaaa
