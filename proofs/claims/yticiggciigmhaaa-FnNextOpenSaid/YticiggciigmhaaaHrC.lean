/- InHours. -/
import Derived.Test.YticiggciigmhaaaHrB
namespace Go.Proofs.Yticiggciigmhaaa
open Go.RowKit

def hrAt (l : HrL) (k : Nat) (day hour : Int) : Bool := hrHas (hr0 l k) (hr1 l k) (hr2 l k) day hour
def hrOpen (l : HrL) (day hour : Int) : Bool := decide (∃ k, k < l.length ∧ hrAt l k day hour = true)
theorem hrHas_iff {a f t d h : Int} : hrHas a f t d h = true ↔ (f < t ∧ bitB a d = true ∧ f ≤ h ∧ h < t) ∨ (¬ f < t ∧ ((bitB a d = true ∧ f ≤ h) ∨ (bitB a ((d + 6) % 7) = true ∧ h < t))) := by
  unfold hrHas
  split
  · rename_i q; simp [q, and_assoc]
  · rename_i q; simp [q]
theorem hrHas_no {a f t d h : Int} (hh : ¬ ((f < t ∧ bitB a d = true ∧ f ≤ h ∧ h < t) ∨ (¬ f < t ∧ ((bitB a d = true ∧ f ≤ h) ∨ (bitB a ((d + 6) % 7) = true ∧ h < t))))) : hrHas a f t d h = false := by
  cases e : hrHas a f t d h
  · rfl
  · exact absurd (hrHas_iff.1 e) hh
theorem hrOpen_yes {l : HrL} {day hour : Int} {k : Nat} (hk : k < l.length) (h : hrAt l k day hour = true) : true = hrOpen l day hour := by
  rw [eq_comm, hrOpen, decide_eq_true_eq]; exact ⟨k, hk, h⟩
theorem hrOpen_no {l : HrL} {day hour : Int} (h : ∀ k, k < l.length → hrAt l k day hour = false) : false = hrOpen l day hour := by
  rw [eq_comm, hrOpen, decide_eq_false_iff_not]
  rintro ⟨k, hk, h2⟩
  rw [h k hk] at h2; cases h2
theorem hrOk_len {l : HrL} (h : hrOk l = true) : l.length ≤ 6 := by simp only [hrOk, decide_eq_true_eq] at h; exact h.1
theorem hrOk_good {l : HrL} (h : hrOk l = true) {k : Nat} (hk : k < l.length) : hrGood l k := by simp only [hrOk, decide_eq_true_eq] at h; exact h.2 k hk
theorem hrOk_bounds {l : HrL} (h : hrOk l = true) {k : Nat} (hk : k < l.length) : 0 ≤ hr0 l k ∧ hr0 l k ≤ 127 := by
  have := inB_true.1 (hrOk_good h hk).1; omega

set_option maxHeartbeats 1000000 in
theorem open_any {A : Option Addr} {l : HrL} {c : Nat} {day hour : Int} {w : World} (hU : hrR w A l) (hok : hrOk l = true) (h2 : 0 ≤ day) (h3 : day ≤ 6) :
    Calls Try.prog 36 #[.slice A l.length c, .int .i64 day, .int .i64 hour] w fun e w' => e = .returned (.bool (hrOpen l day hour)) ∧ Below w.heap.size w w' := by
  have hl := hrOk_len hok
  have HOK := Lib.hid hok
  clear hok
  go_enter Try.func36, Try.ntmps36
  go_wp2
  go_loopw [11] (fun i wr => ∃ k : Nat, k ≤ l.length ∧ i = .int .i64 k ∧ (∀ j, j < k → hrAt l j day hour = false) ∧ Below w.heap.size w wr) (fun i _ => l.length - (intOf i).toNat)
  case atStart => exact ⟨0, Nat.zero_le _, rfl, fun j h => by omega, Below.refl _ _⟩
  case round =>
    obtain ⟨k, hk, rfl, hgood, hB⟩ := hrel
    have HG := Lib.hid hgood
    clear hgood
    by_cases hlt : k < l.length
    · obtain ⟨b, off, rfl, hc⟩ := hU.cells (by omega)
      obtain ⟨c1, c2, c3⟩ := hc k hlt
      have m1 := below_cell hB c1
      have m2 := below_cell hB c2
      have m3 := below_cell hB c3
      have hb := hrOk_bounds HOK.out hlt
      clear c1 c2 c3 hc
      have hA : Hid (hrAt l k day hour = hrHas (hr0 l k) (hr1 l k) (hr2 l k) day hour) := Lib.hid rfl
      cases g : hrHas (hr0 l k) (hr1 l k) (hr2 l k) day hour
      all_goals go_wp2_with (go_at_call 39; refine (has_any _ (by omega) (by omega) (by omega) (by omega)).mono ?_; rintro e w2 ⟨rfl, hb2⟩; replace hB := ext_trans (ext_alloc hB _) hb2; clear hb2)
      · go_roundw
        case rel => exact ⟨k + 1, by omega, by go_num, all_succ HG.out (hA.out.trans g), hB⟩
        case measure => simp [intOf]; omega
      · go_ret
        exact ⟨ret_bool (hrOpen_yes hlt (hA.out.trans g)), hB⟩
    · obtain rfl : k = l.length := by omega
      go_wp2
      go_ret
      exact ⟨ret_bool (hrOpen_no HG.out), hB⟩

set_option maxHeartbeats 400000 in
theorem isHour_any (day hour : Int) (w : World) :
    Calls Try.prog 35 #[.int .i64 day, .int .i64 hour] w fun e w' => e = .returned (.bool (inB day 0 6 && inB hour 0 23)) ∧ Below w.heap.size w w' := by
  have hB := Below.refl w.heap.size w
  cases g1 : inB day 0 6
  · go_enter Try.func35, Try.ntmps35
    go_wp2_with fail
    refine (in_any _ _ _ _).mono ?_
    rintro e w1 ⟨rfl, hBc⟩
    replace hB := ext_trans hB hBc
    clear hBc
    go_wp2
    go_ret
    exact ⟨ret_bool (by simp), hB⟩
  · go_enter Try.func35, Try.ntmps35
    go_wp2_with fail
    refine (in_any _ _ _ _).mono ?_
    rintro e w1 ⟨rfl, hBc⟩
    replace hB := ext_trans hB hBc
    clear hBc
    go_wp2_with fail
    refine (in_any _ _ _ _).mono ?_
    rintro e w2 ⟨rfl, hBc⟩
    replace hB := ext_trans hB hBc
    clear hBc
    go_wp2
    go_ret
    exact ⟨ret_bool (by simp), hB⟩

def hrIn (l : HrL) (day hour : Int) : Bool := hrOk l && (inB day 0 6 && inB hour 0 23) && hrOpen l day hour

set_option maxHeartbeats 400000 in
theorem implInHours {A : Option Addr} {l : HrL} {c : Nat} {day hour : Int} {w : World} (hU : hrR w A l) :
    Calls Try.prog 19 #[.slice A l.length c, .int .i64 day, .int .i64 hour] w fun e w' => e = .returned (.bool (hrIn l day hour)) ∧ Below w.heap.size w w' := by
  have hB := Below.refl w.heap.size w
  cases g1 : hrOk l
  · go_enter Try.func19, Try.ntmps19
    go_wp2_with fail
    refine (implHoursValid hU).mono ?_
    rintro e w1 ⟨rfl, hBc⟩
    replace hB := ext_trans hB hBc
    replace hU := hU.below hBc
    clear hBc
    go_wp2
    go_ret
    exact ⟨ret_bool (by simp [hrIn, g1]), hB⟩
  · cases g2 : (inB day 0 6 && inB hour 0 23)
    · go_enter Try.func19, Try.ntmps19
      go_wp2_with fail
      refine (implHoursValid hU).mono ?_
      rintro e w1 ⟨rfl, hBc⟩
      replace hB := ext_trans hB hBc
      replace hU := hU.below hBc
      clear hBc
      go_wp2_with fail
      refine (isHour_any _ _ _).mono ?_
      rintro e w2 ⟨rfl, hBc⟩
      replace hB := ext_trans hB hBc
      replace hU := hU.below hBc
      clear hBc
      rw [g2]
      go_wp2
      go_ret
      exact ⟨ret_bool (by simp only [hrIn, g2]; simp), hB⟩
    · have hd : 0 ≤ day ∧ day ≤ 6 := by simp only [Bool.and_eq_true] at g2; exact inB_true.1 g2.1
      obtain ⟨hd1, hd2⟩ := hd
      have HG := Lib.hid g1
      have HG2 := Lib.hid g2
      clear g2
      go_enter Try.func19, Try.ntmps19
      go_wp2_with fail
      refine (implHoursValid hU).mono ?_
      rintro e w1 ⟨rfl, hBc⟩
      replace hB := ext_trans hB hBc
      replace hU := hU.below hBc
      clear hBc
      go_wp2_with fail
      refine (isHour_any _ _ _).mono ?_
      rintro e w2 ⟨rfl, hBc⟩
      replace hB := ext_trans hB hBc
      replace hU := hU.below hBc
      clear hBc
      rw [HG2.out]
      go_wp2_with fail
      refine (open_any hU HG.out hd1 hd2).mono ?_
      rintro e w3 ⟨rfl, hBc⟩
      replace hB := ext_trans hB hBc
      replace hU := hU.below hBc
      clear hBc
      go_wp2
      go_ret
      exact ⟨ret_bool (by simp [hrIn, HG.out, HG2.out]), hB⟩

set_option maxHeartbeats 4000000 in
theorem specInHours {A : Option Addr} {l : HrL} {c : Nat} {day hour : Int} {w : World} (hU : hrR w A l) :
    Calls Try.prog 18 #[.slice A l.length c, .int .i64 day, .int .i64 hour] w fun e w' => e = .returned (.bool (hrIn l day hour)) ∧ Below w.heap.size w w' := by
  have hB := Below.refl w.heap.size w
  cases g1 : hrOk l
  · go_enter Try.func18, Try.ntmps18
    go_wp2_with fail
    refine (specHoursValid hU).mono ?_
    rintro e w1 ⟨rfl, hBc⟩
    replace hB := ext_trans hB hBc
    replace hU := hU.below hBc
    clear hBc
    go_wp2
    go_ret
    exact ⟨ret_bool (by simp [hrIn, g1]), hB⟩
  · cases g2 : inB day 0 6
    · go_enter Try.func18, Try.ntmps18
      go_wp2_with fail
      refine (specHoursValid hU).mono ?_
      rintro e w1 ⟨rfl, hBc⟩
      replace hB := ext_trans hB hBc
      replace hU := hU.below hBc
      clear hBc
      go_wp2_with fail
      refine (l1In_any _ _ _ _).mono ?_
      rintro e w2 ⟨rfl, hBc⟩
      replace hB := ext_trans hB hBc
      replace hU := hU.below hBc
      clear hBc
      go_wp2
      go_ret
      exact ⟨ret_bool (by simp [hrIn, g2]), hB⟩
    · cases g3 : inB hour 0 23
      · go_enter Try.func18, Try.ntmps18
        go_wp2_with fail
        refine (specHoursValid hU).mono ?_
        rintro e w1 ⟨rfl, hBc⟩
        replace hB := ext_trans hB hBc
        replace hU := hU.below hBc
        clear hBc
        go_wp2_with fail
        refine (l1In_any _ _ _ _).mono ?_
        rintro e w2 ⟨rfl, hBc⟩
        replace hB := ext_trans hB hBc
        replace hU := hU.below hBc
        clear hBc
        go_wp2_with fail
        refine (l1In_any _ _ _ _).mono ?_
        rintro e w3 ⟨rfl, hBc⟩
        replace hB := ext_trans hB hBc
        replace hU := hU.below hBc
        clear hBc
        go_wp2
        go_ret
        exact ⟨ret_bool (by simp [hrIn, g3]), hB⟩
      · obtain ⟨d1, d2⟩ := inB_true.1 g2
        obtain ⟨e1, e2⟩ := inB_true.1 g3
        have hl := hrOk_len g1
        have HOK := Lib.hid g1
        have HI : Hid (hrIn l day hour = hrOpen l day hour) := Lib.hid (by simp [hrIn, g1, g2, g3])
        go_enter Try.func18, Try.ntmps18
        go_wp2_with fail
        refine (specHoursValid hU).mono ?_
        rintro e w1 ⟨rfl, hBc⟩
        replace hB := ext_trans hB hBc
        replace hU := hU.below hBc
        clear hBc
        go_wp2_with fail
        refine (l1In_any _ _ _ _).mono ?_
        rintro e w2 ⟨rfl, hBc⟩
        replace hB := ext_trans hB hBc
        replace hU := hU.below hBc
        clear hBc
        go_wp2_with fail
        refine (l1In_any _ _ _ _).mono ?_
        rintro e w3 ⟨rfl, hBc⟩
        replace hB := ext_trans hB hBc
        replace hU := hU.below hBc
        clear hBc
        go_wp2
        clear g1 g2 g3
        obtain ⟨wo, hwo⟩ : ∃ wo : World, wo = w3 := ⟨_, rfl⟩
        subst hwo
        go_loopw [7] (fun i wr => ∃ k : Nat, k ≤ l.length ∧ i = .int .i64 k ∧ (∀ j, j < k → hrAt l j day hour = false) ∧ Below wo.heap.size wo wr) (fun i _ => l.length - (intOf i).toNat)
        case atStart => exact ⟨0, Nat.zero_le _, rfl, fun j h => by omega, Below.refl _ _⟩
        case round =>
          obtain ⟨k, hk, rfl, hgood, hC⟩ := hrel
          have HG := Lib.hid hgood
          clear hgood
          by_cases hlt : k < l.length
          · obtain ⟨b, off, rfl, hc⟩ := hU.cells (by omega)
            obtain ⟨c1, c2, c3⟩ := hc k hlt
            have m1 := below_cell hC c1
            have m2 := below_cell hC c2
            have m3 := below_cell hC c3
            have hb := hrOk_bounds HOK.out hlt
            have hne := (hrOk_good HOK.out hlt).2.2.2
            have hA : Hid (hrAt l k day hour = hrHas (hr0 l k) (hr1 l k) (hr2 l k) day hour) := Lib.hid rfl
            have HD := Lib.hid (show hr1 l k ≠ hr2 l k by simpa using hne)
            clear c1 c2 c3 hc hne
            have y0 := box_cell wr #[.int .i64 (hr0 l k), .int .i64 (hr1 l k), .int .i64 (hr2 l k)] 32 0 (.int .i64 (hr0 l k)) rfl
            have y1 := box_cell wr #[.int .i64 (hr0 l k), .int .i64 (hr1 l k), .int .i64 (hr2 l k)] 32 1 (.int .i64 (hr1 l k)) rfl
            have y2 := box_cell wr #[.int .i64 (hr0 l k), .int .i64 (hr1 l k), .int .i64 (hr2 l k)] 32 2 (.int .i64 (hr2 l k)) rfl
            replace hC := ext_alloc hC (.cells #[.int .i64 (hr0 l k), .int .i64 (hr1 l k), .int .i64 (hr2 l k)] 32)
            cases t1 : bitB (hr0 l k) day
            all_goals cases t2 : bitB (hr0 l k) ((day + 6) % 7)
            all_goals
              go_wp2_with (go_at_call 34; refine (l12Act_any _ (by omega) (by omega) (by omega) (by omega)).mono ?_; rintro e w2 ⟨rfl, hb2⟩; replace hC := ext_trans hC hb2; replace y0 := below_cell hb2 y0; replace y1 := below_cell hb2 y1; replace y2 := below_cell hb2 y2; clear hb2)
            all_goals have HD2 := HD.out
            all_goals first
              | (go_ret
                 exact ⟨ret_bool (by rw [HI.out]; exact hrOpen_yes hlt (hA.out.trans (hrHas_iff.2 (by simp only [t1, t2, Bool.false_eq_true, false_and, and_false, false_or, or_false, true_and, and_true] <;> omega)))), ext_trans hB hC⟩)
              | (refine ⟨⟨k + 1, by omega, by go_num, all_succ HG.out (hA.out.trans (hrHas_no ?_)), hC⟩, by simp [intOf]; omega⟩
                 simp only [t1, t2, Bool.false_eq_true, false_and, and_false, false_or, or_false, true_and, and_true, not_false_eq_true] <;> omega)
          · obtain rfl : k = l.length := by omega
            go_wp2
            go_ret
            exact ⟨ret_bool (by rw [HI.out]; exact hrOpen_no HG.out), ext_trans hB hC⟩
end Go.Proofs.Yticiggciigmhaaa
