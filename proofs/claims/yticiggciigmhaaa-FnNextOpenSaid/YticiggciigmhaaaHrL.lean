/- FnHoursValid, walked. -/
import Derived.Test.YticiggciigmhaaaHrK
namespace Go.Proofs.Yticiggciigmhaaa
open Go.RowKit

theorem hr_own {w : World} {B n c : Nat} {e : TypeId} {A : Option Addr} {us : HrL} (hl : us.length = n) (hb : n ≤ 4194304) (h : w.ownsRow B e 3 (.slice A n c) n (us.flatMap hrEnc)) : hrR w A us :=
  RdL.of_own (fun _ => rfl) hl (by omega) h
theorem hrOk_same (us : HrL) : hrOk ((1, 7, 7) :: us) = false :=
  (hrOk_no (l := (1, 7, 7) :: us) (k := 0) (by simp) (by simp [hrGood, hr1, hr2])).symm
theorem hr_drop (us : HrL) (m k : Nat) : hr0 (us.drop m) k = hr0 us (m + k) ∧ hr1 (us.drop m) k = hr1 us (m + k) ∧ hr2 (us.drop m) k = hr2 us (m + k) := by
  simp [hr0, hr1, hr2, List.getD_eq_getElem?_getD]
theorem hrOk_drop (us : HrL) (m : Nat) (h : hrOk us = true) : hrOk (us.drop m) = true := by
  simp only [hrOk, decide_eq_true_eq] at h ⊢
  refine ⟨by simp; omega, fun k hk => ?_⟩
  simp only [List.length_drop] at hk
  have := h.2 (m + k) (by omega)
  unfold hrGood at this ⊢
  simp only [hr_drop]
  exact this

theorem implHoursValid_n {A : Option Addr} {us : HrL} {c n : Nat} {w : World} (hn : us.length = n) (hU : hrR w A us) :
    Calls Try.prog 14 #[.slice A n c] w fun e w' => e = .returned (.bool (hrOk us)) ∧ Below w.heap.size w w' := by
  subst hn; exact implHoursValid hU

set_option maxHeartbeats 4000000 in
theorem lawHoursValid {A : Option Addr} {l : List Int} {c : Nat} {w : World} (hC : CodeR w w.heap.size A l) (hc : l.length ≤ c) :
    Calls Try.prog 4 #[.slice A l.length c] w fun e w' => e = .returned (.bool true) ∧ Below w.heap.size w w' := by
  by_cases h : (1048576 : Int) < l.length
  · go_enter Try.func4, Try.ntmps4
    go_wp2
    go_ret
    exact ⟨rfl, Below.refl _ _⟩
  · go_enter Try.func4, Try.ntmps4
    go_wp2_with fail
    refine (DrawHoursValid_d hC hc).mono ?_
    rintro e w1 ⟨us, _, rfl, hn, ⟨Au, cu, rfl, ho⟩, hB⟩
    have hU : hrR w1 Au us := hr_own rfl (by omega) ho
    have hsp := Lib.hid (own_split ho)
    go_wp2_with fail
    refine (implHoursValid hU).mono ?_
    rintro e w2 ⟨rfl, hB2⟩
    replace hB := ext_trans hB hB2
    replace hU := hU.below hB2
    clear ho hB2
    go_wp2_with fail
    refine (specHoursValid hU).mono ?_
    rintro e w3 ⟨rfl, hB3⟩
    replace hB := ext_trans hB hB3
    replace hU := hU.below hB3
    clear hB3
    obtain ⟨ok, hok⟩ : ∃ ok, ok = hrOk us := ⟨_, rfl⟩
    rw [← hok]
    have HOK := Lib.hid hok
    clear hok
    go_wp2_with (at_builtin; go_must (refine wpList_append_rd (enc := hrEnc) rfl (.tmp 17) (.tmp 18) w3.heap.size 25 32 _ 3 24 rfl Try.underlying25 Try.infoHours rfl (by decide) (fun _ => rfl) hrEnc_one rfl (own_fresh (Nat.le_refl _) rfl (by decide)) rfl (hU.below (by (repeat (first | exact Below.refl _ _ | refine ext_alloc ?_ _ | refine Below.setCell ?_ (by simp) _)))) (by omega) (by omega) (show Below _ _ _ by (repeat (first | exact Below.refl _ _ | refine ext_alloc ?_ _ | refine Below.setCell ?_ (by simp) _))).size ?_); intro v1 w4 ho1 hg1 hs1)
    have hB34 : Below w3.heap.size w3 w4 := Below.grown (show Below w3.heap.size w3 _ by (repeat (first | exact Below.refl _ _ | refine ext_alloc ?_ _ | refine Below.setCell ?_ (by simp) _))) hg1 (by simp) (fun k e => by cases e; exact Nat.le_refl _)
    have ho2 : w4.ownsRow w3.heap.size 32 3 v1 ((1, 7, 7) :: us).length (((1, 7, 7) :: us).flatMap hrEnc) := by simpa [hrEnc, Nat.add_comm] using ho1
    obtain ⟨A1, c1, rfl⟩ := own_slice_ ho2
    have hU1 : hrR w4 A1 ((1, 7, 7) :: us) := hr_own rfl (by simp; omega) ho2
    replace hB := ext_trans hB hB34
    replace hU := hU.below hB34
    clear ho1 hg1 hs1 hB34 ho2
    refine (implHoursValid hU1).mono ?_
    rintro e w5 ⟨rfl, hB5⟩
    rw [hrOk_same]
    replace hB := ext_trans hB hB5
    replace hU := hU.below hB5
    clear hB5 hU1
    cases ok
    · go_wp2_with fail
      refine (alive_any _).mono ?_
      rintro e w6 ⟨rfl, hB6⟩
      go_wp2
      go_ret
      exact ⟨rfl, ext_trans hB hB6⟩
    · have hdrop := hrOk_drop us (us.length / 2) HOK.out.symm
      have hl2 : (us.drop (us.length / 2)).length = us.length - us.length / 2 := by simp
      rcases Nat.eq_zero_or_pos us.length with h0 | h0
      · obtain rfl := List.eq_nil_of_length_eq_zero h0
        rw [List.drop_nil] at hdrop
        rcases hsp.out with ⟨rfl, _, rfl⟩ | ⟨g, rfl, hcap, hcap2⟩
        all_goals
          go_wp2_with fail
        all_goals
          refine (implHoursValid_n (us := []) rfl (RdL.nil _)).mono ?_
          rintro e w6 ⟨rfl, hB6⟩
          rw [hdrop]
          go_wp2_with fail
          refine (alive_any _).mono ?_
          rintro e w7 ⟨rfl, hB7⟩
          go_wp2
          go_ret
          exact ⟨rfl, ext_trans (ext_trans hB hB6) hB7⟩
      · rcases hsp.out with ⟨_, h1, _⟩ | ⟨g, rfl, hcap, hcap2⟩
        · omega
        have hlt : us.length / 2 < cu := by omega
        have hd := RdL.dropAt hU (us.length / 2)
        rw [Nat.zero_add] at hd
        go_wp2_with fail
        refine (implHoursValid_n hl2 hd).mono ?_
        rintro e w6 ⟨rfl, hB6⟩
        rw [hdrop]
        go_wp2_with fail
        refine (alive_any _).mono ?_
        rintro e w7 ⟨rfl, hB7⟩
        go_wp2
        go_ret
        exact ⟨rfl, ext_trans (ext_trans hB hB6) hB7⟩
end Go.Proofs.Yticiggciigmhaaa
