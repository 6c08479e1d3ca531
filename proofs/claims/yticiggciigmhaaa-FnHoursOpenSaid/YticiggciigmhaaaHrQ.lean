/- FnHoursOpen, walked. -/
import Derived.Test.YticiggciigmhaaaHrN
namespace Go.Proofs.Yticiggciigmhaaa
open Go.RowKit

theorem hrAll_ok {us : HrL} (h : hrOk us = true) : hrAll us = hrCount us 168 := by rw [hrAll, if_pos h]
theorem hrAll_facts {us : HrL} (m : Nat) (hm : m ≤ us.length) (h : hrOk us = true) : (0 ≤ hrAll us ∧ hrAll us ≤ 168) ∧ (0 ≤ hrAll (us.take m) ∧ hrAll (us.take m) ≤ 168) ∧ (0 ≤ hrAll (us.drop m) ∧ hrAll (us.drop m) ≤ 168) ∧ hrAll us ≤ hrAll (us.take m) + hrAll (us.drop m) ∧
    (∃ b, (hrAll us == 0) = b ∧ (hrNext us 0 0 == -1) = b) := by
  have e1 := hrAll_ok h
  have e2 := hrAll_ok (hrOk_take us m h)
  have e3 := hrAll_ok (hrOk_drop us m h)
  have b1 := hrCount_bounds us 168
  have b2 := hrCount_bounds (us.take m) 168
  have b3 := hrCount_bounds (us.drop m) 168
  have b4 := hrCount_parts us m hm 168
  have b5 := hrNext_zero us h
  rw [e1, e2, e3]
  refine ⟨by omega, by omega, by omega, b4, ?_⟩
  by_cases hz : hrCount us 168 = 0
  · exact ⟨true, by simp [hz], by simp [b5.2 hz]⟩
  · have : hrNext us 0 0 ≠ -1 := fun hh => hz (b5.1 hh)
    exact ⟨false, by simp [hz], by simp [this]⟩

set_option maxHeartbeats 8000000 in
theorem lawHoursOpen {A : Option Addr} {l : List Int} {c : Nat} {w : World} (hC : CodeR w w.heap.size A l) (hc : l.length ≤ c) :
    Calls Try.prog 10 #[.slice A l.length c] w fun e w' => e = .returned (.bool true) ∧ Below w.heap.size w w' := by
  by_cases h : (1048576 : Int) < l.length
  · go_enter Try.func10, Try.ntmps10
    go_wp2
    go_ret
    exact ⟨rfl, Below.refl _ _⟩
  · go_enter Try.func10, Try.ntmps10
    go_wp2_with fail
    refine (DrawHoursOpen_d hC hc).mono ?_
    rintro e w1 ⟨us, _, rfl, hn, ⟨Au, cu, rfl, ho⟩, hB⟩
    have hU : hrR w1 Au us := hr_own rfl (by omega) ho
    have hsp := Lib.hid (own_split ho)
    clear ho
    go_wp2_with fail
    refine (implHoursOpen hU).mono ?_
    rintro e w2 ⟨rfl, hBc⟩
    replace hB := ext_trans hB hBc
    replace hU := hU.below hBc
    clear hBc
    go_wp2_with fail
    refine (specHoursOpen hU).mono ?_
    rintro e w3 ⟨rfl, hBc⟩
    replace hB := ext_trans hB hBc
    replace hU := hU.below hBc
    clear hBc
    cases g : hrOk us
    · have e1 : hrAll us = -1 := by rw [hrAll, g]; rfl
      rw [e1]
      clear e1
      go_wp2_with fail
      refine (alive_any _).mono ?_
      rintro e w1 ⟨rfl, hBc⟩
      replace hB := ext_trans hB hBc
      clear hBc
      go_wp2
      go_ret
      exact ⟨rfl, hB⟩
    · obtain ⟨⟨f1, f2⟩, ⟨f3, f4⟩, ⟨f5, f6⟩, f7, bb, f8, f9⟩ := hrAll_facts (us.length / 2) (Nat.div_le_self _ _) g
      obtain ⟨n, hnv⟩ : ∃ n, n = hrAll us := ⟨_, rfl⟩
      obtain ⟨n1, hnv1⟩ : ∃ n, n = hrAll (us.take (us.length / 2)) := ⟨_, rfl⟩
      obtain ⟨n2, hnv2⟩ : ∃ n, n = hrAll (us.drop (us.length / 2)) := ⟨_, rfl⟩
      obtain ⟨nx, hnx⟩ : ∃ n, n = hrNext us 0 0 := ⟨_, rfl⟩
      rw [← hnv] at f1 f2 f7 f8 ⊢
      rw [← hnv1] at f3 f4 f7
      rw [← hnv2] at f5 f6 f7
      rw [← hnx] at f9
      have hl1 : (us.take (us.length / 2)).length = us.length / 2 := by simp; omega
      have hl2 : (us.drop (us.length / 2)).length = us.length - us.length / 2 := by simp
      have h3 : ∀ d os c, Calls Try.prog 24 #[.slice Au us.length c, .int .i64 0, .int .i64 0] (Sort.grow (redrawn w3 d) os) fun e w' => e = .returned (.int .i64 nx) ∧ Below (Sort.grow (redrawn w3 d) os).heap.size (Sort.grow (redrawn w3 d) os) w' := fun d os c => by
        have := implNextOpen (c := c) (day := 0) (hour := 0) (hU.regrown d os)
        rwa [← hnx] at this
      rcases Nat.eq_zero_or_pos us.length with h0 | h0
      · obtain rfl := List.eq_nil_of_length_eq_zero h0
        have h1 : ∀ d os A c, Calls Try.prog 22 #[.slice A 0 c] (Sort.grow (redrawn w3 d) os) fun e w' => e = .returned (.int .i64 n) ∧ Below (Sort.grow (redrawn w3 d) os).heap.size (Sort.grow (redrawn w3 d) os) w' := fun d os A c => by
          have := implHoursOpen_n (c := c) (l := []) (n := 0) rfl (RdL.nil (w := Sort.grow (redrawn w3 d) os) A)
          rwa [← hnv] at this
        have HH := Lib.hid hnv
        have HV1 := Lib.hid hnv1
        have HV2 := Lib.hid hnv2
        clear hnv hnv1 hnv2 hnx hl1 hl2 h0 g
        have hw : IntKind.i64.wrap (n + n) = n + n := IntWalk.i64_in _ (by omega)
        have hle : decide (n ≤ n + n) = true := by simp only [decide_eq_true_eq]; omega
        rcases hsp.out with ⟨rfl, _, rfl⟩ | ⟨gg, rfl, hcap, hcap2⟩
        all_goals
          go_wp2
          refine wp_region_quiet_below (by kernel_rfl) (by kernel_rfl) ?_
          repeat (go_big_quiet_step (first | (go_at_call 22; exact Calls.regrown_of (h1 _ _ _ _)) | (go_at_call 24; exact Calls.regrown_of (h3 _ _ _))))
          refine wpQuiet_nil ?_
          intro w2 hw'regrown
          replace hB := ext_trans hB (below_of_regrown hw'regrown (Nat.le_refl _))
          clear hw'regrown
          go_wp2
          go_ret
          exact ⟨ret_bool (by simp), hB⟩
      · rcases hsp.out with ⟨_, h1, _⟩ | ⟨gg, rfl, hcap, hcap2⟩
        · omega
        have h1 : ∀ d os c, Calls Try.prog 22 #[.slice (some ⟨gg, 0, none⟩) (us.length / 2) c] (Sort.grow (redrawn w3 d) os) fun e w' => e = .returned (.int .i64 n1) ∧ Below (Sort.grow (redrawn w3 d) os).heap.size (Sort.grow (redrawn w3 d) os) w' := fun d os c => by
          have := implHoursOpen_n (c := c) hl1 (RdL.take (hU.regrown d os) (us.length / 2))
          rwa [← hnv1] at this
        have h2 : ∀ d os c, Calls Try.prog 22 #[.slice (some ⟨gg, us.length / 2 * 3, none⟩) (us.length - us.length / 2) c] (Sort.grow (redrawn w3 d) os) fun e w' => e = .returned (.int .i64 n2) ∧ Below (Sort.grow (redrawn w3 d) os).heap.size (Sort.grow (redrawn w3 d) os) w' := fun d os c => by
          have hd := RdL.dropAt (hU.regrown d os) (us.length / 2)
          rw [Nat.zero_add] at hd
          have := implHoursOpen_n (c := c) hl2 hd
          rwa [← hnv2] at this
        have hlt : us.length / 2 < cu := by omega
        have hle : us.length / 2 ≤ us.length := by omega
        have hw : IntKind.i64.wrap (n1 + n2) = n1 + n2 := IntWalk.i64_in _ (by omega)
        clear hnv hnv1 hnv2 hnx hl1 hl2 g
        go_wp2
        refine wp_region_quiet_below (by kernel_rfl) (by kernel_rfl) ?_
        repeat (go_big_quiet_step (first | (go_at_call 22; (with_reducible exact Calls.regrown_of (h1 _ _ _))) | (go_at_call 22; (with_reducible exact Calls.regrown_of (h2 _ _ _))) | (go_at_call 24; exact Calls.regrown_of (h3 _ _ _))))
        refine wpQuiet_nil ?_
        intro w2 hw'regrown
        replace hB := ext_trans hB (below_of_regrown hw'regrown (Nat.le_refl _))
        clear hw'regrown
        go_wp2
        go_ret
        exact ⟨ret_bool (by simp), hB⟩
end Go.Proofs.Yticiggciigmhaaa
