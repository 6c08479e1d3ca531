/- FnApprovedAt, walked. -/
import Derived.Test.YtbkjolbgnkpjpaaNdP
import Derived.Test.YtbkjolbgnkpjpaaNdF
import Derived.Test.YtbkjolbgnkpjpaaNdG
namespace Go.Proofs.Ytbkjolbgnkpjpaa
open Go.RowKit

theorem own_split2 {w : World} {B sz n c : Nat} {e : TypeId} {A : Option Addr} {xs : List Value} (h : w.ownsRow B e sz (.slice A n c) n xs) : (A = Option.none ∧ n = 0 ∧ c = 0) ∨ ∃ g, A = some ⟨g, 0, Option.none⟩ ∧ n ≤ c ∧ c ≤ 9223372036854775807 := by
  rcases h.2 with ⟨h1, h2⟩ | ⟨g, cap, _, h1, _, _, h3, h4, _⟩
  · simp only [Value.slice.injEq] at h1
    exact .inl ⟨h1.1, h2, h1.2.2⟩
  · simp only [Value.slice.injEq, true_and] at h1
    obtain ⟨rfl, rfl⟩ := h1
    exact .inr ⟨g, rfl, h3, by simpa [maxLen] using h4⟩
set_option maxRecDepth 100000 in
set_option maxHeartbeats 4000000 in
theorem lawApprovedAt {A : Option Addr} {l : List Int} {c : Nat} {w : World} (hC : CodeR w w.heap.size A l) (hc : l.length ≤ c) :
    Calls Try.prog 7 #[.slice A l.length c] w fun e w' => e = .returned (.bool true) ∧ Below w.heap.size w w' := by
  by_cases h : (1048576 : Int) < l.length
  · go_enter Try.func7, Try.ntmps7
    go_wp2
    go_ret
    exact ⟨rfl, Below.refl _ _⟩
  · go_enter Try.func7, Try.ntmps7
    go_wp2_with fail
    refine (DrawApprovedAt_d hC hc).mono ?_
    rintro e w1 ⟨_, _, rfl, ⟨A2, c2, may, least, asked, rfl, hn, h1, h2, ho⟩, ⟨us, hun, huq, B2, d2, rfl, hou⟩, hB⟩
    have q0 := box_cell w1 #[.slice A2 may.length c2, .int .i64 least, .int .i64 asked] 25 0 (.slice A2 may.length c2) rfl
    have q1 := box_cell w1 #[.slice A2 may.length c2, .int .i64 least, .int .i64 asked] 25 1 (.int .i64 least) rfl
    have q2 := box_cell w1 #[.slice A2 may.length c2, .int .i64 least, .int .i64 asked] 25 2 (.int .i64 asked) rfl
    have hcut : Cut B2 us.length d2 := (own_split2 hou).imp id (fun ⟨g, e, h1, h2⟩ => ⟨g, 0, e, h1, h2⟩)
    have hbl := below_alloc w1 (.cells #[.slice A2 may.length c2, .int .i64 least, .int .i64 asked] 25)
    have hU : ilR _ A2 may := (ilR.own rfl (by omega) ho).below hbl
    have hV : voR _ B2 us := (voR.own rfl (by omega) hou).below hbl
    obtain ⟨X, hX⟩ : ∃ X, X = w1.alloc (.cells #[.slice A2 may.length c2, .int .i64 least, .int .i64 asked] 25) := ⟨_, rfl⟩
    obtain ⟨g, hg⟩ : ∃ g, g = w1.heap.size := ⟨_, rfl⟩
    rw [← hX] at q0 q1 q2 hU hV hbl
    rw [← hg] at q0 q1 q2
    replace hB := ext_trans hB hbl
    have HX := Lib.hid hX
    have HG := Lib.hid hg
    have HWF := Lib.hid (VoQ.wf huq)
    obtain ⟨n, hnn⟩ : ∃ x, x = ndAt may least asked us := ⟨_, rfl⟩
    have HNN := Lib.hid hnn
    have HCUT := Lib.hid hcut
    clear hX hg hbl ho hou huq hnn hcut
    go_wp2_with fail
    rw [← HX.out, ← HG.out]
    refine (implApprovedAt hU hV HWF.out HCUT.out).mono ?_
    rintro e w2 ⟨rfl, hBc⟩
    replace hB := ext_trans hB hBc
    replace q0 := below_cell hBc q0
    replace q1 := below_cell hBc q1
    replace q2 := below_cell hBc q2
    replace hU := hU.below hBc
    replace hV := hV.below hBc
    clear hBc
    go_wp2_with fail
    refine (specApprovedAt hU hV HCUT.out (by omega)).mono ?_
    rintro e w3 ⟨rfl, hBc⟩
    replace hB := ext_trans hB hBc
    replace q0 := below_cell hBc q0
    replace q1 := below_cell hBc q1
    replace q2 := below_cell hBc q2
    replace hU := hU.below hBc
    replace hV := hV.below hBc
    clear hBc
    rw [← HNN.out]
    obtain ⟨W, hW⟩ : ∃ W, W = w3 := ⟨_, rfl⟩
    rw [← hW] at q0 q1 q2 hU hV hB
    have HW := Lib.hid hW
    have HB := Lib.hid hB
    have HCALL := Lib.hid (show ∀ wr, Below W.heap.size W wr → ∀ k, k ≤ us.length → ∀ d os c', Calls Try.prog 19 #[.agg #[.slice A2 may.length c2, .int .i64 least, .int .i64 asked], .slice B2 k c'] (Sort.grow (redrawn wr d) os) fun e w' => e = .returned (.bool (ndP may least asked us k)) ∧ Below (Sort.grow (redrawn wr d) os).heap.size (Sort.grow (redrawn wr d) os) w' from
      fun wr hC k hk d os c' => implIsApproved_n (by simp; omega) (RdL.regrown (Flat.mono _) (hU.below hC) d os) (RdL.regrown (Flat.mono _) ((hV.below hC).take k) d os) (HWF.out.take k))
    clear hW hB hU hV
    by_cases g2 : 20 < us.length
    · have HA : Hid (n = -1) := Lib.hid (by rw [HNN.out, ndAt, if_neg (by omega)])
      go_wp2
      go_loopw [6] (fun i wr => i = .int .i64 0 ∧ Below W.heap.size W wr) (fun i _ => 0)
      case atStart => exact ⟨rfl, by rw [HW.out]; exact Below.refl _ _⟩
      case round =>
        obtain ⟨rfl, hC⟩ := hrel
        have e1 : (n == -1) = true := by rw [HA.out]; rfl
        have hB := ext_trans HB.out hC
        clear hC HB HNN HA HCALL HW q0 q1 q2
        go_wp2_with fail
        refine (alive_any _).mono ?_
        rintro e w5 ⟨rfl, hBc⟩
        replace hB := ext_trans hB hBc
        clear hBc
        go_wp2
        go_ret
        exact ⟨rfl, hB⟩
    · have HA : Hid (n = firstOf (ndP may least asked us) (us.length + 1) 0) := Lib.hid (by rw [HNN.out]; exact ndAt_eq (by omega))
      clear HNN
      rcases HCUT.out with ⟨rfl, h0, rfl⟩ | ⟨gv, off, rfl, hcap, hcap2⟩
      · obtain rfl := List.eq_nil_of_length_eq_zero h0
        clear h0 g2 hun
        simp only [List.length_nil] at HCALL HA
        go_wp2
        go_loopw [6] (fun i wr => ∃ k : Nat, k ≤ 1 ∧ i = .int .i64 k ∧ firstOf (ndP may least asked []) (1) 0 = firstOf (ndP may least asked []) (1 - k) k ∧ Below W.heap.size W wr) (fun i _ => 1 - (intOf i).toNat)
        case atStart => exact ⟨0, by omega, rfl, rfl, by rw [HW.out]; exact Below.refl _ _⟩
        case round =>
          obtain ⟨k, hk, rfl, hf, hC⟩ := hrel
          have HF := Lib.hid hf
          clear hf
          by_cases hlt : k < 1
          · obtain rfl : k = 0 := by omega
            have hst := Lib.hid (firstOf_step hlt HF.out)
            have r0 := cell_regrown (below_cell hC q0)
            have r1 := cell_regrown (below_cell hC q1)
            have r2 := cell_regrown (below_cell hC q2)
            have HC := Lib.hid (HCALL.out wr hC 0 (by simp))
            cases gp : ndP may least asked [] 0
            all_goals
              rw [gp] at HC
              go_wp2
              refine wp_region_quiet_below (by kernel_rfl) (by kernel_rfl) ?_
              repeat (go_big_quiet_step ((go_at_call 19; (with_reducible exact Calls.regrown_of (HC.out _ _ _)))))
              refine wpQuiet_nil ?_
              intro w9 hw'regrown
              replace hC := ext_trans hC (below_of_regrown hw'regrown (Nat.le_refl _))
              clear hw'regrown r0 r1 r2
            · go_wp2
              go_roundw
              case rel => exact ⟨1, by omega, rfl, by rw [hst.out, gp]; simp, hC⟩
              case measure => simp [intOf]
            · have e1 : (n == 0) = true := by rw [HA.out, hst.out, gp]; simp
              go_wp2
              go_ret
              exact ⟨rfl, ext_trans HB.out hC⟩
          · have e1 : (n == -1) = true := by rw [HA.out, HF.out, show 1 - k = 0 by omega, firstOf]; rfl
            have hB := ext_trans HB.out hC
            clear hC HB HA HCALL HW q0 q1 q2 HF
            go_wp2_with fail
            refine (alive_any _).mono ?_
            rintro e w9 ⟨rfl, hBc⟩
            replace hB := ext_trans hB hBc
            clear hBc
            go_wp2
            go_ret
            exact ⟨rfl, hB⟩
      · skip
        go_wp2
        go_loopw [6] (fun i wr => ∃ k : Nat, k ≤ us.length + 1 ∧ i = .int .i64 k ∧ firstOf (ndP may least asked us) (us.length + 1) 0 = firstOf (ndP may least asked us) (us.length + 1 - k) k ∧ Below W.heap.size W wr) (fun i _ => us.length + 1 - (intOf i).toNat)
        case atStart => exact ⟨0, by omega, rfl, rfl, by rw [HW.out]; exact Below.refl _ _⟩
        case round =>
          obtain ⟨k, hk, rfl, hf, hC⟩ := hrel
          have HF := Lib.hid hf
          clear hf
          by_cases hlt : k < us.length + 1
          · have hst := Lib.hid (firstOf_step hlt HF.out)
            have r0 := cell_regrown (below_cell hC q0)
            have r1 := cell_regrown (below_cell hC q1)
            have r2 := cell_regrown (below_cell hC q2)
            have HC := Lib.hid (HCALL.out wr hC k (by omega))
            cases gp : ndP may least asked us k
            all_goals
              rw [gp] at HC
              go_wp2
              refine wp_region_quiet_below (by kernel_rfl) (by kernel_rfl) ?_
              repeat (go_big_quiet_step ((go_at_call 19; (with_reducible exact Calls.regrown_of (HC.out _ _ _)))))
              refine wpQuiet_nil ?_
              intro w9 hw'regrown
              replace hC := ext_trans hC (below_of_regrown hw'regrown (Nat.le_refl _))
              clear hw'regrown r0 r1 r2
            · go_wp2
              go_roundw
              case rel => exact ⟨k + 1, by omega, by go_num, by rw [hst.out, gp]; simp, hC⟩
              case measure => simp [intOf]; omega
            · have e1 : (n == (k : Int)) = true := by rw [HA.out, hst.out, gp]; simp
              go_wp2
              go_ret
              exact ⟨rfl, ext_trans HB.out hC⟩
          · have e1 : (n == -1) = true := by rw [HA.out, HF.out, show us.length + 1 - k = 0 by omega, firstOf]; rfl
            have hB := ext_trans HB.out hC
            clear hC HB HA HCALL HW q0 q1 q2 HF
            go_wp2_with fail
            refine (alive_any _).mono ?_
            rintro e w9 ⟨rfl, hBc⟩
            replace hB := ext_trans hB hBc
            clear hBc
            go_wp2
            go_ret
            exact ⟨rfl, hB⟩
end Go.Proofs.Ytbkjolbgnkpjpaa
