/- FnAddUsage, walked. -/
import Derived.Test.YtjiooipoeahdmaaUsP
import Derived.Test.YtjiooipoeahdmaaUsQ
import Derived.Test.YtjiooipoeahdmaaUsH
import Derived.Test.YtjiooipoeahdmaaUsN
import Derived.Test.YtjiooipoeahdmaaUsJ
namespace Go.Proofs.Ytjiooipoeahdmaa
open Go.RowKit

theorem addU_no {us : List (Int × Int)} {u : Int × Int} {within most : Int} (h : (addU us u within most).2 = false) : (addU us u within most).1 = us ∨ (addU us u within most).1 = [] := by
  unfold addU at h ⊢
  split
  · split
    · rename_i h1 h2; rw [if_pos h1, if_pos h2] at h; cases h
    · exact .inl rfl
  · exact .inr rfl
theorem addU_yes {us : List (Int × Int)} {u : Int × Int} {within most : Int} (h : (addU us u within most).2 = true) :
    (addU us u within most).1 = us ++ [u] ∧ usOk (us ++ [u]) = true ∧ usWithin (us ++ [u]) within u.1 ≤ most := by
  unfold addU at h ⊢
  split
  · rename_i h1
    rw [if_pos h1] at h
    split
    · rename_i h2
      simp only [Bool.and_eq_true, decide_eq_true_eq] at h1 h2
      refine ⟨rfl, h2.1, ?_⟩
      have hb := usOk_bounds h2.1 (k := us.length) (by simp)
      have e : uAt (us ++ [u]) us.length = u.1 := by simp [uAt]
      rw [e] at hb
      rw [usWithin_yes (by simp only [Bool.and_eq_true]; exact ⟨⟨h2.1, h1.1.2⟩, inB_true.2 hb.1⟩)]
      exact h2.2
    · rename_i h2; rw [if_neg h2] at h; cases h
  · rename_i h1; rw [if_neg h1] at h; cases h

set_option maxHeartbeats 4000000 in
theorem lawAddUsage {A : Option Addr} {l : List Int} {c : Nat} {w : World} (hC : CodeR w w.heap.size A l) (hc : l.length ≤ c) :
    Calls Try.prog 8 #[.slice A l.length c] w fun e w' => e = .returned (.bool true) ∧ Below w.heap.size w w' := by
  by_cases h : (1048576 : Int) < l.length
  · go_enter Try.func8, Try.ntmps8
    go_wp2
    go_ret
    exact ⟨rfl, Below.refl _ _⟩
  · go_enter Try.func8, Try.ntmps8
    go_wp2_with fail
    refine (DrawAddUsage_d hC hc).mono ?_
    rintro e w1 ⟨us, _, a, b, x, y, rfl, hn, ⟨Au, cu, rfl, ho⟩, hB⟩
    have hU : Us w1 Au us := us_own rfl (by omega) ho
    clear ho
    go_wp2_with fail
    have q0 := box_cell w1 #[.int .i64 a, .int .i64 b] 32 0 (.int .i64 a) rfl
    have q1 := box_cell w1 #[.int .i64 a, .int .i64 b] 32 1 (.int .i64 b) rfl
    replace hB := ext_alloc hB (.cells #[.int .i64 a, .int .i64 b] 32)
    replace hU := hU.below (below_alloc w1 (.cells #[.int .i64 a, .int .i64 b] 32))
    obtain ⟨g4, hg4⟩ : ∃ g, g = w1.heap.size := ⟨_, rfl⟩
    obtain ⟨W, hW⟩ : ∃ W, W = w1.alloc (.cells #[.int .i64 a, .int .i64 b] 32) := ⟨_, rfl⟩
    rw [← hW] at q0 q1 hB hU ⊢
    rw [← hg4] at q0 q1 ⊢
    clear hg4 hW
    obtain ⟨r1, hr1⟩ : ∃ r, r = (addU us (a, b) x y).1 := ⟨_, rfl⟩
    obtain ⟨r2, hr2⟩ : ∃ r, r = (addU us (a, b) x y).2 := ⟨_, rfl⟩
    have hr1l : r1.length ≤ us.length + 1 := by rw [hr1]; exact addU_len _ _ _ _
    refine (implAddUsage hU (by omega)).mono ?_
    rintro e w2 ⟨A7, c7, rfl, ho7, hBc⟩
    rw [← hr1] at ho7 ⊢
    rw [← hr2]
    replace hB := ext_trans hB hBc
    replace hU := hU.below hBc
    replace q0 := below_cell hBc q0
    replace q1 := below_cell hBc q1
    clear hBc
    have hX : Us w2 A7 r1 := us_own rfl (by omega) ho7
    clear ho7
    cases hr : r2
    · have hno : r1 = us ∨ r1 = [] := by rw [hr1]; exact addU_no (by rw [← hr2, hr])
      have HR1 := Lib.hid hr1
      have HR2 := Lib.hid (hr.symm.trans hr2)
      clear hr1 hr2 hr
      go_wp2_with fail
      refine (specAddUsage hU (by omega)).mono ?_
      rintro e w3 ⟨A8, c8, rfl, ho8, hBc⟩
      rw [← HR1.out] at ho8 ⊢
      rw [← HR2.out]
      replace hB := ext_trans hB hBc
      replace hU := hU.below hBc
      replace hX := hX.below hBc
      have hY : Us w3 A8 r1 := us_own rfl (by omega) ho8
      clear ho8 hBc HR1 HR2
      go_wp2_with fail
      refine (sameUsages_any hX hY).mono ?_
      rintro e w4 ⟨rfl, hBc⟩
      replace hB := ext_trans hB hBc
      replace hU := hU.below hBc
      replace hX := hX.below hBc
      clear hBc
      rw [sameB_self]
      go_wp2_with fail
      refine (sameUsages_any hX hU).mono ?_
      rintro e w5 ⟨rfl, hBc⟩
      replace hB := ext_trans hB hBc
      have HN := Lib.hid hno
      cases hs : sameB r1 us
      · have h0 : r1 = [] := by
          rcases HN.out with e | e
          · rw [e, sameB_self] at hs; cases hs
          · exact e
        subst h0
        go_wp2_with fail
        refine (alive_any _).mono ?_
        rintro e w6 ⟨rfl, hBc⟩
        replace hB := ext_trans hB hBc
        clear hBc
        go_wp2
        go_ret
        exact ⟨rfl, hB⟩
      · skip
        go_wp2_with fail
        refine (alive_any _).mono ?_
        rintro e w6 ⟨rfl, hBc⟩
        replace hB := ext_trans hB hBc
        clear hBc
        go_wp2
        go_ret
        exact ⟨rfl, hB⟩
    · obtain ⟨hx1, hx2, hx3⟩ := addU_yes (us := us) (u := (a, b)) (within := x) (most := y) (by rw [← hr2, hr])
      rw [← hr1] at hx1
      rw [← hx1] at hx2 hx3
      have hlen : r1.length = us.length + 1 := by rw [hx1]; simp
      have hu0 : uAt r1 (r1.length - 1) = a := by rw [hlen, hx1]; simp [uAt]
      have hu1 : uMuch r1 (r1.length - 1) = b := by rw [hlen, hx1]; simp [uMuch]
      have hpos : 0 < r1.length := by omega
      have HL := Lib.hid hlen
      have HU0 := Lib.hid hu0
      have HU1 := Lib.hid hu1
      have HR1 := Lib.hid hr1
      have HR2 := Lib.hid (hr.symm.trans hr2)
      have HX := Lib.hid hx1
      obtain ⟨m, hm⟩ : ∃ m, m = usWithin r1 x a := ⟨_, rfl⟩
      rw [← hm] at hx3
      have HM := Lib.hid hm
      have H2 := Lib.hid hx2
      clear hr1 hr2 hr hx1 hx2 hm hlen hu0 hu1
      go_wp2_with fail
      refine (specAddUsage hU (by omega)).mono ?_
      rintro e w3 ⟨A8, c8, rfl, ho8, hBc⟩
      rw [← HR1.out] at ho8 ⊢
      rw [← HR2.out]
      replace hB := ext_trans hB hBc
      replace hX := hX.below hBc
      replace q0 := below_cell hBc q0
      replace q1 := below_cell hBc q1
      have hY : Us w3 A8 r1 := us_own rfl (by omega) ho8
      clear ho8 hBc HR1 HR2 hU
      go_wp2_with fail
      refine (sameUsages_any hX hY).mono ?_
      rintro e w4 ⟨rfl, hBc⟩
      replace hB := ext_trans hB hBc
      replace hX := hX.below hBc
      replace q0 := below_cell hBc q0
      replace q1 := below_cell hBc q1
      clear hBc
      clear hY
      rw [sameB_self]
      go_wp2
      obtain ⟨b7, off7, rfl, hcl⟩ := hX.cells (by omega)
      obtain ⟨c1, c2⟩ := hcl (r1.length - 1) (by omega)
      rw [HU0.out] at c1
      rw [HU1.out] at c2
      have m1 := cell_regrown c1
      have m2 := cell_regrown c2
      have k0 := cell_regrown q0
      have k1 := cell_regrown q1
      have hlen1 : ((r1.length : Int) == (us.length : Int) + 1) = true := by simp [HL.out]
      have hcV : ∀ d os, Calls Try.prog 12 #[.slice (some ⟨b7, off7, none⟩) r1.length c7] (Sort.grow (redrawn w4 d) os) fun e w' => e = .returned (.bool true) ∧ Below (Sort.grow (redrawn w4 d) os).heap.size (Sort.grow (redrawn w4 d) os) w' := fun d os => by
        have := implUsagesValid (c := c7) (hX.regrown d os)
        rwa [H2.out] at this
      have hcW : ∀ d os, Calls Try.prog 17 #[.slice (some ⟨b7, off7, none⟩) r1.length c7, .int .i64 x, .int .i64 a] (Sort.grow (redrawn w4 d) os) fun e w' => e = .returned (.int .i64 m) ∧ Below (Sort.grow (redrawn w4 d) os).heap.size (Sort.grow (redrawn w4 d) os) w' := fun d os => by
        have := implUsedWithin (c := c7) (within := x) (now := a) (hX.regrown d os)
        rwa [← HM.out] at this
      clear c1 c2 hcl q0 q1
      refine wp_region_quiet_below (by kernel_rfl) (by kernel_rfl) ?_
      repeat (go_big_quiet_step (first | (go_at_call 12; exact Calls.regrown_of (hcV _ _)) | (go_at_call 17; exact Calls.regrown_of (hcW _ _))))
      refine wpQuiet_nil ?_
      intro w2 hw'regrown
      replace hB := ext_trans hB (below_of_regrown hw'regrown (Nat.le_refl _))
      clear hw'regrown
      go_wp2
      go_ret
      exact ⟨rfl, hB⟩
end Go.Proofs.Ytjiooipoeahdmaa
