/- FnEndVisits, walked. -/
import Derived.Test.YtflhmkpabhedjaaViN
import Derived.Test.YtflhmkpabhedjaaViQ
namespace Go.Proofs.Ytflhmkpabhedjaa
open Go.RowKit

set_option maxRecDepth 100000 in
set_option maxHeartbeats 4000000 in
theorem lawEndVisits {A : Option Addr} {l : List Int} {c : Nat} {w : World} (hC : CodeR w w.heap.size A l) (hc : l.length ≤ c) :
    Calls Try.prog 6 #[.slice A l.length c] w fun e w' => e = .returned (.bool true) ∧ Below w.heap.size w w' := by
  by_cases h : (1048576 : Int) < l.length
  · go_enter Try.func6, Try.ntmps6
    go_wp2
    go_ret
    exact ⟨rfl, Below.refl _ _⟩
  · go_enter Try.func6, Try.ntmps6
    go_wp2_with fail
    refine (DrawEndVisits_d hC hc).mono ?_
    rintro e w1 ⟨us, _, long, idle, now, rfl, hn, ⟨hl0, hl1⟩, ⟨hi0, hi1⟩, ⟨hn0, hn1⟩, ⟨Au, cu, rfl, ho⟩, hB⟩
    have q0 := box_cell w1 #[.int .i64 long, .int .i64 idle] 27 0 (.int .i64 long) rfl
    have q1 := box_cell w1 #[.int .i64 long, .int .i64 idle] 27 1 (.int .i64 idle) rfl
    have hbl := below_alloc w1 (.cells #[.int .i64 long, .int .i64 idle] 27)
    have hU : viR _ Au us := (viR.own rfl (by omega) ho).below hbl
    obtain ⟨X, hX⟩ : ∃ X, X = w1.alloc (.cells #[.int .i64 long, .int .i64 idle] 27) := ⟨_, rfl⟩
    obtain ⟨g, hg⟩ : ∃ g, g = w1.heap.size := ⟨_, rfl⟩
    rw [← hX] at q0 q1 hU hbl
    rw [← hg] at q0 q1
    replace hB := ext_trans hB hbl
    obtain ⟨r1, hr1⟩ : ∃ r, r = viEnd long idle us now := ⟨_, rfl⟩
    have hr1l : r1.length ≤ us.length := by rw [hr1]; exact viEnd_len _ _ _ _
    have HA := Lib.hid (show viEnd long idle r1 now = r1 by rw [hr1]; exact viEnd_again us)
    have HM : Hid (∀ k, k < r1.length → ((0 ≤ now ∧ now ≤ 1000) ∧ (0 ≤ vi1 r1 k ∧ vi1 r1 k ≤ 1000) ∧ 0 ≤ vi2 r1 k) ∧ vi2 r1 k ≤ now ∧ now - vi1 r1 k < long ∧ now - vi2 r1 k < idle) :=
      Lib.hid (by rw [hr1]; exact fun k hk => ⟨viEnd_bounds hk, viEnd_mem hk⟩)
    have HX := Lib.hid hX
    have HG := Lib.hid hg
    have HR := Lib.hid hr1
    clear hX hg hbl ho hr1
    go_wp2_with fail
    rw [← HX.out, ← HG.out]
    refine (implEndVisits hU).mono ?_
    rintro e w2 ⟨A6, c6, rfl, ho6, hBc⟩
    rw [← HR.out] at ho6 ⊢
    replace hB := ext_trans hB hBc
    replace q0 := below_cell hBc q0
    replace q1 := below_cell hBc q1
    replace hU := hU.below hBc
    clear hBc
    go_wp2_with fail
    refine (specEndVisits hU).mono ?_
    rintro e w3 ⟨A7, c7, rfl, ho7, hBc⟩
    rw [← HR.out] at ho7 ⊢
    replace hB := ext_trans hB hBc
    replace q0 := below_cell hBc q0
    replace q1 := below_cell hBc q1
    replace ho6 := own_below ho6 hBc
    have hX : viR w3 A6 r1 := viR.own rfl (by omega) ho6
    have hY : viR w3 A7 r1 := viR.own rfl (by omega) ho7
    clear hBc hU ho6 ho7 HR
    go_wp2_with fail
    refine (sameVisits_any hX hY).mono ?_
    rintro e w4 ⟨rfl, hBc⟩
    replace hB := ext_trans hB hBc
    replace hX := hX.below hBc
    replace q0 := below_cell hBc q0
    replace q1 := below_cell hBc q1
    clear hBc
    clear hY
    rw [sameB_self]
    go_wp2
    have HX4 := Lib.hid hX
    clear hX
    go_loopw [7] (fun i wr => ∃ k : Nat, k ≤ r1.length ∧ i = .int .i64 k ∧ Below w4.heap.size w4 wr) (fun i _ => r1.length - (intOf i).toNat)
    case atStart => exact ⟨0, Nat.zero_le _, rfl, Below.refl _ _⟩
    case round =>
      obtain ⟨k, hk, rfl, hB4⟩ := hrel
      by_cases hlt : k < r1.length
      · obtain ⟨b, off, rfl, hcl⟩ := HX4.out.cells (by omega)
        obtain ⟨d0, d1, d2⟩ := hcl k hlt
        obtain ⟨⟨⟨n0, n1⟩, ⟨f0, f1⟩, t0⟩, t1, g1, g2⟩ := HM.out k hlt
        have m0 := cell_regrown (below_cell hB4 q0)
        have m1 := cell_regrown (below_cell hB4 q1)
        have e1 := cell_regrown (below_cell hB4 d1)
        have e2 := cell_regrown (below_cell hB4 d2)
        have s1 : IntKind.i64.wrap (now - vi1 r1 k) = now - vi1 r1 k := IntWalk.i64_in _ (by omega)
        have s2 : IntKind.i64.wrap (now - vi2 r1 k) = now - vi2 r1 k := IntWalk.i64_in _ (by omega)
        have z1 : decide (long ≤ now - vi1 r1 k) = false := by simp; omega
        have z2 : decide (idle ≤ now - vi2 r1 k) = false := by simp; omega
        have z3 : decide (now < vi2 r1 k) = false := by simp; omega
        clear hcl d0 d1 d2
        go_wp2
        refine wp_region_quiet_below (by kernel_rfl) (by kernel_rfl) ?_
        repeat (go_big_quiet_step (fail))
        refine wpQuiet_nil ?_
        intro w2 hw'regrown
        clear s1 s2
        replace hB4 := ext_trans hB4 (below_of_regrown hw'regrown (Nat.le_refl _))
        clear hw'regrown
        go_wp2
        go_roundw
        case rel => exact ⟨k + 1, by omega, by go_num, hB4⟩
        case measure => simp [intOf]; omega
      · obtain rfl : k = r1.length := by omega
        have hX := HX4.out.below hB4
        have p0 := below_cell hB4 q0
        have p1 := below_cell hB4 q1
        replace hB := ext_trans hB hB4
        have hle : ((r1.length : Int) ≤ us.length) := by omega
        clear hB4
        go_wp2_with fail
        refine (implEndVisits hX).mono ?_
        rintro e w6 ⟨A8, c8, rfl, ho8, hBc⟩
        rw [HA.out] at ho8 ⊢
        replace hB := ext_trans hB hBc
        replace hX := hX.below hBc
        have hY : viR w6 A8 r1 := viR.own rfl (by omega) ho8
        clear hBc ho8
        go_wp2_with fail
        refine (sameVisits_any hY hX).mono ?_
        rintro e w7 ⟨rfl, hBc⟩
        replace hB := ext_trans hB hBc
        clear hBc
        rw [sameB_self]
        clear hX hY
        go_wp2_with fail
        refine (alive_any _).mono ?_
        rintro e w8 ⟨rfl, hBc⟩
        replace hB := ext_trans hB hBc
        clear hBc
        go_wp2
        go_ret
        exact ⟨rfl, hB⟩
end Go.Proofs.Ytflhmkpabhedjaa
