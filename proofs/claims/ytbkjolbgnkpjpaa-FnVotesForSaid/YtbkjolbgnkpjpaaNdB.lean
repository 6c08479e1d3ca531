/- NeedValid. -/
import Derived.Test.YtbkjolbgnkpjpaaNdA
import Derived.Test.YtbkjolbgnkpjpaaKi2
namespace Go.Proofs.Ytbkjolbgnkpjpaa
open Go.RowKit

/-- A need, boxed. -/
abbrev ndCells (A : Option Addr) (n c : Nat) (least asked : Int) : Array Value := #[.slice A n c, .int .i64 least, .int .i64 asked]

set_option maxHeartbeats 1000000 in
theorem implNeedValid {A : Option Addr} {may : IL} {c : Nat} {least asked : Int} {w : World} (hU : ilR w A may) :
    Calls Try.prog 12 #[.agg #[.slice A may.length c, .int .i64 least, .int .i64 asked]] w fun e w' => e = .returned (.bool (ndOk may least asked)) ∧ Below w.heap.size w w' := by
  have q0 := box_cell w #[.slice A may.length c, .int .i64 least, .int .i64 asked] 25 0 (.slice A may.length c) rfl
  have q1 := box_cell w #[.slice A may.length c, .int .i64 least, .int .i64 asked] 25 1 (.int .i64 least) rfl
  have q2 := box_cell w #[.slice A may.length c, .int .i64 least, .int .i64 asked] 25 2 (.int .i64 asked) rfl
  have hB := below_alloc w (.cells #[.slice A may.length c, .int .i64 least, .int .i64 asked] 25)
  replace hU := hU.below hB
  cases g1 : ascB may 6
  · go_enter Try.func12, Try.ntmps12
    go_wp2_with fail
    refine (ascends_any hU (by omega) (by omega)).mono ?_
    rintro e w1 ⟨rfl, hBc⟩
    replace hB := ext_trans hB hBc
    clear hBc
    go_wp2
    go_ret
    exact ⟨ret_bool (by simp [ndOk, g1]), hB⟩
  · cases g2 : inB least 1 7
    · go_enter Try.func12, Try.ntmps12
      go_wp2_with fail
      refine (ascends_any hU (by omega) (by omega)).mono ?_
      rintro e w1 ⟨rfl, hBc⟩
      replace hB := ext_trans hB hBc
      replace q1 := below_cell hBc q1
      clear hBc
      go_wp2_with fail
      refine (in_any _ _ _ _).mono ?_
      rintro e w1 ⟨rfl, hBc⟩
      replace hB := ext_trans hB hBc
      clear hBc
      go_wp2
      go_ret
      exact ⟨ret_bool (by simp [ndOk, g2]), hB⟩
    · go_enter Try.func12, Try.ntmps12
      go_wp2_with fail
      refine (ascends_any hU (by omega) (by omega)).mono ?_
      rintro e w1 ⟨rfl, hBc⟩
      replace hB := ext_trans hB hBc
      replace q1 := below_cell hBc q1
      replace q2 := below_cell hBc q2
      clear hBc
      go_wp2_with fail
      refine (in_any _ _ _ _).mono ?_
      rintro e w1 ⟨rfl, hBc⟩
      replace hB := ext_trans hB hBc
      replace q2 := below_cell hBc q2
      clear hBc
      go_wp2_with fail
      refine (isPerson_any _ _).mono ?_
      rintro e w1 ⟨rfl, hBc⟩
      replace hB := ext_trans hB hBc
      clear hBc
      go_wp2
      go_ret
      exact ⟨ret_bool (by simp [ndOk, g1, g2]), hB⟩
theorem spNdCases (l : IL) (k : Nat) : (inB (il0 l k) 0 6 = false ∧ ascAt l 6 k = false) ∨ (inB (il0 l k) 0 6 = true ∧ (¬ 0 < k ∧ ascAt l 6 k = true ∨ 0 < k ∧ (il0 l k ≤ il0 l (k - 1) ∧ ascAt l 6 k = false ∨ il0 l (k - 1) < il0 l k ∧ ascAt l 6 k = true))) := by
  have h := ascAt_iff (l := l) (hi := 6) (k := k)
  cases g : inB (il0 l k) 0 6
  · left
    refine ⟨rfl, ?_⟩
    rw [Bool.eq_false_iff]
    intro hh
    rw [inB_true.2 (h.1 hh).1] at g
    cases g
  · right
    have gb := inB_true.1 g
    refine ⟨rfl, ?_⟩
    by_cases hk : 0 < k
    · right
      refine ⟨hk, ?_⟩
      by_cases hl : il0 l (k - 1) < il0 l k
      · right; exact ⟨hl, h.2 ⟨gb, fun _ => hl⟩⟩
      · left
        refine ⟨by omega, ?_⟩
        rw [Bool.eq_false_iff]
        exact fun hh => hl ((h.1 hh).2 hk)
    · left; exact ⟨hk, h.2 ⟨gb, fun hh => absurd hh hk⟩⟩

set_option maxRecDepth 100000 in
set_option maxHeartbeats 4000000 in
theorem specNeedValid {A : Option Addr} {may : IL} {c : Nat} {least asked : Int} {w : World} (hU : ilR w A may) :
    Calls Try.prog 13 #[.agg #[.slice A may.length c, .int .i64 least, .int .i64 asked]] w fun e w' => e = .returned (.bool (ndOk may least asked)) ∧ Below w.heap.size w w' := by
  have hl := hU.len
  obtain ⟨W, hW⟩ : ∃ W, W = w.alloc (.cells #[.slice A may.length c, .int .i64 least, .int .i64 asked] 25) := ⟨_, rfl⟩
  have q0 : W.cell? ⟨w.heap.size, 0, none⟩ = some (.slice A may.length c) := by rw [hW]; exact box_cell w #[.slice A may.length c, .int .i64 least, .int .i64 asked] 25 0 (.slice A may.length c) rfl
  have q1 : W.cell? ⟨w.heap.size, 1, none⟩ = some (.int .i64 least) := by rw [hW]; exact box_cell w #[.slice A may.length c, .int .i64 least, .int .i64 asked] 25 1 (.int .i64 least) rfl
  have q2 : W.cell? ⟨w.heap.size, 2, none⟩ = some (.int .i64 asked) := by rw [hW]; exact box_cell w #[.slice A may.length c, .int .i64 least, .int .i64 asked] 25 2 (.int .i64 asked) rfl
  have hB0 : Below w.heap.size w W := by rw [hW]; exact below_alloc _ _
  replace hU := hU.below hB0
  have HW := Lib.hid hW
  clear hW
  go_enter Try.func13, Try.ntmps13
  go_wp2_with fail
  rw [← HW.out]
  go_loopw [3] (fun i wr => ∃ k : Nat, k ≤ may.length ∧ i = .int .i64 k ∧ (∀ j, j < k → ascAt may 6 j = true) ∧ Below W.heap.size W wr) (fun i _ => may.length - (intOf i).toNat)
  case atStart => exact ⟨0, Nat.zero_le _, rfl, fun j h => by omega, Below.refl _ _⟩
  case round =>
    obtain ⟨k, hk, rfl, hgood, hC⟩ := hrel
    have HG := Lib.hid hgood
    clear hgood
    have p0 := below_cell hC q0
    have p1 := below_cell hC q1
    have p2 := below_cell hC q2
    have r0 := cell_regrown p0
    by_cases hlt : k < may.length
    · obtain ⟨b, off, rfl, hc⟩ := hU.cells (by omega)
      have m0 := cell_regrown (below_cell hC (hc k hlt))
      rcases spNdCases may k with ⟨g1, g⟩ | ⟨g1, ⟨g2, g⟩ | ⟨g2, ⟨g3, g⟩ | ⟨g3, g⟩⟩⟩
      · clear hc
        go_wp2
        refine wp_region_quiet_below (by kernel_rfl) (by kernel_rfl) ?_
        repeat (go_big_quiet_step ((go_at_call 41; exact Calls.regrown_of (l1In_any _ _ _ _))))
        refine wpQuiet_nil ?_
        intro w2 hw'regrown
        replace hC := ext_trans hC (below_of_regrown hw'regrown (Nat.le_refl _))
        clear hw'regrown
        go_wp2
        go_ret
        exact ⟨ret_bool (by simp [ndOk, ← ascB_no hlt g]), hB0.trans (hC.mono hB0.size)⟩
      · clear hc
        go_wp2
        refine wp_region_quiet_below (by kernel_rfl) (by kernel_rfl) ?_
        repeat (go_big_quiet_step ((go_at_call 41; exact Calls.regrown_of (l1In_any _ _ _ _))))
        refine wpQuiet_nil ?_
        intro w2 hw'regrown
        replace hC := ext_trans hC (below_of_regrown hw'regrown (Nat.le_refl _))
        clear hw'regrown
        go_wp2
        go_roundw
        case rel => exact ⟨k + 1, by omega, by go_num, all_succ HG.out g, hC⟩
        case measure => simp [intOf]; omega
      · have m1 := cell_regrown (below_cell hC (hc (k - 1) (by omega)))
        clear hc
        go_wp2
        refine wp_region_quiet_below (by kernel_rfl) (by kernel_rfl) ?_
        repeat (go_big_quiet_step ((go_at_call 41; exact Calls.regrown_of (l1In_any _ _ _ _))))
        refine wpQuiet_nil ?_
        intro w2 hw'regrown
        replace hC := ext_trans hC (below_of_regrown hw'regrown (Nat.le_refl _))
        clear hw'regrown
        go_wp2
        go_ret
        exact ⟨ret_bool (by simp [ndOk, ← ascB_no hlt g]), hB0.trans (hC.mono hB0.size)⟩
      · have m1 := cell_regrown (below_cell hC (hc (k - 1) (by omega)))
        clear hc
        go_wp2
        refine wp_region_quiet_below (by kernel_rfl) (by kernel_rfl) ?_
        repeat (go_big_quiet_step ((go_at_call 41; exact Calls.regrown_of (l1In_any _ _ _ _))))
        refine wpQuiet_nil ?_
        intro w2 hw'regrown
        replace hC := ext_trans hC (below_of_regrown hw'regrown (Nat.le_refl _))
        clear hw'regrown
        go_wp2
        go_roundw
        case rel => exact ⟨k + 1, by omega, by go_num, all_succ HG.out g, hC⟩
        case measure => simp [intOf]; omega
    · obtain rfl : k = may.length := by omega
      have HE : Hid (ndOk may least asked = (inB least 1 7 && inB asked 0 6)) := Lib.hid (by simp [ndOk, ← ascB_yes HG.out])
      cases g1 : inB least 1 7
      · go_wp2_with fail
        refine (l1In_any _ _ _ _).mono ?_
        rintro e w1 ⟨rfl, hBc⟩
        replace hC := ext_trans hC hBc
        go_wp2
        go_ret
        exact ⟨ret_bool (by rw [HE.out]; simp [g1]), hB0.trans (hC.mono hB0.size)⟩
      · go_wp2_with fail
        refine (l1In_any _ _ _ _).mono ?_
        rintro e w1 ⟨rfl, hBc⟩
        replace hC := ext_trans hC hBc
        replace p2 := below_cell hBc p2
        clear hBc
        go_wp2_with fail
        refine (l1In_any _ _ _ _).mono ?_
        rintro e w2 ⟨rfl, hBc⟩
        replace hC := ext_trans hC hBc
        go_wp2
        go_ret
        exact ⟨ret_bool (by rw [HE.out]; simp [g1]), hB0.trans (hC.mono hB0.size)⟩
end Go.Proofs.Ytbkjolbgnkpjpaa
