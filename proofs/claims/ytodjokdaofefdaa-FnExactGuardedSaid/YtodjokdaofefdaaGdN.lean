/- Guards, by the reference: what is in a list, what is known. -/
import Derived.Test.YtodjokdaofefdaaGdA
import Derived.Test.YtodjokdaofefdaaGdM
import Derived.Test.YtodjokdaofefdaaExE
import Derived.Test.YtodjokdaofefdaaExD
namespace Go.Proofs.Ytodjokdaofefdaa
set_option linter.unusedSimpArgs false
set_option linter.unusedVariables false
open Go.RowKit

theorem hasB_yes {l : ExL} {e : Ex} {k : Nat} (hk : k < l.length) (h : sameX (exAt l k) e = true) : hasB l e = true := by
  rw [hasB, List.any_eq_true]
  exact ⟨l[k], List.getElem_mem hk, by rw [← exAt_eq hk]; exact h⟩
theorem hasB_no {l : ExL} {e : Ex} (h : ∀ k, k < l.length → sameX (exAt l k) e = false) : hasB l e = false := by
  rw [hasB, List.any_eq_false]
  intro x hx
  obtain ⟨k, hk, rfl⟩ := List.getElem_of_mem hx
  have := h k hk
  rw [exAt_eq hk] at this
  rw [this]; simp
set_option maxRecDepth 100000 in
set_option maxHeartbeats 4000000 in
theorem specHas_any {D : Nat} {A A' : Option Addr} {l : ExL} {r : Ex} {c c' : Nat} {w : World} (hU : exW (D + 1) w A l) (hV : exW D w A' r.ps) :
    Calls Try.prog 120 #[.slice A l.length c, .agg #[.int .i64 r.k, .int .i64 r.n, .string r.s, .slice A' r.ps.length c']] w fun e w' => e = .returned (.bool (hasB l r)) ∧ Below w.heap.size w w' := by
  have hlen := exS.len hU
  obtain ⟨W, hW⟩ : ∃ W, W = w.alloc (.cells #[.int .i64 r.k, .int .i64 r.n, .string r.s, .slice A' r.ps.length c'] 28) := ⟨_, rfl⟩
  have hBW : Below w.heap.size w W := by rw [hW]; (repeat (first | exact Below.refl _ _ | refine ext_alloc ?_ _ | refine Below.setCell ?_ (by simp) _))
  have b0 : W.cell? ⟨w.heap.size, 0, none⟩ = some (.int .i64 r.k) := by rw [hW]; exact box_cell w _ _ 0 _ rfl
  have b1 : W.cell? ⟨w.heap.size, 1, none⟩ = some (.int .i64 r.n) := by rw [hW]; exact box_cell w _ _ 1 _ rfl
  have b2 : W.cell? ⟨w.heap.size, 2, none⟩ = some (.string r.s) := by rw [hW]; exact box_cell w _ _ 2 _ rfl
  have b3 : W.cell? ⟨w.heap.size, 3, none⟩ = some (.slice A' r.ps.length c') := by rw [hW]; exact box_cell w _ _ 3 _ rfl
  have hVW := hV.below hBW
  have HW := Lib.hid hW
  have HBW := Lib.hid hBW
  have HB0 := Lib.hid b0
  have HB1 := Lib.hid b1
  have HB2 := Lib.hid b2
  have HB3 := Lib.hid b3
  clear hW hBW b0 b1 b2 b3
  go_enter Try.func120, Try.ntmps120
  go_wp2
  go_loopw [5] (fun i wr => ∃ k : Nat, k ≤ l.length ∧ i = .int .i64 k ∧ Below W.heap.size W wr ∧ Hid (∀ j, j < k → sameX (exAt l j) r = false)) (fun i _ => l.length - (intOf i).toNat)
  case atStart => exact ⟨0, Nat.zero_le _, rfl, by rw [HW.out]; exact Below.refl _ _, Lib.hid (fun j h => by omega)⟩
  case round =>
    obtain ⟨k, hk, rfl, hB, HG⟩ := hrel
    by_cases hlt : k < l.length
    · obtain ⟨b, off, rfl, hc⟩ := (hU.below HBW.out).cells (by omega)
      obtain ⟨A1, c1, hfd, _, p0, p1, p2, p3⟩ := hc k hlt
      replace p0 := cell_regrown (below_cell hB p0)
      replace p1 := cell_regrown (below_cell hB p1)
      replace p2 := cell_regrown (below_cell hB p2)
      replace p3 := cell_regrown (below_cell hB p3)
      have b0 := cell_regrown (below_cell hB HB0.out)
      have b1 := cell_regrown (below_cell hB HB1.out)
      have b2 := cell_regrown (below_cell hB HB2.out)
      have b3 := cell_regrown (below_cell hB HB3.out)
      replace hfd := hfd.below hB
      have hfd2 := hVW.below hB
      clear hc
      have HE := Lib.hid (fun (n : Nat) (os : Array Obj) => smS_all D _ _ _ _ c1 c' _ (hfd.regrown n os) (hfd2.regrown n os))
      clear hfd hfd2
      obtain ⟨y, hy⟩ : ∃ y, sameX (exAt l k) r = y := ⟨_, rfl⟩
      rw [hy] at HE
      have HY := Lib.hid hy
      clear hy
      cases y
      all_goals
        go_wp2
        refine wp_region_quiet_below (by kernel_rfl) (by kernel_rfl) ?_
        repeat (go_big_quiet_step ((go_at_call 148; (with_reducible exact Calls.regrown_of (HE.out _ _)))))
        refine wpQuiet_nil ?_
        intro w2 hw'regrown
        replace hB := ext_trans hB (below_of_regrown hw'regrown (Nat.le_refl _))
        clear hw'regrown p0 p1 p2 p3 b0 b1 b2 b3
        go_wp2
      · go_roundw
        case rel => exact ⟨k + 1, by omega, by go_num, hB, Lib.hid (all_succ HG.out HY.out)⟩
        case measure => simp [intOf]; omega
      · go_ret
        exact ⟨by rw [hasB_yes hlt HY.out]; rfl, ext_trans HBW.out hB⟩
    · obtain rfl : k = l.length := by omega
      go_wp2
      go_ret
      exact ⟨by rw [hasB_no HG.out]; rfl, ext_trans HBW.out hB⟩
end Go.Proofs.Ytodjokdaofefdaa
