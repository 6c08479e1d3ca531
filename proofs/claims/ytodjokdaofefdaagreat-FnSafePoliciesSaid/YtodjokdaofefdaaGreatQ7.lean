/- Expressions: validity, by the reference. -/
import Derived.Test.YtodjokdaofefdaaGreatQ6
import Derived.Test.YtodjokdaofefdaaGreatQ2
import Derived.Test.YtodjokdaofefdaaGreatQ3
namespace Go.Proofs.YtodjokdaofefdaaGreat
set_option linter.unusedSimpArgs false
set_option linter.unusedVariables false
open Go.RowKit

theorem exS_in {d lo hi : Nat} {w : World} {A : Option Addr} {t : Ex} (h : exS d lo hi w A t.ps) : inD (d + 1) t := fun p hp => by
  obtain ⟨k, hk, rfl⟩ := List.getElem_of_mem hp
  obtain ⟨_, _, _, hc⟩ := h.1.2 (by omega)
  obtain ⟨_, _, h2, _⟩ := hc k hk
  exact exR_in h2
theorem specExprValid {d : Nat} {A : Option Addr} {r : Ex} {c : Nat} {w : World} (hU : exW d w A r.ps) (hs : r.s.size ≤ 9223372036854775807) (hcnt : cntS d r.ps ≤ 2097152) :
    Calls Tryz.prog 34 #[.agg #[.int .i64 r.k, .int .i64 r.n, .string r.s, .slice A r.ps.length c]] w fun e w' => e = .returned (.bool (exOk r)) ∧ Below w.heap.size w w' := by
  have hd : dpR (d + 1) r = 1 + mxL (r.ps.map (dpR d)) := rfl
  have hc : cntR (d + 1) r = cntS d r.ps := rfl
  have hg : gdR (d + 1) r = goodB d r := rfl
  have hx := exOk_eq (exS_in hU)
  rw [hd, hc, hg] at hx
  obtain ⟨z, hz⟩ : ∃ z : Nat, z = 1 + cntS d r.ps := ⟨_, rfl⟩
  obtain ⟨y, hy⟩ : ∃ y : Nat, y = 1 + mxL (r.ps.map (dpR d)) := ⟨_, rfl⟩
  rw [← hz, ← hy] at hx
  have HX := Lib.hid hx
  have HZ := Lib.hid hz
  have HY := Lib.hid hy
  have hl := exS.len hU
  clear hx hz hy hd hc hg
  obtain ⟨W, hW⟩ : ∃ W, W = w.alloc (.cells #[.int .i64 r.k, .int .i64 r.n, .string r.s, .slice A r.ps.length c] 36) := ⟨_, rfl⟩
  have hBW : Below w.heap.size w W := by rw [hW]; (repeat (first | exact Below.refl _ _ | refine ext_alloc ?_ _ | refine Below.setCell ?_ (by simp) _))
  have b0 : W.cell? ⟨w.heap.size, 0, none⟩ = some (.int .i64 r.k) := by rw [hW]; exact box_cell w _ _ 0 _ rfl
  have b1 : W.cell? ⟨w.heap.size, 1, none⟩ = some (.int .i64 r.n) := by rw [hW]; exact box_cell w _ _ 1 _ rfl
  have b2 : W.cell? ⟨w.heap.size, 2, none⟩ = some (.string r.s) := by rw [hW]; exact box_cell w _ _ 2 _ rfl
  have b3 : W.cell? ⟨w.heap.size, 3, none⟩ = some (.slice A r.ps.length c) := by rw [hW]; exact box_cell w _ _ 3 _ rfl
  have hUW := hU.below hBW
  have HW := Lib.hid hW
  clear hW
  cases hgd : goodB d r
  · rw [hgd] at HX
    go_enter Tryz.func34, Tryz.ntmps34
    go_wp2_with fail
    rw [← HW.out]
    refine (goQ_all d A r c _ hUW hs).mono ?_
    rintro e w1 ⟨rfl, hB⟩
    rw [hgd]
    replace hB := ext_trans hBW hB
    go_wp2
    go_ret
    exact ⟨by rw [HX.out]; rfl, hB⟩
  · rw [hgd] at HX
    go_enter Tryz.func34, Tryz.ntmps34
    go_wp2_with fail
    rw [← HW.out]
    refine (goQ_all d A r c _ hUW hs).mono ?_
    rintro e w1 ⟨rfl, hB⟩
    rw [hgd]
    replace b0 := below_cell hB b0
    replace b1 := below_cell hB b1
    replace b2 := below_cell hB b2
    replace b3 := below_cell hB b3
    replace hUW := hUW.below hB
    replace hBW := ext_trans hBW hB
    clear hB
    go_wp2_with fail
    refine (ssQ_all d A r c _ hUW hcnt).mono ?_
    rintro e w2 ⟨rfl, hB⟩
    rw [← HZ.out]
    replace b0 := below_cell hB b0
    replace b1 := below_cell hB b1
    replace b2 := below_cell hB b2
    replace b3 := below_cell hB b3
    replace hUW := hUW.below hB
    replace hBW := ext_trans hBW hB
    clear hB
    have hzc : ((z : Int) ≤ 40) = (z ≤ 40) := by rw [eq_iff_iff]; omega
    have hyc : ((y : Int) ≤ 7) = (y ≤ 7) := by rw [eq_iff_iff]; omega
    by_cases h1 : z ≤ 40
    · have h1d : decide (z ≤ 40) = true := by simpa using h1
      have H1 := Lib.hid h1d
      clear h1d
      go_wp2_with fail
      refine (sdQ_all d A r c _ hUW hcnt).mono ?_
      rintro e w3 ⟨rfl, hB⟩
      rw [← HY.out]
      replace hBW := ext_trans hBW hB
      clear hB b0 b1 b2 b3
      have HE : Hid (exOk r = decide (y ≤ 7)) := Lib.hid (by rw [HX.out, H1.out, Bool.true_and, Bool.true_and])
      go_wp2
      go_ret
      exact ⟨by rw [HE.out]; rfl, hBW⟩
    · have h1d : decide (z ≤ 40) = false := by simpa using h1
      have HE : Hid (exOk r = false) := Lib.hid (by rw [HX.out, h1d]; simp)
      clear h1d
      go_wp2
      go_ret
      exact ⟨by rw [HE.out]; rfl, hBW⟩
end Go.Proofs.YtodjokdaofefdaaGreat
