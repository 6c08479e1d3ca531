/- The exact law of texts of rules, walked. -/
import Derived.Test.YtpmelhkhmichcaaDoorRtA
namespace Go.Proofs.YtpmelhkhmichcaaDoor
set_option linter.unusedSimpArgs false
set_option linter.unusedVariables false
open Go.RowKit

set_option maxRecDepth 100000 in
set_option maxHeartbeats 4000000 in
theorem lawExactRuleText {s : ByteArray} {a : Int} {b : Bool} {w : World} (hs : s.size ≤ 9223372036854775807) :
    Calls Tryd.prog 12 #[.agg #[.string s, .int .i64 a, .bool b]] w fun e w' => e = .returned (.bool true) ∧ Below w.heap.size w w' := by
  obtain ⟨W, hW⟩ : ∃ W, W = w.alloc (.cells #[.string s, .int .i64 a, .bool b] 52) := ⟨_, rfl⟩
  have p0 : W.cell? ⟨w.heap.size, 0, none⟩ = some (.string s) := by rw [hW]; exact box_cell w _ _ 0 _ rfl
  have p1 : W.cell? ⟨w.heap.size, 1, none⟩ = some (.int .i64 a) := by rw [hW]; exact box_cell w _ _ 1 _ rfl
  have p2 : W.cell? ⟨w.heap.size, 2, none⟩ = some (.bool b) := by rw [hW]; exact box_cell w _ _ 2 _ rfl
  have hB0 : Below w.heap.size w W := by rw [hW]; exact below_alloc _ _
  have hgl := block_lt_of_cell p0
  have hB := Below.refl W.heap.size W
  have HW := Lib.hid hW
  clear hW
  go_enter Tryd.func12, Tryd.ntmps12
  go_wp2_with fail
  rw [← HW.out]
  refine (szRule_any hs (by omega) (by omega)).mono ?_
  rintro e w1 ⟨y, rfl, hy, hb⟩
  replace hB := ext_trans hB hb
  replace p0 := below_cell hb p0
  replace p1 := below_cell hb p1
  replace p2 := below_cell hb p2
  have hz1 := hb.size
  clear hb
  rcases hy with rfl | ⟨y0, y1⟩
  · go_wp2
    go_ret
    exact ⟨rfl, ext_trans hB0 hB⟩
  · have hs1 : s.size ≤ 1048576 := by omega
    go_wp2_with fail
    refine (toRule_any s a b _).mono ?_
    rintro e w2 ⟨rfl, hb⟩
    replace hB := ext_trans hB hb
    replace p0 := below_cell hb p0
    replace p1 := below_cell hb p1
    replace p2 := below_cell hb p2
    have hz2 := hb.size
    clear hb
    go_wp2_with fail
    refine (specRuleText _ hs1).mono ?_
    rintro e w3 ⟨rfl, hb⟩
    replace hB := ext_trans hB hb
    replace p0 := below_cell hb p0
    replace p1 := below_cell hb p1
    replace p2 := below_cell hb p2
    have hz3 := hb.size
    clear hb
    go_wp2_with fail
    refine (toRule_any s a b _).mono ?_
    rintro e w4 ⟨rfl, hb⟩
    replace hB := ext_trans hB hb
    clear hb p0 p1 p2
    go_wp2_with fail
    refine (implRuleText _ hs1).mono ?_
    rintro e w5 ⟨rfl, hb⟩
    replace hB := ext_trans hB hb
    clear hb
    go_wp2
    go_ret
    exact ⟨rfl, ext_trans hB0 hB⟩
end Go.Proofs.YtpmelhkhmichcaaDoor
