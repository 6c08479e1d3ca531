/- The exact law of reading rules, walked. -/
import Derived.Test.YtpmelhkhmichcaaDoorRdE
namespace Go.Proofs.YtpmelhkhmichcaaDoor
set_option linter.unusedSimpArgs false
set_option linter.unusedVariables false
open Go.RowKit

set_option maxRecDepth 100000 in
set_option maxHeartbeats 4000000 in
theorem lawExactReadRule {s : ByteArray} {w : World} (hs : s.size ≤ 9223372036854775807) (hE : EvW w) :
    Calls Tryd.prog 13 #[.string s] w fun e w' => e = .returned (.bool true) ∧ Below w.heap.size w w' := by
  by_cases h : (1048576 : Int) < s.size
  · go_enter Tryd.func13, Tryd.ntmps13
    go_wp2
    go_ret
    exact ⟨rfl, Below.refl _ _⟩
  · go_enter Tryd.func13, Tryd.ntmps13
    go_wp2_with fail
    refine (specReadRule (by omega)).mono ?_
    rintro e w1 ⟨⟨p, v, b⟩, ok, rfl, hr, hB⟩
    replace hE := hE.below hB
    have HR := Lib.hid hr
    have HB := Lib.hid hB
    clear hr hB
    go_wp2_with fail
    obtain ⟨X, hX⟩ : ∃ X, X = w1.alloc (.cells #[.string p, .int .i64 v, .bool b] 25) := ⟨_, rfl⟩
    have hBX : Below w1.heap.size w1 X := by rw [hX]; exact below_alloc _ _
    have x0 : X.cell? ⟨w1.heap.size, 0, none⟩ = some (.string p) := by rw [hX]; exact box_cell w1 _ _ 0 _ rfl
    have x1 : X.cell? ⟨w1.heap.size, 1, none⟩ = some (.int .i64 v) := by rw [hX]; exact box_cell w1 _ _ 1 _ rfl
    have x2 : X.cell? ⟨w1.heap.size, 2, none⟩ = some (.bool b) := by rw [hX]; exact box_cell w1 _ _ 2 _ rfl
    rw [← hX]
    refine (implReadRule (by omega) (hE.below hBX)).mono ?_
    rintro e w2 ⟨r', ok', rfl, hr', hb⟩
    obtain ⟨rfl, rfl⟩ := hr'.uniq HR.out
    have hB := ext_trans HB.out (ext_trans hBX hb)
    replace x0 := below_cell hb x0
    replace x1 := below_cell hb x1
    replace x2 := below_cell hb x2
    have hgl := block_lt_of_cell x0
    have hE2 := hr'
    clear hr' hX hBX hb hE HB
    go_wp2_with fail
    refine (eqRule_any _ _ _ _ _ _ _).mono ?_
    rintro e w3 ⟨rfl, hb⟩
    rw [sameB_self]
    replace hB := ext_trans (ext_alloc hB _) hb
    go_wp2
    go_ret
    exact ⟨rfl, hB⟩
end Go.Proofs.YtpmelhkhmichcaaDoor
