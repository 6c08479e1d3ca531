/- Rules of a list: conversions, comparison and size, one at a time. -/
import Derived.Test.YtpmelhkhmichcaaDoorBas
import Derived.Laws.Strings
import Derived.WideShapes
namespace Go.Proofs.YtpmelhkhmichcaaDoor
set_option linter.unusedSimpArgs false
set_option linter.unusedVariables false
open Go.RowKit

theorem str_eq {x y : ByteArray} : x.toList = y.toList ↔ x = y := by
  constructor
  · intro h
    rw [Go.ByteArray.toList_eq, Go.ByteArray.toList_eq] at h
    exact ByteArray.ext (Array.toList_inj.1 h)
  · rintro rfl; rfl
theorem str_beq (x y : ByteArray) : (x.toList == y.toList) = decide (x = y) := by
  rw [Bool.eq_iff_iff]
  simp [str_eq]
theorem bcell {W w1 : World} (hb : Below W.heap.size W w1) : (∀ b o, b < W.heap.size → w1.cell? ⟨b, o, none⟩ = W.cell? ⟨b, o, none⟩) ∧ (∀ b o, b < W.heap.size → w1.frozen? ⟨b, o, none⟩ = W.frozen? ⟨b, o, none⟩) :=
  ⟨fun b o h => hb.cell (p := ⟨b, o, none⟩) h, fun b o h => hb.frozen (p := ⟨b, o, none⟩) h⟩

set_option maxHeartbeats 400000 in
theorem toRule_any (x0 : ByteArray) (x1 : Int) (x2 : Bool) (w : World) :
    Calls Tryd.prog 44 #[.agg #[.string x0, .int .i64 x1, .bool x2]] w fun e w' => e = .returned (.agg #[.string x0, .int .i64 x1, .bool x2]) ∧ Below w.heap.size w w' := by
  go_enter Tryd.func44, Tryd.ntmps44
  go_wp2
  refine bodyPost_ret (v := .agg #[.string x0, .int .i64 x1, .bool x2]) (by simp [results, go_sem]) rfl ⟨rfl, ?_⟩
  repeat (first | exact Below.refl _ _ | refine ext_alloc ?_ _)
set_option maxHeartbeats 400000 in
theorem eqRule_any (x0 : ByteArray) (x1 : Int) (x2 : Bool) (y0 : ByteArray) (y1 : Int) (y2 : Bool) (w : World) :
    Calls Tryd.prog 45 #[.agg #[.string x0, .int .i64 x1, .bool x2], .agg #[.string y0, .int .i64 y1, .bool y2]] w fun e w' => e = .returned (.bool (sameB (x0, x1, x2) (y0, y1, y2))) ∧ Below w.heap.size w w' := by
  go_enter Tryd.func45, Tryd.ntmps45
  go_wp2
  all_goals
    go_ret
    refine ⟨ret_bool ?_, ?_⟩
    · simp_all [sameB, str_beq]
    · repeat (first | exact Below.refl _ _ | refine ext_alloc ?_ _)
end Go.Proofs.YtpmelhkhmichcaaDoor
