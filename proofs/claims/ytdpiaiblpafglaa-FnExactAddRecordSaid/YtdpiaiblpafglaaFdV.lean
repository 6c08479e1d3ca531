/- Fields: conversions and comparison, one at a time. -/
import Derived.Test.YtdpiaiblpafglaaBas
import Derived.Laws.Strings
import Derived.WideShapes
namespace Go.Proofs.Ytdpiaiblpafglaa
set_option linter.unusedSimpArgs false
set_option linter.unusedVariables false
open Go.RowKit

theorem str_eq {x y : ByteArray} : x.toList = y.toList ↔ x = y := by
  constructor
  · intro h
    rw [Go.ByteArray.toList_eq, Go.ByteArray.toList_eq] at h
    exact ByteArray.ext (Array.toList_inj.1 h)
  · rintro rfl; rfl
theorem str_beq (x y : ByteArray) : (x.toList == y.toList) = decide (x = y) := by
  rw [Bool.eq_iff_iff]
  simp [str_eq]
theorem bcell {W w1 : World} (hb : Below W.heap.size W w1) : (∀ b o, b < W.heap.size → w1.cell? ⟨b, o, none⟩ = W.cell? ⟨b, o, none⟩) ∧ (∀ b o, b < W.heap.size → w1.frozen? ⟨b, o, none⟩ = W.frozen? ⟨b, o, none⟩) :=
  ⟨fun b o h => hb.cell (p := ⟨b, o, none⟩) h, fun b o h => hb.frozen (p := ⟨b, o, none⟩) h⟩

set_option maxHeartbeats 400000 in
theorem toValue_any (x0 x1 : Int) (w : World) :
    Calls Try.prog 64 #[.agg #[.int .i64 x0, .int .i64 x1]] w fun e w' => e = .returned (.agg #[.int .i64 x0, .int .i64 x1]) ∧ Below w.heap.size w w' := by
  go_enter Try.func64, Try.ntmps64
  go_wp2
  refine bodyPost_ret (v := .agg #[.int .i64 x0, .int .i64 x1]) (by simp [results, go_sem]) rfl ⟨rfl, ?_⟩
  repeat (first | exact Below.refl _ _ | refine ext_alloc ?_ _)

set_option maxHeartbeats 400000 in
theorem toField_any (x0 : ByteArray) (x1 x2 : Int) (w : World) :
    Calls Try.prog 61 #[.agg #[.string x0, .int .i64 x1, .int .i64 x2]] w fun e w' => e = .returned (.agg #[.string x0, .int .i64 x1, .int .i64 x2]) ∧ Below w.heap.size w w' := by
  go_enter Try.func61, Try.ntmps61
  go_wp2_with fail
  refine (toValue_any _ _ _).mono ?_
  rintro e w1 ⟨rfl, hb⟩
  obtain ⟨hc, hf⟩ := bcell hb
  have hz := hb.size
  simp at hz
  go_wp2
  refine bodyPost_ret (v := .agg #[.string x0, .int .i64 x1, .int .i64 x2]) (by simp [results, go_sem, hc]) rfl ⟨rfl, ?_⟩
  have hb2 : Below w.heap.size w w1 := by
    refine Below.trans ?_ (hb.mono (by simp; omega))
    repeat (first | exact Below.refl _ _ | refine ext_alloc ?_ _)
  repeat (first | (with_reducible exact hb2) | with_reducible refine Below.setCell ?_ (by (try simp) <;> omega) _)
set_option maxHeartbeats 400000 in
theorem eqValue_any (x0 x1 y0 y1 : Int) (w : World) :
    Calls Try.prog 65 #[.agg #[.int .i64 x0, .int .i64 x1], .agg #[.int .i64 y0, .int .i64 y1]] w fun e w' => e = .returned (.bool (sameB (x0, x1) (y0, y1))) ∧ Below w.heap.size w w' := by
  go_enter Try.func65, Try.ntmps65
  go_wp2
  all_goals
    go_ret
    exact ⟨ret_bool (by simp_all [sameB]), by repeat (first | exact Below.refl _ _ | refine ext_alloc ?_ _)⟩
set_option maxHeartbeats 400000 in
theorem eqField_any (x0 : ByteArray) (x1 x2 : Int) (y0 : ByteArray) (y1 y2 : Int) (w : World) :
    Calls Try.prog 62 #[.agg #[.string x0, .int .i64 x1, .int .i64 x2], .agg #[.string y0, .int .i64 y1, .int .i64 y2]] w fun e w' => e = .returned (.bool (sameB (x0, x1, x2) (y0, y1, y2))) ∧ Below w.heap.size w w' := by
  go_enter Try.func62, Try.ntmps62
  go_wp2
  all_goals
    go_ret
    refine ⟨ret_bool ?_, ?_⟩
    · simp_all [sameB, str_beq]
    · repeat (first | exact Below.refl _ _ | refine ext_alloc ?_ _)
end Go.Proofs.Ytdpiaiblpafglaa
