/- Records and requests: comparison. -/
import Derived.Test.YtdpiaiblpafglaaRcC
namespace Go.Proofs.Ytdpiaiblpafglaa
set_option linter.unusedSimpArgs false
set_option linter.unusedVariables false
open Go.RowKit

set_option maxRecDepth 100000 in
set_option maxHeartbeats 2000000 in
theorem eqRequest_any {A A' : Option Addr} {fs fs' : FdL} {c c' : Nat} {who act what who' act' what' : Int} {w : World} (hU : fdR w A fs) (hV : fdR w A' fs') :
    Calls Try.prog 34 #[.agg #[.int .i64 who, .int .i64 act, .int .i64 what, .slice A fs.length c], .agg #[.int .i64 who', .int .i64 act', .int .i64 what', .slice A' fs'.length c']] w fun e w' => e = .returned (.bool (sameB ((who, act, what, fs) : Rq) (who', act', what', fs'))) ∧ Below w.heap.size w w' := by
  have hl := hU.len
  have hl' := hV.len
  go_enter Try.func34, Try.ntmps34
  go_wp2_with (go_at_call 55; refine (eqFieldS_any (fdR.below hU (by (repeat (first | exact Below.refl _ _ | refine ext_alloc ?_ _ | refine Below.setCell ?_ (by simp) _)))) (fdR.below hV (by (repeat (first | exact Below.refl _ _ | refine ext_alloc ?_ _ | refine Below.setCell ?_ (by simp) _))))).mono ?_; rintro e w1 ⟨rfl, hb⟩)
  all_goals
    go_ret
    refine ⟨ret_bool ?_, ?_⟩
    · simp_all [sameB]
    · first
        | ((repeat (first | exact Below.refl _ _ | refine ext_alloc ?_ _)); done)
        | (refine ext_trans ?_ ‹Below _ _ _›; (repeat (first | exact Below.refl _ _ | refine ext_alloc ?_ _)); done)

theorem rc_sameB (r r' : Rc) : sameB r r' = (!(rtm r != rtm r') && (!(!sameB ((rwho r, ract r, rwhat r, rfs r) : Rq) (rwho r', ract r', rwhat r', rfs r')) && (!(!ral r == ral r') && !(rsl r != rsl r')))) := by
  rw [Bool.eq_iff_iff]
  simp only [sameB_true, Bool.and_eq_true, Bool.not_not, Bool.not_eq_true', bne_eq_false_iff_eq, Prod.mk.injEq, beq_iff_eq]
  constructor
  · rintro rfl; simp
  · rintro ⟨h0, ⟨h1, h2, h3, h4⟩, h5, h6⟩
    exact rc_ext h0 h1 h2 h3 h4 (by simpa using h5) h6
set_option maxRecDepth 100000 in
set_option maxHeartbeats 2000000 in
theorem eqRecord_any {A A' : Option Addr} {r r' : Rc} {c c' : Nat} {w : World} (hU : fdR w A (rfs r)) (hV : fdR w A' (rfs r')) :
    Calls Try.prog 20 #[.agg #[.int .i64 (rtm r), .int .i64 (rwho r), .int .i64 (ract r), .int .i64 (rwhat r), .slice A (rfs r).length c, .bool (ral r), .int .i64 (rsl r)], .agg #[.int .i64 (rtm r'), .int .i64 (rwho r'), .int .i64 (ract r'), .int .i64 (rwhat r'), .slice A' (rfs r').length c', .bool (ral r'), .int .i64 (rsl r')]] w fun e w' => e = .returned (.bool (sameB r r')) ∧ Below w.heap.size w w' := by
  have hl := hU.len
  have hl' := hV.len
  go_enter Try.func20, Try.ntmps20
  go_wp2_with (go_at_call 34; refine (eqRequest_any (fdR.below hU (by (repeat (first | exact Below.refl _ _ | refine ext_alloc ?_ _ | refine Below.setCell ?_ (by simp) _)))) (fdR.below hV (by (repeat (first | exact Below.refl _ _ | refine ext_alloc ?_ _ | refine Below.setCell ?_ (by simp) _))))).mono ?_; rintro e w1 ⟨rfl, hb⟩; obtain ⟨hc1, hf1⟩ := bcell hb; have hz1 := hb.size; simp at hz1)
  all_goals
    go_ret
    refine ⟨ret_bool ?_, ?_⟩
    · rw [rc_sameB]
      simp only [*, Bool.not_true, Bool.not_false, Bool.false_and, Bool.and_false, Bool.true_and, Bool.and_self]
    · first
        | ((repeat (first | exact Below.refl _ _ | refine ext_alloc ?_ _)); done)
        | (refine ext_trans ?_ ‹Below _ _ _›; (repeat (first | exact Below.refl _ _ | refine ext_alloc ?_ _)); done)
end Go.Proofs.Ytdpiaiblpafglaa
