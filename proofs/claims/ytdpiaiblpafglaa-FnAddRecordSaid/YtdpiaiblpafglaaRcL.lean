/- sameFields, sameRequest, sameRecords, of the laws. -/
import Derived.Test.YtdpiaiblpafglaaRcI
namespace Go.Proofs.Ytdpiaiblpafglaa
set_option linter.unusedSimpArgs false
set_option linter.unusedVariables false
open Go.RowKit

theorem fd_trips (us vs : FdL) (k : Nat) : (((fd0 us k).toList == (fd0 vs k).toList) = true ∧ (fd1 us k == fd1 vs k) = true ∧ (fd2 us k == fd2 vs k) = true ∧ sameB (fd0 us k, fd1 us k, fd2 us k) (fd0 vs k, fd1 vs k, fd2 vs k) = true) ∨
    (((fd0 us k).toList == (fd0 vs k).toList) = false ∧ sameB (fd0 us k, fd1 us k, fd2 us k) (fd0 vs k, fd1 vs k, fd2 vs k) = false) ∨
    (((fd0 us k).toList == (fd0 vs k).toList) = true ∧ (fd1 us k == fd1 vs k) = false ∧ sameB (fd0 us k, fd1 us k, fd2 us k) (fd0 vs k, fd1 vs k, fd2 vs k) = false) ∨
    (((fd0 us k).toList == (fd0 vs k).toList) = true ∧ (fd1 us k == fd1 vs k) = true ∧ (fd2 us k == fd2 vs k) = false ∧ sameB (fd0 us k, fd1 us k, fd2 us k) (fd0 vs k, fd1 vs k, fd2 vs k) = false) := by
  simp only [str_beq, sameB_true, sameB_false, beq_iff_eq, beq_eq_false_iff_ne, Prod.mk.injEq, ne_eq, decide_eq_true_eq, decide_eq_false_iff_not]
  by_cases h1 : fd0 us k = fd0 vs k <;> by_cases h2 : fd1 us k = fd1 vs k <;> by_cases h3 : fd2 us k = fd2 vs k <;> simp [h1, h2, h3]

set_option maxHeartbeats 2000000 in
theorem sameFields_any {A A' : Option Addr} {us vs : FdL} {c c' : Nat} {w : World} (hU : fdR w A us) (hV : fdR w A' vs) :
    Calls Try.prog 52 #[.slice A us.length c, .slice A' vs.length c'] w fun e w' => e = .returned (.bool (sameB us vs)) ∧ Below w.heap.size w w' := by
  have hl := hU.len
  have hl' := hV.len
  by_cases hlen : us.length = vs.length
  · have HL := Lib.hid hlen
    have hlen1 : ((us.length : Int) != vs.length) = false := by simp [hlen]
    clear hlen
    go_enter Try.func52, Try.ntmps52
    go_wp2
    go_loopw [5] (fun i wr => ∃ k : Nat, k ≤ us.length ∧ i = .int .i64 k ∧ Below w.heap.size w wr ∧ (∀ j, j < k → (fd0 us j, fd1 us j, fd2 us j) = (fd0 vs j, fd1 vs j, fd2 vs j))) (fun i _ => us.length - (intOf i).toNat)
    case atStart => exact ⟨0, Nat.zero_le _, rfl, Below.refl _ _, fun j h => by omega⟩
    case round =>
      obtain ⟨k, hk, rfl, hB, hgood⟩ := hrel
      have HG := Lib.hid hgood
      clear hgood
      by_cases hlt : k < us.length
      · have hlt' : k < vs.length := by rw [← HL.out]; exact hlt
        obtain ⟨b, off, rfl, hc⟩ := hU.cells (by omega)
        obtain ⟨b', off', rfl, hc'⟩ := hV.cells (by omega)
        obtain ⟨c1, c2, c3⟩ := hc k hlt
        obtain ⟨d1, d2, d3⟩ := hc' k hlt'
        have m1 := cell_regrown (below_cell hB c1)
        have m2 := cell_regrown (below_cell hB c2)
        have m3 := cell_regrown (below_cell hB c3)
        have n1 := cell_regrown (below_cell hB d1)
        have n2 := cell_regrown (below_cell hB d2)
        have n3 := cell_regrown (below_cell hB d3)
        clear c1 c2 c3 d1 d2 d3 hc hc'
        rcases fd_trips us vs k with ⟨g1, g2, g3, g⟩ | ⟨g1, g⟩ | ⟨g1, g2, g⟩ | ⟨g1, g2, g3, g⟩
        all_goals
          go_wp2
          refine wp_region_quiet_below (by kernel_rfl) (by kernel_rfl) ?_
          repeat (go_big_quiet_step (fail))
          refine wpQuiet_nil ?_
          intro w2 hw'regrown
          replace hB := ext_trans hB (below_of_regrown hw'regrown (Nat.le_refl _))
          clear hw'regrown
          go_wp2
        · go_roundw
          case rel => exact ⟨k + 1, by omega, by go_num, hB, all_succ HG.out (sameB_true.1 g)⟩
          case measure => simp [intOf]; omega
        all_goals
          go_ret
          exact ⟨ret_bool (fd_differ hlt hlt' (sameB_false.1 g)), hB⟩
      · obtain rfl : k = us.length := by omega
        go_wp2
        go_ret
        exact ⟨ret_bool (fd_same HL.out HG.out), hB⟩
  · have hlen1 : ((us.length : Int) != vs.length) = true := by simp; omega
    have HL := Lib.hid hlen
    clear hlen
    go_enter Try.func52, Try.ntmps52
    go_wp2
    go_ret
    exact ⟨ret_bool (by rw [eq_comm, sameB_false]; rintro rfl; exact HL.out rfl), Below.refl _ _⟩
theorem rq_sameB (who act what who' act' what' : Int) (fs fs' : FdL) : sameB ((who, act, what, fs) : Rq) (who', act', what', fs') = ((who == who') && ((act == act') && ((what == what') && sameB fs fs'))) := by
  rw [Bool.eq_iff_iff]
  simp only [sameB_true, Bool.and_eq_true, Prod.mk.injEq, beq_iff_eq]
set_option maxRecDepth 100000 in
set_option maxHeartbeats 4000000 in
theorem sameRequest_any {A A' : Option Addr} {fs fs' : FdL} {c c' : Nat} {who act what who' act' what' : Int} {w : World} (hU : fdR w A fs) (hV : fdR w A' fs') :
    Calls Try.prog 28 #[.agg #[.int .i64 who, .int .i64 act, .int .i64 what, .slice A fs.length c], .agg #[.int .i64 who', .int .i64 act', .int .i64 what', .slice A' fs'.length c']] w fun e w' => e = .returned (.bool (sameB ((who, act, what, fs) : Rq) (who', act', what', fs'))) ∧ Below w.heap.size w w' := by
  have hl := hU.len
  have hl' := hV.len
  rw [rq_sameB]
  cases g1 : (who == who') <;> cases g2 : (act == act') <;> cases g3 : (what == what')
  all_goals
    go_enter Try.func28, Try.ntmps28
    go_wp2_with (go_at_call 52; refine (sameFields_any (fdR.below hU (by (repeat (first | exact Below.refl _ _ | refine ext_alloc ?_ _ | refine Below.setCell ?_ (by simp) _)))) (fdR.below hV (by (repeat (first | exact Below.refl _ _ | refine ext_alloc ?_ _ | refine Below.setCell ?_ (by simp) _))))).mono ?_; rintro e w1 ⟨rfl, hb⟩)
    go_ret
    refine ⟨ret_bool (by simp), ?_⟩
    first
      | ((repeat (first | exact Below.refl _ _ | refine ext_alloc ?_ _)); done)
      | (refine ext_trans ?_ ‹Below _ _ _›; (repeat (first | exact Below.refl _ _ | refine ext_alloc ?_ _)); done)
theorem rc_sameB2 (r r' : Rc) : sameB r r' = ((rtm r == rtm r') && ((ral r == ral r') && ((rsl r == rsl r') && sameB ((rwho r, ract r, rwhat r, rfs r) : Rq) (rwho r', ract r', rwhat r', rfs r')))) := by
  rw [Bool.eq_iff_iff]
  simp only [sameB_true, Bool.and_eq_true, Prod.mk.injEq, beq_iff_eq]
  constructor
  · rintro rfl; simp
  · rintro ⟨h0, h5, h6, h1, h2, h3, h4⟩
    exact rc_ext h0 h1 h2 h3 h4 h5 h6
set_option maxRecDepth 100000 in
set_option maxHeartbeats 4000000 in
theorem sameRecord_any {A A' : Option Addr} {r r' : Rc} {c c' : Nat} {w : World} (hU : fdR w A (rfs r)) (hV : fdR w A' (rfs r')) :
    Calls Try.prog 51 #[.agg #[.int .i64 (rtm r), .int .i64 (rwho r), .int .i64 (ract r), .int .i64 (rwhat r), .slice A (rfs r).length c, .bool (ral r), .int .i64 (rsl r)], .agg #[.int .i64 (rtm r'), .int .i64 (rwho r'), .int .i64 (ract r'), .int .i64 (rwhat r'), .slice A' (rfs r').length c', .bool (ral r'), .int .i64 (rsl r')]] w fun e w' => e = .returned (.bool (sameB r r')) ∧ Below w.heap.size w w' := by
  have hl := hU.len
  have hl' := hV.len
  rw [rc_sameB2]
  cases g1 : (rtm r == rtm r') <;> cases g2 : (ral r == ral r') <;> cases g3 : (rsl r == rsl r')
  all_goals
    go_enter Try.func51, Try.ntmps51
    go_wp2_with (go_at_call 28; refine (sameRequest_any (fdR.below hU (by (repeat (first | exact Below.refl _ _ | refine ext_alloc ?_ _ | refine Below.setCell ?_ (by simp) _)))) (fdR.below hV (by (repeat (first | exact Below.refl _ _ | refine ext_alloc ?_ _ | refine Below.setCell ?_ (by simp) _))))).mono ?_; rintro e w1 ⟨rfl, hb⟩)
    go_ret
    refine ⟨ret_bool (by simp), ?_⟩
    first
      | ((repeat (first | exact Below.refl _ _ | refine ext_alloc ?_ _)); done)
      | (refine ext_trans ?_ ‹Below _ _ _›; (repeat (first | exact Below.refl _ _ | refine ext_alloc ?_ _)); done)
theorem sameRecord_at {A A' : Option Addr} {us vs : RcL} {k : Nat} {c c' : Nat} {w : World} (hU : fdR w A (rc4 us k)) (hV : fdR w A' (rc4 vs k)) :
    Calls Try.prog 51 #[.agg #[.int .i64 (rc0 us k), .int .i64 (rc1 us k), .int .i64 (rc2 us k), .int .i64 (rc3 us k), .slice A (rc4 us k).length c, .bool (rc5 us k), .int .i64 (rc6 us k)], .agg #[.int .i64 (rc0 vs k), .int .i64 (rc1 vs k), .int .i64 (rc2 vs k), .int .i64 (rc3 vs k), .slice A' (rc4 vs k).length c', .bool (rc5 vs k), .int .i64 (rc6 vs k)]] w fun e w' => e = .returned (.bool (sameB (rcAt us k) (rcAt vs k))) ∧ Below w.heap.size w w' := sameRecord_any hU hV
set_option maxRecDepth 100000 in
set_option maxHeartbeats 4000000 in
theorem sameRecords_any {A A' : Option Addr} {us vs : RcL} {c c' : Nat} {w : World} (hU : rcR w A us) (hV : rcR w A' vs) :
    Calls Try.prog 27 #[.slice A us.length c, .slice A' vs.length c'] w fun e w' => e = .returned (.bool (sameB us vs)) ∧ Below w.heap.size w w' := by
  have hl := hU.len
  have hl' := hV.len
  by_cases hlen : us.length = vs.length
  · have HL := Lib.hid hlen
    have hlen1 : ((us.length : Int) != vs.length) = false := by simp [hlen]
    clear hlen
    go_enter Try.func27, Try.ntmps27
    go_wp2
    go_loopw [5] (fun i wr => ∃ k : Nat, k ≤ us.length ∧ i = .int .i64 k ∧ Below w.heap.size w wr ∧ (∀ j, j < k → rcAt us j = rcAt vs j)) (fun i _ => us.length - (intOf i).toNat)
    case atStart => exact ⟨0, Nat.zero_le _, rfl, Below.refl _ _, fun j h => by omega⟩
    case round =>
      obtain ⟨k, hk, rfl, hB, hgood⟩ := hrel
      have HG := Lib.hid hgood
      clear hgood
      by_cases hlt : k < us.length
      · have hlt' : k < vs.length := by rw [← HL.out]; exact hlt
        obtain ⟨b, off, rfl, hc⟩ := hU.cells (by omega)
        obtain ⟨b', off', rfl, hc'⟩ := hV.cells (by omega)
        obtain ⟨A1, c1, hfd, p0, p1, p2, p3, p4, p5, p6⟩ := hc k hlt
        obtain ⟨A2, c2, hfd2, q0, q1, q2, q3, q4, q5, q6⟩ := hc' k hlt'
        replace p0 := cell_regrown (below_cell hB p0)
        replace p1 := cell_regrown (below_cell hB p1)
        replace p2 := cell_regrown (below_cell hB p2)
        replace p3 := cell_regrown (below_cell hB p3)
        replace p4 := cell_regrown (below_cell hB p4)
        replace p5 := cell_regrown (below_cell hB p5)
        replace p6 := cell_regrown (below_cell hB p6)
        replace q0 := cell_regrown (below_cell hB q0)
        replace q1 := cell_regrown (below_cell hB q1)
        replace q2 := cell_regrown (below_cell hB q2)
        replace q3 := cell_regrown (below_cell hB q3)
        replace q4 := cell_regrown (below_cell hB q4)
        replace q5 := cell_regrown (below_cell hB q5)
        replace q6 := cell_regrown (below_cell hB q6)
        replace hfd := hfd.below hB
        replace hfd2 := hfd2.below hB
        clear hc hc'
        have HE := Lib.hid (fun (d : Nat) (os : Array Obj) => sameRecord_at (c := c1) (c' := c2) (hfd.regrown d os) (hfd2.regrown d os))
        cases g : sameB (rcAt us k) (rcAt vs k)
        all_goals
          rw [g] at HE
          go_wp2
          refine wp_region_quiet_below (by kernel_rfl) (by kernel_rfl) ?_
          repeat (go_big_quiet_step ((go_at_call 51; (with_reducible exact Calls.regrown_of (HE.out _ _)))))
          refine wpQuiet_nil ?_
          intro w2 hw'regrown
          replace hB := ext_trans hB (below_of_regrown hw'regrown (Nat.le_refl _))
          clear hw'regrown p0 p1 p2 p3 p4 p5 p6 q0 q1 q2 q3 q4 q5 q6
          go_wp2
        · go_ret
          exact ⟨ret_bool (by rw [eq_comm, sameB_false]; rintro rfl; rw [sameB_self] at g; cases g), hB⟩
        · go_roundw
          case rel => exact ⟨k + 1, by omega, by go_num, hB, all_succ HG.out (sameB_true.1 g)⟩
          case measure => simp [intOf]; omega
      · obtain rfl : k = us.length := by omega
        go_wp2
        go_ret
        exact ⟨ret_bool (rc_same HL.out HG.out), hB⟩
  · have hlen1 : ((us.length : Int) != vs.length) = true := by simp; omega
    have HL := Lib.hid hlen
    clear hlen
    go_enter Try.func27, Try.ntmps27
    go_wp2
    go_ret
    exact ⟨ret_bool (by rw [eq_comm, sameB_false]; rintro rfl; exact HL.out rfl), Below.refl _ _⟩
end Go.Proofs.Ytdpiaiblpafglaa
