/- Expressions: sameness by the reference. Printed by gen_same.py. -/
import Derived.Test.YtodjokdaofefdaaExB
namespace Go.Proofs.Ytodjokdaofefdaa
set_option linter.unusedSimpArgs false
set_option linter.unusedVariables false
open Go.RowKit

theorem ex_sameX2 (r r' : Ex) : sameX r r' = true ↔ r = r' := sameX_true
def SmS (d : Nat) : Prop := ∀ (A A' : Option Addr) (r r' : Ex) (c c' : Nat) (w : World), exW d w A r.ps → exW d w A' r'.ps →
  Calls Try.prog 148 #[.agg #[.int .i64 r.k, .int .i64 r.n, .string r.s, .slice A r.ps.length c], .agg #[.int .i64 r'.k, .int .i64 r'.n, .string r'.s, .slice A' r'.ps.length c']] w fun e w' => e = .returned (.bool (sameX r r')) ∧ Below w.heap.size w w'
set_option maxRecDepth 100000 in
set_option maxHeartbeats 4000000 in
theorem smS_of {d : Nat} (hQ : ∀ m, d = m + 1 → SmS m) : SmS d := by
  intro A A' r r' c c' w hU hV
  have hl := exS.len hU
  have hl' := exS.len hV
  have HQ := Lib.hid hQ
  clear hQ
  have HD := Lib.hid (ex_sameX2 r r')
  by_cases h1 : r.k = r'.k
  · have e1 : (r.k != r'.k) = false := by simp [h1]
    have H1 := Lib.hid h1
    clear h1
    by_cases h2 : r.n = r'.n
    · have e2 : (r.n != r'.n) = false := by simp [h2]
      have H2 := Lib.hid h2
      clear h2
      by_cases h3 : r.s = r'.s
      · have e3 : (r.s.toList == r'.s.toList) = true := by simp [h3]
        have H3 := Lib.hid h3
        clear h3
        by_cases h4 : r.ps.length = r'.ps.length
        · have e4 : ((r.ps.length : Int) != r'.ps.length) = false := by simp [h4]
          have H4 := Lib.hid h4
          clear h4
          obtain ⟨W, hW⟩ : ∃ W, W = (w.alloc (.cells #[.int .i64 r.k, .int .i64 r.n, .string r.s, .slice A r.ps.length c] 28)).alloc (.cells #[.int .i64 r'.k, .int .i64 r'.n, .string r'.s, .slice A' r'.ps.length c'] 28) := ⟨_, rfl⟩
          have hBW : Below w.heap.size w W := by rw [hW]; (repeat (first | exact Below.refl _ _ | refine ext_alloc ?_ _ | refine Below.setCell ?_ (by simp) _))
          have b0 : W.cell? ⟨w.heap.size, 3, none⟩ = some (.slice A r.ps.length c) := by rw [hW]; exact below_cell (below_alloc _ _) (box_cell w _ _ 3 _ rfl)
          have b1 : W.cell? ⟨w.heap.size + 1, 3, none⟩ = some (.slice A' r'.ps.length c') := by rw [hW]; exact box_cell_at (by simp) rfl
          have HW := Lib.hid hW
          have HB0 := Lib.hid b0
          have HB1 := Lib.hid b1
          have HBW := Lib.hid hBW
          clear hW b0 b1 hBW
          go_enter Try.func148, Try.ntmps148
          go_wp2
          go_loopw [5] (fun i wr => ∃ k : Nat, k ≤ r.ps.length ∧ i = .int .i64 k ∧ Below W.heap.size W wr ∧ (∀ j, j < k → exAt r.ps j = exAt r'.ps j)) (fun i _ => r.ps.length - (intOf i).toNat)
          case atStart => exact ⟨0, Nat.zero_le _, rfl, by rw [HW.out]; exact Below.refl _ _, fun j h => by omega⟩
          case round =>
            obtain ⟨k, hk, rfl, hB, hgood⟩ := hrel
            have HG := Lib.hid hgood
            clear hgood
            have b0 := below_cell hB HB0.out
            have b1 := below_cell hB HB1.out
            by_cases hlt : k < r.ps.length
            · have hlt' : k < r'.ps.length := by rw [← H4.out]; exact hlt
              have hd : ∃ m, d = m + 1 := by
                cases d with
                | zero => have := exS.zero hU; rw [this] at hlt; simp at hlt
                | succ m => exact ⟨m, rfl⟩
              obtain ⟨m, hm⟩ := hd
              subst hm
              have HQ1 := Lib.hid (HQ.out m rfl)
              obtain ⟨b, off, rfl, hc⟩ := (hU.below HBW.out).cells (by omega)
              obtain ⟨b', off', rfl, hc'⟩ := (hV.below HBW.out).cells (by omega)
              obtain ⟨A1, c1, hfd, _, p0, p1, p2, p3⟩ := hc k hlt
              obtain ⟨A2, c2, hfd2, _, q0, q1, q2, q3⟩ := hc' k hlt'
              replace p0 := below_cell hB p0
              replace p1 := below_cell hB p1
              replace p2 := below_cell hB p2
              replace p3 := below_cell hB p3
              replace q0 := below_cell hB q0
              replace q1 := below_cell hB q1
              replace q2 := below_cell hB q2
              replace q3 := below_cell hB q3
              replace hfd := hfd.below hB
              replace hfd2 := hfd2.below hB
              clear hc hc'
              have a0 := cell_regrown b0
              have a1 := cell_regrown b1
              replace p0 := cell_regrown p0
              replace p1 := cell_regrown p1
              replace p2 := cell_regrown p2
              replace p3 := cell_regrown p3
              replace q0 := cell_regrown q0
              replace q1 := cell_regrown q1
              replace q2 := cell_regrown q2
              replace q3 := cell_regrown q3
              have HE := Lib.hid (fun (n : Nat) (os : Array Obj) => HQ1.out _ _ _ _ c1 c2 _ (hfd.regrown n os) (hfd2.regrown n os))
              cases g : sameX (exAt r.ps k) (exAt r'.ps k)
              all_goals
                rw [g] at HE
                go_wp2
                refine wp_region_quiet_below (by kernel_rfl) (by kernel_rfl) ?_
                repeat (go_big_quiet_step ((go_at_call 148; (with_reducible exact Calls.regrown_of (HE.out _ _)))))
                refine wpQuiet_nil ?_
                intro w2 hw'regrown
                replace hB := ext_trans hB (below_of_regrown hw'regrown (Nat.le_refl _))
                clear hw'regrown p0 q0 p1 q1 p2 q2 p3 q3 b0 b1 a0 a1
                go_wp2
              · go_ret
                exact ⟨ret_bool (by rw [eq_comm, sameX_false]; intro h; rw [h, sameX_self] at g; cases g), HBW.out.trans (hB.mono HBW.out.size)⟩
              · go_roundw
                case rel => exact ⟨k + 1, by omega, by go_num, hB, all_succ HG.out (sameX_true.1 g)⟩
                case measure => simp [intOf]; omega
            · obtain rfl : k = r.ps.length := by omega
              go_wp2
              go_ret
              exact ⟨ret_bool (by rw [eq_comm, sameX_true]; exact Ex.ext H1.out H2.out H3.out (by have := ex_same H4.out HG.out; exact sameX_true.1 this.symm)), HBW.out.trans (hB.mono HBW.out.size)⟩
        · have e4 : ((r.ps.length : Int) != r'.ps.length) = true := by simp; omega
          have H4 := Lib.hid h4
          clear h4
          go_enter Try.func148, Try.ntmps148
          go_wp2
          go_ret
          exact ⟨ret_bool (by rw [eq_comm, sameX_false]; intro h; exact H4.out (by rw [h])), by (repeat (first | exact Below.refl _ _ | refine ext_alloc ?_ _ | refine Below.setCell ?_ (by simp) _))⟩
      · have e3 : (r.s.toList == r'.s.toList) = false := by rw [str_beq]; simp [h3]
        have H3 := Lib.hid h3
        clear h3
        go_enter Try.func148, Try.ntmps148
        go_wp2
        go_ret
        exact ⟨ret_bool (by rw [eq_comm, sameX_false]; intro h; exact H3.out (by rw [h])), by (repeat (first | exact Below.refl _ _ | refine ext_alloc ?_ _ | refine Below.setCell ?_ (by simp) _))⟩
    · have e2 : (r.n != r'.n) = true := by simp [h2]
      have H2 := Lib.hid h2
      clear h2
      go_enter Try.func148, Try.ntmps148
      go_wp2
      go_ret
      exact ⟨ret_bool (by rw [eq_comm, sameX_false]; intro h; exact H2.out (by rw [h])), by (repeat (first | exact Below.refl _ _ | refine ext_alloc ?_ _ | refine Below.setCell ?_ (by simp) _))⟩
  · have e1 : (r.k != r'.k) = true := by simp [h1]
    have H1 := Lib.hid h1
    clear h1
    go_enter Try.func148, Try.ntmps148
    go_wp2
    go_ret
    exact ⟨ret_bool (by rw [eq_comm, sameX_false]; intro h; exact H1.out (by rw [h])), by (repeat (first | exact Below.refl _ _ | refine ext_alloc ?_ _ | refine Below.setCell ?_ (by simp) _))⟩
theorem smS_all : ∀ d, SmS d
  | 0 => smS_of (fun m h => by cases h)
  | d + 1 => smS_of (fun m h => by cases h; exact smS_all d)
end Go.Proofs.Ytodjokdaofefdaa
