/- VotesFor of the reference; IsApproved; ApprovedAt. -/
import Derived.Test.YtbkjolbgnkpjpaaNdC
namespace Go.Proofs.Ytbkjolbgnkpjpaa
open Go.RowKit

set_option maxRecDepth 100000 in
set_option maxHeartbeats 4000000 in
theorem specVotesFor {A B : Option Addr} {may : IL} {l : VoL} {c c2 : Nat} {least asked : Int} {w : World} (hU : ilR w A may) (hV : voR w B l) :
    Calls Try.prog 24 #[.agg #[.slice A may.length c, .int .i64 least, .int .i64 asked], .slice B l.length c2] w (SlPost 3 1 ilEnc w (ndFor may least asked l)) := by
  have hl := hV.len
  obtain ⟨W0, hW0⟩ : ∃ W, W = w.alloc (.cells #[.slice A may.length c, .int .i64 least, .int .i64 asked] 25) := ⟨_, rfl⟩
  have q0 : W0.cell? ⟨w.heap.size, 0, none⟩ = some (.slice A may.length c) := by rw [hW0]; exact box_cell w #[.slice A may.length c, .int .i64 least, .int .i64 asked] 25 0 (.slice A may.length c) rfl
  have q1 : W0.cell? ⟨w.heap.size, 1, none⟩ = some (.int .i64 least) := by rw [hW0]; exact box_cell w #[.slice A may.length c, .int .i64 least, .int .i64 asked] 25 1 (.int .i64 least) rfl
  have q2 : W0.cell? ⟨w.heap.size, 2, none⟩ = some (.int .i64 asked) := by rw [hW0]; exact box_cell w #[.slice A may.length c, .int .i64 least, .int .i64 asked] 25 2 (.int .i64 asked) rfl
  have hB0 : Below w.heap.size w W0 := by rw [hW0]; exact below_alloc _ _
  have hsz : W0.heap.size = w.heap.size + 1 := by rw [hW0]; simp
  obtain ⟨ov0, hov0⟩ : ∃ v, v = Value.slice (some ⟨w.heap.size + 1, 0, none⟩) 0 0 := ⟨_, rfl⟩
  have hO : OwnA W0.heap.size 3 1 ilEnc (W0.alloc (.cells #[] 3)) ov0 [] := by rw [hov0, ← hsz]; exact OwnA.empty (Nat.le_refl _)
  obtain ⟨W, hW⟩ : ∃ W, W = W0.alloc (.cells #[] 3) := ⟨_, rfl⟩
  have hB1 : Below W0.heap.size W0 W := by rw [hW]; exact below_alloc _ _
  rw [← hW] at hO
  have p0 := below_cell hB1 q0
  have p1 := below_cell hB1 q1
  have p2 := below_cell hB1 q2
  replace hU := hU.below hB0
  replace hV := hV.below hB0
  have hU1 := hU.below hB1
  have hB := hB1
  have HW0 := Lib.hid hW0
  have HW := Lib.hid hW
  have HV := Lib.hid hov0
  clear hW0 hW hsz hov0 hB1
  cases g1 : ndOk may least asked
  · have HE : Hid (ndFor may least asked l = []) := Lib.hid (ndFor_no (.inl g1))
    go_enter Try.func24, Try.ntmps24
    go_wp2_with fail
    rw [← HW0.out, ← HV.out, ← HW.out]
    refine (specNeedValid hU1).mono ?_
    rintro e w1 ⟨rfl, hBc⟩
    replace hB := ext_trans hB hBc
    replace hO := OwnA.below hO hBc
    clear hBc
    go_wp2
    go_ret
    exact SlPost.of HE.out (hO.lower hB0.size) (hB0.trans (hB.mono hB0.size))
  · by_cases g2 : 20 < l.length
    · have HE : Hid (ndFor may least asked l = []) := Lib.hid (ndFor_no (.inr g2))
      go_enter Try.func24, Try.ntmps24
      go_wp2_with fail
      rw [← HW0.out, ← HV.out, ← HW.out]
      refine (specNeedValid hU1).mono ?_
      rintro e w1 ⟨rfl, hBc⟩
      replace hB := ext_trans hB hBc
      replace hO := OwnA.below hO hBc
      clear hBc
      go_wp2
      go_ret
      exact SlPost.of HE.out (hO.lower hB0.size) (hB0.trans (hB.mono hB0.size))
    · have HE : Hid (ndFor may least asked l = voFor may asked l) := Lib.hid (ndFor_yes g1 (by omega))
      have hm7 := ndOk_len g1
      go_enter Try.func24, Try.ntmps24
      go_wp2_with fail
      rw [← HW0.out, ← HV.out, ← HW.out]
      refine (specNeedValid hU1).mono ?_
      rintro e w1 ⟨rfl, hBc⟩
      replace hB := ext_trans hB hBc
      replace hO := OwnA.below hO hBc
      clear hBc
      go_wp2
      clear g1 p0 p1 p2 hU1
      go_loopw [5, 6] (fun ov i wr => ∃ k : Nat, k ≤ may.length ∧ i = .int .i64 k ∧ OwnA W0.heap.size 3 1 ilEnc wr ov ((may.take k).filter (voP asked l)) ∧ Below W0.heap.size W0 wr) (fun _ i _ => may.length - (intOf i).toNat)
      case atStart => exact ⟨0, Nat.zero_le _, rfl, hO, hB⟩
      case round =>
        clear hB hO
        obtain ⟨k, hk, rfl, hO, hB⟩ := hrel
        have hlk := filter_take_len (voP asked l) may k
        have p0 := below_cell hB q0
        by_cases hlt : k < may.length
        · obtain ⟨ba, offa, rfl, hca⟩ := hU.cells (by omega)
          have hcak := hca k hlt
          have HS := Lib.hid (voFor_succ may asked l hlt)
          have HP : Hid (voP asked l (il0 may k) = (decide (il0 may k ≠ asked) && voF l l.length (il0 may k))) := Lib.hid rfl
          clear hca
          go_wp2
          obtain ⟨wo, hwo⟩ : ∃ wo : World, wo = wr := ⟨_, rfl⟩
          subst hwo
          go_loopw [7, 8] (fun la i w2 => ∃ j : Nat, j ≤ l.length ∧ i = .int .i64 j ∧ la = .bool (voF l j (il0 may k)) ∧ Below wo.heap.size wo w2) (fun _ i _ => l.length - (intOf i).toNat)
          case atStart => exact ⟨0, Nat.zero_le _, rfl, rfl, Below.refl _ _⟩
          case round =>
            rename_i w2
            obtain ⟨j, hj, rfl, rfl, hD⟩ := hrel
            by_cases hjl : j < l.length
            · obtain ⟨bv, offv, rfl, hcv⟩ := hV.cells (by omega)
              obtain ⟨c0, c1⟩ := hcv j hjl
              have m0 := cell_regrown (below_cell hD (below_cell hB c0))
              have m1 := below_cell hD (below_cell hB c1)
              have ma := cell_regrown (below_cell hD (below_cell hB hcak))
              have r0 := cell_regrown (below_cell hD p0)
              have HF : Hid (voF l (j + 1) (il0 may k) = if il0 may k = vo0 l j then vo1 l j else voF l j (il0 may k)) := Lib.hid rfl
              clear c0 hcv
              cases g5 : (vo0 l j == il0 may k)
              · clear m1 c1
                go_wp2
                refine wp_region_quiet_below (by kernel_rfl) (by kernel_rfl) ?_
                repeat (go_big_quiet_step (fail))
                refine wpQuiet_nil ?_
                intro w4 hw'regrown
                replace hD := ext_trans hD (below_of_regrown hw'regrown (Nat.le_refl _))
                clear hw'regrown
                go_wp2
                go_roundw
                case rel => exact ⟨j + 1, by omega, by go_num, by rw [HF.out, if_neg (fun e => by rw [e] at g5; simp at g5)], hD⟩
                case measure => simp [intOf]; omega
              · clear m1
                go_wp2
                refine wp_region_quiet_below (by kernel_rfl) (by kernel_rfl) ?_
                repeat (go_big_quiet_step (fail))
                refine wpQuiet_nil ?_
                intro w4 hw'regrown
                replace hD := ext_trans hD (below_of_regrown hw'regrown (Nat.le_refl _))
                clear hw'regrown m0 ma r0
                have m1 := below_cell hD (below_cell hB c1)
                clear c1
                go_wp2
                go_roundw
                case rel => exact ⟨j + 1, by omega, by go_num, by rw [HF.out, if_pos (eq_of_beq g5).symm], hD⟩
                case measure => simp [intOf]; omega
            · obtain rfl : j = l.length := by omega
              have ma := cell_regrown (below_cell hD (below_cell hB hcak))
              have r0 := cell_regrown (below_cell hD p0)
              have r2 := cell_regrown (below_cell hD (below_cell hB q2))
              replace hO := hO.below hD
              replace hB := hB.trans (hD.mono hB.size)
              clear hD p0
              cases g1 : voF l l.length (il0 may k)
              · have HP2 : Hid (voP asked l (il0 may k) = false) := Lib.hid (by rw [HP.out, g1, Bool.and_false])
                go_wp2
                refine wp_region_quiet_below (by kernel_rfl) (by kernel_rfl) ?_
                repeat (go_big_quiet_step (fail))
                refine wpQuiet_nil ?_
                intro w4 hw'regrown
                have hBr := below_of_regrown hw'regrown (Nat.le_refl _)
                clear hw'regrown ma r0 r2
                replace hO := hO.below hBr
                replace hB := hB.trans (hBr.mono hB.size)
                clear hBr
                go_wp2
                go_roundw
                case rel => exact ⟨k + 1, by omega, by go_num, hO.eq (by rw [HS.out, if_neg (by rw [HP2.out]; simp)]), hB⟩
                case measure => simp [intOf]; omega
              · cases g6 : (il0 may k != asked)
                · have HP2 : Hid (voP asked l (il0 may k) = false) := Lib.hid (by rw [HP.out]; simp at g6; simp [g6])
                  go_wp2
                  refine wp_region_quiet_below (by kernel_rfl) (by kernel_rfl) ?_
                  repeat (go_big_quiet_step (fail))
                  refine wpQuiet_nil ?_
                  intro w4 hw'regrown
                  have hBr := below_of_regrown hw'regrown (Nat.le_refl _)
                  clear hw'regrown ma r0 r2
                  replace hO := hO.below hBr
                  replace hB := hB.trans (hBr.mono hB.size)
                  clear hBr
                  go_wp2
                  go_roundw
                  case rel => exact ⟨k + 1, by omega, by go_num, hO.eq (by rw [HS.out, if_neg (by rw [HP2.out]; simp)]), hB⟩
                  case measure => simp [intOf]; omega
                · have HP2 : Hid (voP asked l (il0 may k) = true) := Lib.hid (by rw [HP.out, g1]; simp at g6; simp [g6])
                  go_wp2
                  refine wp_region_quiet_below (by kernel_rfl) (by kernel_rfl) ?_
                  repeat (go_big_quiet_step (fail))
                  refine wpQuiet_nil ?_
                  intro w4 hw'regrown
                  have hBr := below_of_regrown hw'regrown (Nat.le_refl _)
                  clear hw'regrown ma r0 r2
                  replace hO := hO.below hBr
                  replace hB := hB.trans (hBr.mono hB.size)
                  clear hBr
                  have p0 := below_cell hB q0
                  have ma := below_cell hB hcak
                  go_wp2_with (at_builtin; go_must (refine wpList_push (enc := ilEnc) (il0 may k) rfl (.tmp 59) (.tmp 65) 23 3 _ 1 8 rfl Try.underlying23 Try.infoInt rfl (by decide) (fun _ => rfl) ilEnc_one (hO.below (by (repeat (first | exact Below.refl _ _ | refine ext_alloc ?_ _ | refine Below.setCell ?_ (by simp) _)))) rfl (heap_alloc_at (by simp)) (by rfl) (by omega) (by omega) (Nat.le_trans hB.size (show Below _ _ _ by (repeat (first | exact Below.refl _ _ | refine ext_alloc ?_ _ | refine Below.setCell ?_ (by simp) _))).size) ?_); intro v_ wq1 ho_ hb_ hg_)
                  replace hB := (ext_trans hB (by (repeat (first | exact Below.refl _ _ | refine ext_alloc ?_ _ | refine Below.setCell ?_ (by simp) _)))).trans hb_
                  replace hO := ho_
                  clear ho_ hb_ hg_
                  go_wp2
                  go_roundw
                  case rel => exact ⟨k + 1, by omega, by go_num, hO.eq (by rw [HS.out, if_pos HP2.out]), hB⟩
                  case measure => simp [intOf]; omega
        · obtain rfl : k = may.length := by omega
          go_wp2
          go_ret
          exact SlPost.of (by rw [HE.out, voFor_eq, List.take_length]) (hO.lower hB0.size) (hB0.trans (hB.mono hB0.size))
end Go.Proofs.Ytbkjolbgnkpjpaa
