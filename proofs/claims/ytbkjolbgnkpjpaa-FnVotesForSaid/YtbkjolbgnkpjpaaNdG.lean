/- ApprovedAt of the reference. -/
import Derived.Test.YtbkjolbgnkpjpaaNdF
namespace Go.Proofs.Ytbkjolbgnkpjpaa
open Go.RowKit

def ndQ (may : IL) (least asked : Int) (l : VoL) (k : Nat) : Bool := ndP may least asked l k && decide (l.length ≤ 20)
theorem firstOf_none {p : Nat → Bool} : ∀ (f i : Nat), (∀ j, i ≤ j → j < i + f → p j = false) → firstOf p f i = -1
  | 0, _, _ => rfl
  | f + 1, i, h => by
    rw [firstOf, h i (by omega) (by omega)]
    simp only [Bool.false_eq_true, if_false]
    exact firstOf_none f (i + 1) (fun j h1 h2 => h j (by omega) (by omega))
theorem ndAt_q (may : IL) (least asked : Int) (l : VoL) : ndAt may least asked l = firstOf (ndQ may least asked l) (l.length + 1) 0 := by
  by_cases h : l.length ≤ 20
  · rw [ndAt_eq h]
    congr 1
    funext k
    simp [ndQ, h]
  · rw [ndAt, if_neg h, firstOf_none]
    intro j _ _
    simp [ndQ, h]

set_option maxRecDepth 100000 in
set_option maxHeartbeats 4000000 in
theorem specApprovedAt {A B : Option Addr} {may : IL} {l : VoL} {c c2 : Nat} {least asked : Int} {w : World} (hU : ilR w A may) (hV : voR w B l) (hcut : Cut B l.length c2) (hlen : l.length ≤ 4194304) :
    Calls Try.prog 27 #[.agg #[.slice A may.length c, .int .i64 least, .int .i64 asked], .slice B l.length c2] w fun e w' => e = .returned (.int .i64 (ndAt may least asked l)) ∧ Below w.heap.size w w' := by
  have hl := hV.len
  obtain ⟨W, hW⟩ : ∃ W, W = w.alloc (.cells #[.slice A may.length c, .int .i64 least, .int .i64 asked] 25) := ⟨_, rfl⟩
  have q0 : W.cell? ⟨w.heap.size, 0, none⟩ = some (.slice A may.length c) := by rw [hW]; exact box_cell w #[.slice A may.length c, .int .i64 least, .int .i64 asked] 25 0 (.slice A may.length c) rfl
  have q1 : W.cell? ⟨w.heap.size, 1, none⟩ = some (.int .i64 least) := by rw [hW]; exact box_cell w #[.slice A may.length c, .int .i64 least, .int .i64 asked] 25 1 (.int .i64 least) rfl
  have q2 : W.cell? ⟨w.heap.size, 2, none⟩ = some (.int .i64 asked) := by rw [hW]; exact box_cell w #[.slice A may.length c, .int .i64 least, .int .i64 asked] 25 2 (.int .i64 asked) rfl
  have hB0 : Below w.heap.size w W := by rw [hW]; exact below_alloc _ _
  replace hU := hU.below hB0
  replace hV := hV.below hB0
  have HW := Lib.hid hW
  have HCALL := Lib.hid (show ∀ wr, Below W.heap.size W wr → ∀ k, k ≤ l.length → ∀ d os c', Calls Try.prog 20 #[.agg #[.slice A may.length c, .int .i64 least, .int .i64 asked], .slice B k c'] (Sort.grow (redrawn wr d) os) fun e w' => e = .returned (.bool (ndP may least asked l k)) ∧ Below (Sort.grow (redrawn wr d) os).heap.size (Sort.grow (redrawn wr d) os) w' from
    fun wr hC k hk d os c' => specIsApproved_n (by simp; omega) (RdL.regrown (Flat.mono _) (hU.below hC) d os) (RdL.regrown (Flat.mono _) ((hV.below hC).take k) d os))
  have HA := Lib.hid (ndAt_q may least asked l)
  have HQ : Hid (∀ k, ndQ may least asked l k = (ndP may least asked l k && decide (l.length ≤ 20))) := Lib.hid (fun _ => rfl)
  clear hW
  by_cases g2 : l.length ≤ 20
  · have g3 : decide ((l.length : Int) ≤ 20) = true := by simp only [decide_eq_true_eq]; omega
    have g4 : decide (l.length ≤ 20) = true := by simp only [decide_eq_true_eq]; omega
    rcases hcut with ⟨rfl, h0, rfl⟩ | ⟨g, off, rfl, hcap, hcap2⟩
    · obtain rfl := List.eq_nil_of_length_eq_zero h0
      clear h0 g2 hlen
      have g2 : ([] : VoL).length ≤ 20 := by simp
      simp only [List.length_nil] at HCALL HQ HA
      go_enter Try.func27, Try.ntmps27
      go_wp2_with fail
      rw [← HW.out]
      go_loopw [5] (fun i wr => ∃ k : Nat, k ≤ 0 + 1 ∧ i = .int .i64 k ∧ firstOf (ndQ may least asked []) (0 + 1) 0 = firstOf (ndQ may least asked []) (0 + 1 - k) k ∧ Below W.heap.size W wr) (fun i _ => 0 + 1 - (intOf i).toNat)
      case atStart => exact ⟨0, by omega, rfl, rfl, Below.refl _ _⟩
      case round =>
        obtain ⟨k, hk, rfl, hf, hC⟩ := hrel
        have HF := Lib.hid hf
        clear hf
        rcases Nat.eq_zero_or_pos k with rfl | hkp
        · have hst := Lib.hid (firstOf_step (by omega) HF.out)
          have r0 := cell_regrown (below_cell hC q0)
          have r1 := cell_regrown (below_cell hC q1)
          have r2 := cell_regrown (below_cell hC q2)
          have hle : (0 : Int) ≤ 0 := by omega
          have HC := Lib.hid (HCALL.out wr hC 0 (by omega))
          have HQK := Lib.hid (HQ.out 0)
          cases gp : ndP may least asked [] 0
          all_goals
            rw [gp] at HC HQK
            go_wp2
            refine wp_region_quiet_below (by kernel_rfl) (by kernel_rfl) ?_
            repeat (go_big_quiet_step ((go_at_call 20; (with_reducible exact Calls.regrown_of (HC.out _ _ _)))))
            refine wpQuiet_nil ?_
            intro w3 hw'regrown
            replace hC := ext_trans hC (below_of_regrown hw'regrown (Nat.le_refl _))
            clear hw'regrown r0 r1 r2
            go_wp2
          · go_roundw
            case rel => exact ⟨1, by omega, by go_num, by rw [hst.out, HQK.out]; simp, hC⟩
            case measure => simp [intOf]; try omega
          · go_ret
            exact ⟨ret_int (by rw [HA.out, hst.out, HQK.out]; simp [g2]), hB0.trans (hC.mono hB0.size)⟩
        · have HK : Hid (-1 = ndAt may least asked []) := Lib.hid (by rw [HA.out, HF.out, show 0 + 1 - k = 0 by omega, firstOf])
          have hgt : ¬ (k : Int) ≤ 0 := by omega
          obtain rfl : k = 1 := by omega
          go_wp2
          go_ret
          exact ⟨ret_int HK.out, hB0.trans (hC.mono hB0.size)⟩
    · skip
      go_enter Try.func27, Try.ntmps27
      go_wp2_with fail
      rw [← HW.out]
      go_loopw [5] (fun i wr => ∃ k : Nat, k ≤ l.length + 1 ∧ i = .int .i64 k ∧ firstOf (ndQ may least asked l) (l.length + 1) 0 = firstOf (ndQ may least asked l) (l.length + 1 - k) k ∧ Below W.heap.size W wr) (fun i _ => l.length + 1 - (intOf i).toNat)
      case atStart => exact ⟨0, by omega, rfl, rfl, Below.refl _ _⟩
      case round =>
        obtain ⟨k, hk, rfl, hf, hC⟩ := hrel
        have HF := Lib.hid hf
        clear hf
        by_cases hlt : k < l.length + 1
        · have hst := Lib.hid (firstOf_step hlt HF.out)
          have r0 := cell_regrown (below_cell hC q0)
          have r1 := cell_regrown (below_cell hC q1)
          have r2 := cell_regrown (below_cell hC q2)
          have hle : (k : Int) ≤ l.length := by omega
          have HC := Lib.hid (HCALL.out wr hC k (by omega))
          have HQK := Lib.hid (HQ.out k)
          cases gp : ndP may least asked l k
          all_goals
            rw [gp] at HC HQK
            go_wp2
            refine wp_region_quiet_below (by kernel_rfl) (by kernel_rfl) ?_
            repeat (go_big_quiet_step ((go_at_call 20; (with_reducible exact Calls.regrown_of (HC.out _ _ _)))))
            refine wpQuiet_nil ?_
            intro w3 hw'regrown
            replace hC := ext_trans hC (below_of_regrown hw'regrown (Nat.le_refl _))
            clear hw'regrown r0 r1 r2
            go_wp2
          · go_roundw
            case rel => exact ⟨k + 1, by omega, by go_num, by rw [hst.out, HQK.out]; simp, hC⟩
            case measure => simp [intOf]; try omega
          · go_ret
            exact ⟨ret_int (by rw [HA.out, hst.out, HQK.out]; simp [g2]), hB0.trans (hC.mono hB0.size)⟩
        · have HK : Hid (-1 = ndAt may least asked l) := Lib.hid (by rw [HA.out, HF.out, show l.length + 1 - k = 0 by omega, firstOf])
          have hgt : ¬ (k : Int) ≤ l.length := by omega
          go_wp2
          go_ret
          exact ⟨ret_int HK.out, hB0.trans (hC.mono hB0.size)⟩
  · have g3 : decide ((l.length : Int) ≤ 20) = false := by simp only [decide_eq_false_iff_not]; omega
    have g4 : decide (l.length ≤ 20) = false := by simp only [decide_eq_false_iff_not]; omega
    rcases hcut with ⟨rfl, h0, rfl⟩ | ⟨g, off, rfl, hcap, hcap2⟩
    · omega
    · skip
      go_enter Try.func27, Try.ntmps27
      go_wp2_with fail
      rw [← HW.out]
      go_loopw [5] (fun i wr => ∃ k : Nat, k ≤ l.length + 1 ∧ i = .int .i64 k ∧ firstOf (ndQ may least asked l) (l.length + 1) 0 = firstOf (ndQ may least asked l) (l.length + 1 - k) k ∧ Below W.heap.size W wr) (fun i _ => l.length + 1 - (intOf i).toNat)
      case atStart => exact ⟨0, by omega, rfl, rfl, Below.refl _ _⟩
      case round =>
        obtain ⟨k, hk, rfl, hf, hC⟩ := hrel
        have HF := Lib.hid hf
        clear hf
        by_cases hlt : k < l.length + 1
        · have hst := Lib.hid (firstOf_step hlt HF.out)
          have r0 := cell_regrown (below_cell hC q0)
          have r1 := cell_regrown (below_cell hC q1)
          have r2 := cell_regrown (below_cell hC q2)
          have hle : (k : Int) ≤ l.length := by omega
          have HC := Lib.hid (HCALL.out wr hC k (by omega))
          have HQK := Lib.hid (HQ.out k)
          cases gp : ndP may least asked l k
          all_goals
            rw [gp] at HC HQK
            go_wp2
            refine wp_region_quiet_below (by kernel_rfl) (by kernel_rfl) ?_
            repeat (go_big_quiet_step ((go_at_call 20; (with_reducible exact Calls.regrown_of (HC.out _ _ _)))))
            refine wpQuiet_nil ?_
            intro w3 hw'regrown
            replace hC := ext_trans hC (below_of_regrown hw'regrown (Nat.le_refl _))
            clear hw'regrown r0 r1 r2
            go_wp2
          · go_roundw
            case rel => exact ⟨k + 1, by omega, by go_num, by rw [hst.out, HQK.out]; simp, hC⟩
            case measure => simp [intOf]; try omega
          · go_roundw
            case rel => exact ⟨k + 1, by omega, by go_num, by rw [hst.out, HQK.out]; simp [g2], hC⟩
            case measure => simp [intOf]; try omega
        · have HK : Hid (-1 = ndAt may least asked l) := Lib.hid (by rw [HA.out, HF.out, show l.length + 1 - k = 0 by omega, firstOf])
          have hgt : ¬ (k : Int) ≤ l.length := by omega
          go_wp2
          go_ret
          exact ⟨ret_int HK.out, hB0.trans (hC.mono hB0.size)⟩
end Go.Proofs.Ytbkjolbgnkpjpaa
