/- ApprovedAt. -/
import Derived.Test.YtbkjolbgnkpjpaaNdE
namespace Go.Proofs.Ytbkjolbgnkpjpaa
open Go.RowKit

/-- A slice that may be cut anywhere. -/
def Cut (B : Option Addr) (n c : Nat) : Prop := (B = Option.none ∧ n = 0 ∧ c = 0) ∨ ∃ g off, B = some ⟨g, off, Option.none⟩ ∧ n ≤ c ∧ c ≤ 9223372036854775807
def ndP (may : IL) (least asked : Int) (l : VoL) (k : Nat) : Bool := ndApr may least asked (l.take k)
theorem ndAt_eq {may : IL} {least asked : Int} {l : VoL} (h : l.length ≤ 20) : ndAt may least asked l = firstOf (ndP may least asked l) (l.length + 1) 0 := by
  simp only [ndAt, if_pos h]; rfl
theorem implIsApproved_n {A B : Option Addr} {may : IL} {l : VoL} {c c2 n : Nat} {least asked : Int} {w : World} (hn : l.length = n) (hU : ilR w A may) (hV : voR w B l) (hwf : WfV l) :
    Calls Try.prog 19 #[.agg #[.slice A may.length c, .int .i64 least, .int .i64 asked], .slice B n c2] w fun e w' => e = .returned (.bool (ndApr may least asked l)) ∧ Below w.heap.size w w' := by
  subst hn; exact implIsApproved hU hV hwf
theorem specIsApproved_n {A B : Option Addr} {may : IL} {l : VoL} {c c2 n : Nat} {least asked : Int} {w : World} (hn : l.length = n) (hU : ilR w A may) (hV : voR w B l) :
    Calls Try.prog 20 #[.agg #[.slice A may.length c, .int .i64 least, .int .i64 asked], .slice B n c2] w fun e w' => e = .returned (.bool (ndApr may least asked l)) ∧ Below w.heap.size w w' := by
  subst hn; exact specIsApproved hU hV
theorem voR.take {w : World} {B : Option Addr} {l : VoL} (h : voR w B l) (m : Nat) : voR w B (l.take m) := RdL.take h m

set_option maxRecDepth 100000 in
set_option maxHeartbeats 4000000 in
theorem implApprovedAt {A B : Option Addr} {may : IL} {l : VoL} {c c2 : Nat} {least asked : Int} {w : World} (hU : ilR w A may) (hV : voR w B l) (hwf : WfV l) (hcut : Cut B l.length c2) :
    Calls Try.prog 26 #[.agg #[.slice A may.length c, .int .i64 least, .int .i64 asked], .slice B l.length c2] w fun e w' => e = .returned (.int .i64 (ndAt may least asked l)) ∧ Below w.heap.size w w' := by
  have hl := hV.len
  obtain ⟨W, hW⟩ : ∃ W, W = w.alloc (.cells #[.slice A may.length c, .int .i64 least, .int .i64 asked] 25) := ⟨_, rfl⟩
  have q0 : W.cell? ⟨w.heap.size, 0, none⟩ = some (.slice A may.length c) := by rw [hW]; exact box_cell w #[.slice A may.length c, .int .i64 least, .int .i64 asked] 25 0 (.slice A may.length c) rfl
  have q1 : W.cell? ⟨w.heap.size, 1, none⟩ = some (.int .i64 least) := by rw [hW]; exact box_cell w #[.slice A may.length c, .int .i64 least, .int .i64 asked] 25 1 (.int .i64 least) rfl
  have q2 : W.cell? ⟨w.heap.size, 2, none⟩ = some (.int .i64 asked) := by rw [hW]; exact box_cell w #[.slice A may.length c, .int .i64 least, .int .i64 asked] 25 2 (.int .i64 asked) rfl
  have hB0 : Below w.heap.size w W := by rw [hW]; exact below_alloc _ _
  replace hU := hU.below hB0
  replace hV := hV.below hB0
  have HW := Lib.hid hW
  have HCALL := Lib.hid (show ∀ wr, Below W.heap.size W wr → ∀ k, k ≤ l.length → ∀ d os c', Calls Try.prog 19 #[.agg #[.slice A may.length c, .int .i64 least, .int .i64 asked], .slice B k c'] (Sort.grow (redrawn wr d) os) fun e w' => e = .returned (.bool (ndP may least asked l k)) ∧ Below (Sort.grow (redrawn wr d) os).heap.size (Sort.grow (redrawn wr d) os) w' from
    fun wr hC k hk d os c' => implIsApproved_n (by simp; omega) (RdL.regrown (Flat.mono _) (hU.below hC) d os) (RdL.regrown (Flat.mono _) ((hV.below hC).take k) d os) (hwf.take k))
  clear hW hwf
  by_cases g2 : 20 < l.length
  · have HA : Hid (ndAt may least asked l = -1) := Lib.hid (by rw [ndAt, if_neg (by omega)])
    go_enter Try.func26, Try.ntmps26
    go_wp2_with fail
    rw [← HW.out]
    go_ret
    exact ⟨ret_int HA.out.symm, hB0⟩
  · have HA := Lib.hid (ndAt_eq (may := may) (least := least) (asked := asked) (l := l) (by omega))
    rcases hcut with ⟨rfl, h0, rfl⟩ | ⟨g, off, rfl, hcap, hcap2⟩
    all_goals
      go_enter Try.func26, Try.ntmps26
      go_wp2_with fail
      rw [← HW.out]
      go_loopw [12] (fun i wr => ∃ k : Nat, k ≤ l.length + 1 ∧ i = .int .i64 k ∧ firstOf (ndP may least asked l) (l.length + 1) 0 = firstOf (ndP may least asked l) (l.length + 1 - k) k ∧ Below W.heap.size W wr) (fun i _ => l.length + 1 - (intOf i).toNat)
      case atStart => exact ⟨0, by omega, rfl, rfl, Below.refl _ _⟩
      case round =>
        obtain ⟨k, hk, rfl, hf, hC⟩ := hrel
        have HF := Lib.hid hf
        clear hf
        by_cases hlt : k < l.length + 1
        · have hst := Lib.hid (firstOf_step hlt HF.out)
          have r0 := cell_regrown (below_cell hC q0)
          have r1 := cell_regrown (below_cell hC q1)
          have r2 := cell_regrown (below_cell hC q2)
          have HC := Lib.hid (HCALL.out wr hC k (by omega))
          cases gp : ndP may least asked l k
          all_goals
            rw [gp] at HC
            go_wp2
            refine wp_region_quiet_below (by kernel_rfl) (by kernel_rfl) ?_
            repeat (go_big_quiet_step ((go_at_call 19; (with_reducible exact Calls.regrown_of (HC.out _ _ _)))))
            refine wpQuiet_nil ?_
            intro w3 hw'regrown
            replace hC := ext_trans hC (below_of_regrown hw'regrown (Nat.le_refl _))
            clear hw'regrown r0 r1 r2
            go_wp2
          · go_roundw
            case rel => exact ⟨k + 1, by omega, by go_num, by rw [hst.out, gp]; simp, hC⟩
            case measure => simp [intOf]; omega
          · go_ret
            exact ⟨ret_int (by rw [HA.out, hst.out, gp]; simp), hB0.trans (hC.mono hB0.size)⟩
        · have HK : Hid (-1 = ndAt may least asked l) := Lib.hid (by rw [HA.out, HF.out, show l.length + 1 - k = 0 by omega, firstOf])
          go_wp2
          go_ret
          exact ⟨ret_int HK.out, hB0.trans (hC.mono hB0.size)⟩

end Go.Proofs.Ytbkjolbgnkpjpaa
