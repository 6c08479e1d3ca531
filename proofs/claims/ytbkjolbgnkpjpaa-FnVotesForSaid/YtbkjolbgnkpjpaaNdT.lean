/- Needs: conversions, comparison, marks. -/
import Derived.Test.YtbkjolbgnkpjpaaNdB
namespace Go.Proofs.Ytbkjolbgnkpjpaa
open Go.RowKit

set_option maxHeartbeats 1000000 in
theorem szNeed_any {A : Option Addr} {may : IL} {c : Nat} {least asked left : Int} {w : World} (hU : ilR w A may) (hl : 0 ≤ left) (hl2 : left ≤ 1048576) :
    Calls Try.prog 15 #[.agg #[.slice A may.length c, .int .i64 least, .int .i64 asked], .int .i64 left] w fun e w' => e = .returned (.int .i64 (if left < may.length then -1 else left - may.length)) ∧ Below w.heap.size w w' := by
  have hlen := hU.len
  have hB := below_alloc w (.cells #[.slice A may.length c, .int .i64 least, .int .i64 asked] 30)
  replace hU := hU.below hB
  have q0 := box_cell w #[.slice A may.length c, .int .i64 least, .int .i64 asked] 30 0 (.slice A may.length c) rfl
  by_cases h1 : left < may.length
  · rw [if_pos h1]
    go_enter Try.func15, Try.ntmps15
    go_wp2_with fail
    refine (szIntS_any hU (by omega) (by omega)).mono ?_
    rintro e w1 ⟨rfl, hBc⟩
    replace hB := ext_trans hB hBc
    clear hBc
    rw [if_pos h1]
    go_wp2
    go_ret
    exact ⟨rfl, hB⟩
  · rw [if_neg h1]
    go_enter Try.func15, Try.ntmps15
    go_wp2_with fail
    refine (szIntS_any hU (by omega) (by omega)).mono ?_
    rintro e w1 ⟨rfl, hBc⟩
    replace hB := ext_trans hB hBc
    clear hBc
    rw [if_neg (by omega)]
    go_wp2
    go_ret
    exact ⟨rfl, hB⟩

set_option maxHeartbeats 1000000 in
theorem eqNeed_any {A A' : Option Addr} {may may' : IL} {c c' : Nat} {least asked least' asked' : Int} {w : World} (hU : ilR w A may) (hU' : ilR w A' may') :
    Calls Try.prog 17 #[.agg #[.slice A may.length c, .int .i64 least, .int .i64 asked], .agg #[.slice A' may'.length c', .int .i64 least', .int .i64 asked']] w fun e w' => e = .returned (.bool (sameB (may, least, asked) (may', least', asked'))) ∧ Below w.heap.size w w' := by
  obtain ⟨W1, hW1⟩ : ∃ W, W = w.alloc (.cells #[.slice A may.length c, .int .i64 least, .int .i64 asked] 25) := ⟨_, rfl⟩
  obtain ⟨W, hW⟩ : ∃ W, W = W1.alloc (.cells #[.slice A' may'.length c', .int .i64 least', .int .i64 asked'] 25) := ⟨_, rfl⟩
  have hB1 : Below w.heap.size w W1 := by rw [hW1]; exact below_alloc _ _
  have hB2 : Below W1.heap.size W1 W := by rw [hW]; exact below_alloc _ _
  have hs : w.heap.size + 1 = W1.heap.size := by rw [hW1]; simp
  have q0 : W.cell? ⟨w.heap.size, 0, none⟩ = some (.slice A may.length c) := below_cell hB2 (by rw [hW1]; exact box_cell_at rfl rfl)
  have q1 : W.cell? ⟨w.heap.size, 1, none⟩ = some (.int .i64 least) := below_cell hB2 (by rw [hW1]; exact box_cell_at rfl rfl)
  have q2 : W.cell? ⟨w.heap.size, 2, none⟩ = some (.int .i64 asked) := below_cell hB2 (by rw [hW1]; exact box_cell_at rfl rfl)
  have r0 : W.cell? ⟨w.heap.size + 1, 0, none⟩ = some (.slice A' may'.length c') := by rw [hW]; exact box_cell_at hs rfl
  have r1 : W.cell? ⟨w.heap.size + 1, 1, none⟩ = some (.int .i64 least') := by rw [hW]; exact box_cell_at hs rfl
  have r2 : W.cell? ⟨w.heap.size + 1, 2, none⟩ = some (.int .i64 asked') := by rw [hW]; exact box_cell_at hs rfl
  have hB := ext_trans hB1 hB2
  replace hU := hU.below hB
  replace hU' := hU'.below hB
  have HW1 := Lib.hid hW1
  have HW := Lib.hid hW
  clear hW1 hW hs hB1 hB2
  cases g1 : sameB may may'
  · go_enter Try.func17, Try.ntmps17
    go_wp2_with fail
    rw [← HW1.out, ← HW.out]
    refine (eqIntS_any hU hU').mono ?_
    rintro e w1 ⟨rfl, hBc⟩
    rw [g1]
    go_wp2
    go_ret
    exact ⟨ret_bool (by rw [eq_comm, sameB_false]; rw [sameB_false] at g1; simp [g1]), ext_trans hB hBc⟩
  · rw [sameB_true] at g1
    subst g1
    have hc : (least ≠ least') ∨ (least = least' ∧ asked ≠ asked') ∨ (least = least' ∧ asked = asked') := by omega
    have HC := Lib.hid hc
    cases g2 : (least != least')
    · cases g3 : (asked != asked')
      all_goals
        go_enter Try.func17, Try.ntmps17
        go_wp2_with fail
        rw [← HW1.out, ← HW.out]
        refine (eqIntS_any hU hU').mono ?_
        rintro e w1 ⟨rfl, hBc⟩
        rw [sameB_self]
        replace q1 := below_cell hBc q1
        replace q2 := below_cell hBc q2
        replace r1 := below_cell hBc r1
        replace r2 := below_cell hBc r2
        go_wp2
        go_ret
        refine ⟨ret_bool ?_, ext_trans hB hBc⟩
        simp at g2 g3
        simp [sameB, g2, g3]
    · go_enter Try.func17, Try.ntmps17
      go_wp2_with fail
      rw [← HW1.out, ← HW.out]
      refine (eqIntS_any hU hU').mono ?_
      rintro e w1 ⟨rfl, hBc⟩
      rw [sameB_self]
      replace q1 := below_cell hBc q1
      replace q2 := below_cell hBc q2
      replace r1 := below_cell hBc r1
      replace r2 := below_cell hBc r2
      go_wp2
      go_ret
      refine ⟨ret_bool ?_, ext_trans hB hBc⟩
      simp at g2
      simp [sameB, g2]

set_option maxHeartbeats 1000000 in
theorem toNeed_any {A : Option Addr} {may : IL} {c : Nat} {least asked : Int} {w : World} (hU : ilR w A may) (hn : may.length ≤ 2097152) :
    Calls Try.prog 16 #[.agg #[.slice A may.length c, .int .i64 least, .int .i64 asked]] w fun e w' => ∃ g, e = .returned (.agg #[.slice (some ⟨g, 0, none⟩) may.length may.length, .int .i64 least, .int .i64 asked]) ∧
      w'.ownsRow w.heap.size 3 1 (.slice (some ⟨g, 0, none⟩) may.length may.length) may.length (may.flatMap ilEnc) ∧ Below w.heap.size w w' := by
  obtain ⟨W1, hW1⟩ : ∃ W, W = w.alloc (.cells #[.slice A may.length c, .int .i64 least, .int .i64 asked] 30) := ⟨_, rfl⟩
  obtain ⟨W2, hW2⟩ : ∃ W, W = W1.alloc (.cells #[.slice Option.none 0 0, .int .i64 0, .int .i64 0] 25) := ⟨_, rfl⟩
  obtain ⟨W, hW⟩ : ∃ W, W = W2.alloc (.cells #[.slice Option.none 0 0, .int .i64 0, .int .i64 0] 25) := ⟨_, rfl⟩
  have hB1 : Below w.heap.size w W1 := by rw [hW1]; exact below_alloc _ _
  have hB2 : Below W1.heap.size W1 W2 := by rw [hW2]; exact below_alloc _ _
  have hB3 : Below W2.heap.size W2 W := by rw [hW]; exact below_alloc _ _
  have hs1 : w.heap.size + 1 = W1.heap.size := by rw [hW1]; simp
  have hs2 : w.heap.size + 2 = W2.heap.size := by rw [hW2]; simp; omega
  have hB := ext_trans hB1 (ext_trans hB2 hB3)
  have q0 : W.cell? ⟨w.heap.size, 0, none⟩ = some (.slice A may.length c) := below_cell (ext_trans hB2 hB3) (by rw [hW1]; exact box_cell_at rfl rfl)
  have q1 : W.cell? ⟨w.heap.size, 1, none⟩ = some (.int .i64 least) := below_cell (ext_trans hB2 hB3) (by rw [hW1]; exact box_cell_at rfl rfl)
  have q2 : W.cell? ⟨w.heap.size, 2, none⟩ = some (.int .i64 asked) := below_cell (ext_trans hB2 hB3) (by rw [hW1]; exact box_cell_at rfl rfl)
  have b2 : W.heap[w.heap.size + 1]? = some (.cells #[.slice Option.none 0 0, .int .i64 0, .int .i64 0] 25 (0, 0)) := (hB3.block _ (by rw [← hs2]; omega)).trans (by rw [hW2]; exact heap_alloc_at hs1)
  have b3 : W.heap[w.heap.size + 2]? = some (.cells #[.slice Option.none 0 0, .int .i64 0, .int .i64 0] 25 (0, 0)) := by rw [hW]; exact heap_alloc_at hs2
  replace hU := hU.below hB
  have HW1 := Lib.hid hW1
  have HW2 := Lib.hid hW2
  have HW := Lib.hid hW
  have HB2 := Lib.hid b2
  have HB3 := Lib.hid b3
  clear hW1 hW2 hW hs1 hs2 hB1 hB2 hB3 b2 b3
  go_enter Try.func16, Try.ntmps16
  go_wp2_with fail
  rw [← HW1.out, ← HW2.out, ← HW.out]
  refine (toIntS_any hU hn).mono ?_
  rintro e w1 ⟨rfl, ho, hBc⟩
  have hg0 : W.heap.size ≤ w1.heap.size := hBc.size
  have b2 := (hBc.block _ (Array.getElem?_eq_some_iff.1 HB2.out).1).trans HB2.out
  have b3 := (hBc.block _ (Array.getElem?_eq_some_iff.1 HB3.out).1).trans HB3.out
  replace q1 := below_cell hBc q1
  replace q2 := below_cell hBc q2
  have c0 : w1.cell? ⟨w.heap.size + 1 + 1, 0, none⟩ = some (.slice Option.none 0 0) := (cell_of_row w1 _ 0 _ _ _ b3).trans rfl
  have c1 : w1.cell? ⟨w.heap.size + 1 + 1, 1, none⟩ = some (.int .i64 0) := (cell_of_row w1 _ 1 _ _ _ b3).trans rfl
  have c2 : w1.cell? ⟨w.heap.size + 1 + 1, 2, none⟩ = some (.int .i64 0) := (cell_of_row w1 _ 2 _ _ _ b3).trans rfl
  have f0 : w1.frozen? ⟨w.heap.size + 1 + 1, 0, none⟩ = false := frozen_of_row w1 _ 0 _ _ b3
  have f1 : w1.frozen? ⟨w.heap.size + 1 + 1, 1, none⟩ = false := frozen_of_row w1 _ 1 _ _ b3
  have f2 : w1.frozen? ⟨w.heap.size + 1 + 1, 2, none⟩ = false := frozen_of_row w1 _ 2 _ _ b3
  have d0 : w1.cell? ⟨w.heap.size + 1, 0, none⟩ = some (.slice Option.none 0 0) := (cell_of_row w1 _ 0 _ _ _ b2).trans rfl
  have d1 : w1.cell? ⟨w.heap.size + 1, 1, none⟩ = some (.int .i64 0) := (cell_of_row w1 _ 1 _ _ _ b2).trans rfl
  have d2 : w1.cell? ⟨w.heap.size + 1, 2, none⟩ = some (.int .i64 0) := (cell_of_row w1 _ 2 _ _ _ b2).trans rfl
  have e0 : w1.frozen? ⟨w.heap.size + 1, 0, none⟩ = false := frozen_of_row w1 _ 0 _ _ b2
  have e1 : w1.frozen? ⟨w.heap.size + 1, 1, none⟩ = false := frozen_of_row w1 _ 1 _ _ b2
  have e2 : w1.frozen? ⟨w.heap.size + 1, 2, none⟩ = false := frozen_of_row w1 _ 2 _ _ b2
  have hlt3 : w.heap.size + 2 < W.heap.size := (Array.getElem?_eq_some_iff.1 HB3.out).1
  clear b2 b3 HB2 HB3
  go_wp2
  refine bodyPost_ret (v := .agg #[.slice (some ⟨W.heap.size, 0, none⟩) may.length may.length, .int .i64 least, .int .i64 asked]) (by simp only [results, Try.results16]; go_simp) rfl ⟨W.heap.size, rfl, ?_, ?_⟩
  · have h1 := own_apart (own_lower ho hB.size) (setCells_grown (w.heap.size + 1 + 1) [.slice (some ⟨W.heap.size, 0, none⟩) may.length may.length, .int .i64 least, .int .i64 asked] w1 0) (fun k hk => by cases hk; show W.heap.size ≠ _; omega)
    exact own_apart h1 (setCells_grown (w.heap.size + 1) [.slice (some ⟨W.heap.size, 0, none⟩) may.length may.length, .int .i64 least, .int .i64 asked] _ 0) (fun k hk => by cases hk; show W.heap.size ≠ _; omega)
  · exact setCells_below (g := w.heap.size + 1) (by omega) [.slice (some ⟨W.heap.size, 0, none⟩) may.length may.length, .int .i64 least, .int .i64 asked] 0 (setCells_below (g := w.heap.size + 1 + 1) (by omega) [.slice (some ⟨W.heap.size, 0, none⟩) may.length may.length, .int .i64 least, .int .i64 asked] 0 (ext_trans hB hBc))

set_option maxHeartbeats 1000000 in
theorem markNeed_any {A : Option Addr} {may : IL} {B c : Nat} {least asked k0 : Int} {w : World} (ho : w.ownsRow B 3 1 (.slice A may.length c) may.length (may.flatMap ilEnc)) (hn : may.length ≤ 4194304) (hk0 : 0 ≤ k0) (hk1 : k0 ≤ 100000000) :
    Calls Try.prog 32 #[.agg #[.slice A may.length c, .int .i64 least, .int .i64 asked], .int .i64 k0] w fun e w' => e = .returned (.int .i64 (k0 + may.length)) ∧ w.grownBy w' (Value.slice A may.length c).ownBlock := by
  have hb0 := below_alloc w (.cells #[.slice A may.length c, .int .i64 least, .int .i64 asked] 25)
  have hg : w.grownBy (w.alloc (.cells #[.slice A may.length c, .int .i64 least, .int .i64 asked] 25)) (Value.slice A may.length c).ownBlock := ⟨hb0.os, hb0.tape, hb0.output, hb0.size, fun k hk _ => hb0.block k hk⟩
  clear hb0
  have q0 := box_cell w #[.slice A may.length c, .int .i64 least, .int .i64 asked] 25 0 (.slice A may.length c) rfl
  replace ho := own_below ho (below_alloc w (.cells #[.slice A may.length c, .int .i64 least, .int .i64 asked] 25))
  go_enter Try.func32, Try.ntmps32
  go_wp2_with fail
  refine (markIntS_any ho hn hk0 hk1).mono ?_
  rintro e w1 ⟨rfl, _, hG⟩
  go_wp2
  go_ret
  exact ⟨rfl, grown_trans_ hg hG⟩

/-- A need of one's own. -/
def NdV (B : Nat) (may : IL) (least asked : Int) (w : World) (v : Value) : Prop := ∃ g, v = .agg #[.slice (some ⟨g, 0, Option.none⟩) may.length may.length, .int .i64 least, .int .i64 asked] ∧ w.ownsRow B 3 1 (.slice (some ⟨g, 0, Option.none⟩) may.length may.length) may.length (may.flatMap ilEnc)
theorem NdV.below {B : Nat} {may : IL} {least asked : Int} {w w' : World} {v : Value} (h : NdV B may least asked w v) (hb : Below w.heap.size w w') : NdV B may least asked w' v := let ⟨g, h1, h2⟩ := h; ⟨g, h1, own_below h2 hb⟩
end Go.Proofs.Ytbkjolbgnkpjpaa
