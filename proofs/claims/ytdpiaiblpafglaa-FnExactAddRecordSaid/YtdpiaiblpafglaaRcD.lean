/- Right records. -/
import Derived.Test.YtdpiaiblpafglaaRcC
import Derived.Test.YtdpiaiblpafglaaFst
namespace Go.Proofs.Ytdpiaiblpafglaa
set_option linter.unusedSimpArgs false
set_option linter.unusedVariables false
open Go.RowKit

def rcSealR (before : Int) (r : Rc) : Int := rcSeal before (rtm r) (rwho r) (ract r) (rwhat r) (ral r)
/-- The seal ahead of a record. -/
def sealAt (l : RcL) : Nat → Int
  | 0 => 1
  | k + 1 => rcSealR (sealAt l k) (rcAt l k)
def rcGood (l : RcL) (k : Nat) : Bool := decide (0 ≤ sealAt l (k + 1)) && (decide (sealAt l (k + 1) = rc6 l k) && decide (0 < k → rc0 l (k - 1) ≤ rc0 l k))
def rcBad (l : RcL) (k : Nat) : Bool := !rcGood l k
def rcRight (l : RcL) : Int := if 20 < l.length then -2 else firstOf (rcBad l) l.length 0
/-- The time ahead of a record. -/
def tmAt (l : RcL) (k : Nat) : Int := if k = 0 then 0 else rc0 l (k - 1)
theorem sealAt_succ (l : RcL) (k : Nat) : sealAt l (k + 1) = rcSeal (sealAt l k) (rc0 l k) (rc1 l k) (rc2 l k) (rc3 l k) (rc5 l k) := rfl
theorem rcSeal_time {before tm who act what : Int} {al : Bool} (h : 0 ≤ rcSeal before tm who act what al) : 0 ≤ tm := by
  unfold rcSeal at h
  split at h
  · rename_i h1; exact (rcOk_bounds h1).2.1.1
  · omega
theorem rcGood_cases (l : RcL) (k : Nat) (n : Int) (hn : n = sealAt l (k + 1)) :
    (decide (n < 0) = true ∧ rcBad l k = true) ∨ (decide (n < 0) = false ∧ (n != rc6 l k) = true ∧ rcBad l k = true) ∨
    (decide (n < 0) = false ∧ (n != rc6 l k) = false ∧ 0 < k ∧ decide (rc0 l k < rc0 l (k - 1)) = true ∧ rcBad l k = true) ∨
    (decide (n < 0) = false ∧ (n != rc6 l k) = false ∧ 0 < k ∧ decide (rc0 l k < rc0 l (k - 1)) = false ∧ rcBad l k = false) ∨
    (decide (n < 0) = false ∧ (n != rc6 l k) = false ∧ k = 0 ∧ 0 ≤ rc0 l k ∧ rcBad l k = false) := by
  unfold rcBad rcGood
  rw [← hn]
  by_cases h1 : n < 0
  · left; simp [h1, show ¬ 0 ≤ n by omega]
  · have h1' : 0 ≤ n := by omega
    by_cases h2 : n = rc6 l k
    · rcases Nat.eq_zero_or_pos k with h3 | h3
      · refine .inr (.inr (.inr (.inr ⟨by simp [h1], by simp [h2], h3, ?_, ?_⟩)))
        · rw [hn, sealAt_succ] at h1'
          exact rcSeal_time h1'
        · simp [← h2, h1', show ¬ 0 < k by omega]
      · by_cases h4 : rc0 l k < rc0 l (k - 1)
        · exact .inr (.inr (.inl ⟨by simp [h1], by simp [h2], h3, by simp [h4], by simp [← h2, h1', h3, h4]⟩))
        · exact .inr (.inr (.inr (.inl ⟨by simp [h1], by simp [h2], h3, by simp [h4], by simp [← h2, h1', h3]; omega⟩)))
    · exact .inr (.inl ⟨by simp [h1], by simp [h2], by simp [h1', h2]⟩)
theorem tmAt_cases {l : RcL} {k : Nat} {t : Int} (ht : t = tmAt l k) (n : Int) (hn : n = sealAt l (k + 1)) :
    (decide (n < 0) = true ∧ rcBad l k = true) ∨ (decide (n < 0) = false ∧ (n != rc6 l k) = true ∧ rcBad l k = true) ∨
    (decide (n < 0) = false ∧ (n != rc6 l k) = false ∧ decide (rc0 l k < t) = true ∧ rcBad l k = true) ∨
    (decide (n < 0) = false ∧ (n != rc6 l k) = false ∧ decide (rc0 l k < t) = false ∧ rcBad l k = false) := by
  rcases rcGood_cases l k n hn with h | h | ⟨h1, h2, h3, h4, h5⟩ | ⟨h1, h2, h3, h4, h5⟩ | ⟨h1, h2, h3, h4, h5⟩
  · exact .inl h
  · exact .inr (.inl h)
  · exact .inr (.inr (.inl ⟨h1, h2, by rw [ht, tmAt, if_neg (by omega)]; exact h4, h5⟩))
  · exact .inr (.inr (.inr ⟨h1, h2, by rw [ht, tmAt, if_neg (by omega)]; exact h4, h5⟩))
  · exact .inr (.inr (.inr ⟨h1, h2, by rw [ht, tmAt, if_pos h3]; simp; exact h4, h5⟩))

set_option maxRecDepth 100000 in
set_option maxHeartbeats 4000000 in
theorem implRecordsRight {A : Option Addr} {l : RcL} {c : Nat} {w : World} (hU : rcR w A l) :
    Calls Try.prog 16 #[.slice A l.length c] w fun e w' => e = .returned (.int .i64 (rcRight l)) ∧ Below w.heap.size w w' := by
  have hl := hU.len
  by_cases g2 : 20 < l.length
  · have HA : Hid (rcRight l = -2) := Lib.hid (by rw [rcRight, if_pos g2])
    go_enter Try.func16, Try.ntmps16
    go_wp2
    go_ret
    exact ⟨ret_int HA.out.symm, Below.refl _ _⟩
  · have HA : Hid (rcRight l = firstOf (rcBad l) l.length 0) := Lib.hid (by rw [rcRight, if_neg g2])
    go_enter Try.func16, Try.ntmps16
    go_wp2
    go_loopw [3, 4, 13] (fun bv tv iv wr => ∃ (k : Nat) (b t : Int), k ≤ l.length ∧ iv = .int .i64 k ∧ bv = .int .i64 b ∧ tv = .int .i64 t ∧ b = sealAt l k ∧ t = tmAt l k ∧ firstOf (rcBad l) l.length 0 = firstOf (rcBad l) (l.length - k) k ∧ Below w.heap.size w wr) (fun _ _ iv _ => l.length - (intOf iv).toNat)
    case atStart => exact ⟨0, 1, 0, by omega, rfl, rfl, rfl, rfl, rfl, rfl, Below.refl _ _⟩
    case round =>
      obtain ⟨k, b, t, hk, rfl, rfl, rfl, hb, ht, hf, hC⟩ := hrel
      have HF := Lib.hid hf
      have HB := Lib.hid hb
      have HT := Lib.hid ht
      clear hf hb ht
      by_cases hlt : k < l.length
      · have HST := Lib.hid (firstOf_step hlt HF.out)
        obtain ⟨bb, off, rfl, hc⟩ := hU.cells (by omega)
        obtain ⟨A', c', _, c0, c1, c2, c3, c4, c5, c6⟩ := hc k hlt
        replace c0 := below_cell hC c0
        replace c1 := below_cell hC c1
        replace c2 := below_cell hC c2
        replace c3 := below_cell hC c3
        replace c4 := below_cell hC c4
        replace c5 := below_cell hC c5
        replace c6 := below_cell hC c6
        have x0 := box_cell wr #[.int .i64 (rc0 l k), .int .i64 (rc1 l k), .int .i64 (rc2 l k), .int .i64 (rc3 l k), .slice A' (rc4 l k).length c', .bool (rc5 l k), .int .i64 (rc6 l k)] 27 0 (.int .i64 (rc0 l k)) rfl
        have x6 := box_cell wr #[.int .i64 (rc0 l k), .int .i64 (rc1 l k), .int .i64 (rc2 l k), .int .i64 (rc3 l k), .slice A' (rc4 l k).length c', .bool (rc5 l k), .int .i64 (rc6 l k)] 27 6 (.int .i64 (rc6 l k)) rfl
        have hb0 := below_alloc wr (.cells #[.int .i64 (rc0 l k), .int .i64 (rc1 l k), .int .i64 (rc2 l k), .int .i64 (rc3 l k), .slice A' (rc4 l k).length c', .bool (rc5 l k), .int .i64 (rc6 l k)] 27)
        obtain ⟨X, hX⟩ : ∃ X, X = wr.alloc (.cells #[.int .i64 (rc0 l k), .int .i64 (rc1 l k), .int .i64 (rc2 l k), .int .i64 (rc3 l k), .slice A' (rc4 l k).length c', .bool (rc5 l k), .int .i64 (rc6 l k)] 27) := ⟨_, rfl⟩
        obtain ⟨g, hg⟩ : ∃ g, g = wr.heap.size := ⟨_, rfl⟩
        rw [← hX] at x0 x6 hb0
        rw [← hg] at x0 x6
        have d0 : X.cell? ⟨g, 0, none⟩ = some (.int .i64 (rc0 l k)) := x0
        have d1 : X.cell? ⟨g, 1, none⟩ = some (.int .i64 (rc1 l k)) := by rw [hX, hg]; exact box_cell _ _ _ 1 _ rfl
        have d2 : X.cell? ⟨g, 2, none⟩ = some (.int .i64 (rc2 l k)) := by rw [hX, hg]; exact box_cell _ _ _ 2 _ rfl
        have d3 : X.cell? ⟨g, 3, none⟩ = some (.int .i64 (rc3 l k)) := by rw [hX, hg]; exact box_cell _ _ _ 3 _ rfl
        have d4 : X.cell? ⟨g, 4, none⟩ = some (.slice A' (rc4 l k).length c') := by rw [hX, hg]; exact box_cell _ _ _ 4 _ rfl
        have d5 : X.cell? ⟨g, 5, none⟩ = some (.bool (rc5 l k)) := by rw [hX, hg]; exact box_cell _ _ _ 5 _ rfl
        have hC1 := ext_trans hC hb0
        have HX := Lib.hid hX
        have HG := Lib.hid hg
        clear hc hX hg hb0
        go_wp2_with fail
        rw [← HX.out, ← HG.out]
        refine implRecordSeal.mono ?_
        rintro e w1 ⟨rfl, hb⟩
        obtain ⟨n, hn⟩ : ∃ n, n = rcSeal b (rc0 l k) (rc1 l k) (rc2 l k) (rc3 l k) (rc5 l k) := ⟨_, rfl⟩
        rw [← hn]
        have hn2 : n = sealAt l (k + 1) := by rw [hn, sealAt_succ, HB.out]
        replace hC1 := ext_trans hC1 hb
        replace x0 := below_cell hb x0
        replace x6 := below_cell hb x6
        have y0 := cell_regrown x0
        clear hb c0 c1 c2 c3 c4 c5 c6 d0 d1 d2 d3 d4 d5 hn hC
        have hcase := tmAt_cases HT.out n hn2
        have HN := Lib.hid hn2
        clear hn2
        rcases hcase with ⟨g1, g5⟩ | ⟨g1, g2, g5⟩ | ⟨g1, g2, g3, g5⟩ | ⟨g1, g2, g3, g5⟩
        all_goals
          have HG5 := Lib.hid g5
          clear g5
          go_wp2
        · go_ret
          exact ⟨ret_int (by rw [HA.out, HST.out, HG5.out]; simp), hC1⟩
        · go_ret
          exact ⟨ret_int (by rw [HA.out, HST.out, HG5.out]; simp), hC1⟩
        · go_ret
          exact ⟨ret_int (by rw [HA.out, HST.out, HG5.out]; simp), hC1⟩
        · skip
          refine wp_region_quiet_below (by kernel_rfl) (by kernel_rfl) ?_
          repeat (go_big_quiet_step (fail))
          refine wpQuiet_nil ?_
          intro w2 hw'regrown
          replace hC1 := ext_trans hC1 (below_of_regrown hw'regrown (Nat.le_refl _))
          clear hw'regrown
          go_wp2
          go_roundw
          case rel => exact ⟨k + 1, n, rc0 l k, by omega, by go_num, rfl, rfl, HN.out, by simp [tmAt], by rw [HST.out, HG5.out]; simp, hC1⟩
          case measure => simp [intOf]; omega
      · obtain rfl : k = l.length := by omega
        go_wp2
        go_ret
        exact ⟨ret_int (by rw [HA.out, HF.out, Nat.sub_self, firstOf]), hC⟩

set_option maxRecDepth 100000 in
set_option maxHeartbeats 4000000 in
theorem specRecordsRight {A : Option Addr} {l : RcL} {c : Nat} {w : World} (hU : rcR w A l) :
    Calls Try.prog 17 #[.slice A l.length c] w fun e w' => e = .returned (.int .i64 (rcRight l)) ∧ Below w.heap.size w w' := by
  have hl := hU.len
  by_cases g2 : 20 < l.length
  · have HA : Hid (rcRight l = -2) := Lib.hid (by rw [rcRight, if_pos g2])
    go_enter Try.func17, Try.ntmps17
    go_wp2
    go_ret
    exact ⟨ret_int HA.out.symm, Below.refl _ _⟩
  · have HA : Hid (rcRight l = firstOf (rcBad l) l.length 0) := Lib.hid (by rw [rcRight, if_neg g2])
    go_enter Try.func17, Try.ntmps17
    go_wp2
    go_loopw [3, 4] (fun bv iv wr => ∃ (k : Nat) (b : Int), k ≤ l.length ∧ iv = .int .i64 k ∧ bv = .int .i64 b ∧ b = sealAt l k ∧ firstOf (rcBad l) l.length 0 = firstOf (rcBad l) (l.length - k) k ∧ Below w.heap.size w wr) (fun _ iv _ => l.length - (intOf iv).toNat)
    case atStart => exact ⟨0, 1, by omega, rfl, rfl, rfl, rfl, Below.refl _ _⟩
    case round =>
      obtain ⟨k, b, hk, rfl, rfl, hb, hf, hC⟩ := hrel
      have HF := Lib.hid hf
      have HB := Lib.hid hb
      clear hf hb
      by_cases hlt : k < l.length
      · have HST := Lib.hid (firstOf_step hlt HF.out)
        obtain ⟨bb, off, rfl, hc⟩ := hU.cells (by omega)
        obtain ⟨A', c', _, c0, c1, c2, c3, c4, c5, c6⟩ := hc k hlt
        obtain ⟨_, _, _, p0, _⟩ := hc (k - 1) (by omega)
        replace c0 := below_cell hC c0
        replace c1 := below_cell hC c1
        replace c2 := below_cell hC c2
        replace c3 := below_cell hC c3
        replace c4 := below_cell hC c4
        replace c5 := below_cell hC c5
        replace c6 := below_cell hC c6
        replace p0 := below_cell hC p0
        clear hc
        go_wp2_with fail
        refine specRecordSeal.mono ?_
        rintro e w1 ⟨rfl, hb⟩
        obtain ⟨n, hn⟩ : ∃ n, n = rcSeal b (rc0 l k) (rc1 l k) (rc2 l k) (rc3 l k) (rc5 l k) := ⟨_, rfl⟩
        rw [← hn]
        have hn2 : n = sealAt l (k + 1) := by rw [hn, sealAt_succ, HB.out]
        replace hC := ext_trans hC hb
        have y0 := cell_regrown (below_cell hb c0)
        have y6 := cell_regrown (below_cell hb c6)
        have z0 := cell_regrown (below_cell hb p0)
        clear hb c0 c1 c2 c3 c4 c5 c6 p0 hn
        have hcase := rcGood_cases l k n hn2
        have HN := Lib.hid hn2
        clear hn2
        rcases hcase with ⟨g1, g5⟩ | ⟨g1, g2, g5⟩ | ⟨g1, g2, g0, g3, g5⟩ | ⟨g1, g2, g0, g3, g5⟩ | ⟨g1, g2, g0, g3, g5⟩
        · have HG5 := Lib.hid g5
          clear g5 z0
          go_wp2
          refine wp_region_quiet_below (by kernel_rfl) (by kernel_rfl) ?_
          repeat (go_big_quiet_step (fail))
          refine wpQuiet_nil ?_
          intro w2 hw'regrown
          replace hC := ext_trans hC (below_of_regrown hw'regrown (Nat.le_refl _))
          clear hw'regrown
          go_wp2
          go_ret
          exact ⟨ret_int (by rw [HA.out, HST.out, HG5.out]; simp), hC⟩
        · have HG5 := Lib.hid g5
          clear g5 z0
          go_wp2
          refine wp_region_quiet_below (by kernel_rfl) (by kernel_rfl) ?_
          repeat (go_big_quiet_step (fail))
          refine wpQuiet_nil ?_
          intro w2 hw'regrown
          replace hC := ext_trans hC (below_of_regrown hw'regrown (Nat.le_refl _))
          clear hw'regrown
          go_wp2
          go_ret
          exact ⟨ret_int (by rw [HA.out, HST.out, HG5.out]; simp), hC⟩
        · have HG5 := Lib.hid g5
          have g4 : decide (0 < k) = true := by simp; omega
          clear g5
          go_wp2
          refine wp_region_quiet_below (by kernel_rfl) (by kernel_rfl) ?_
          repeat (go_big_quiet_step (fail))
          refine wpQuiet_nil ?_
          intro w2 hw'regrown
          replace hC := ext_trans hC (below_of_regrown hw'regrown (Nat.le_refl _))
          clear hw'regrown
          go_wp2
          go_ret
          exact ⟨ret_int (by rw [HA.out, HST.out, HG5.out]; simp), hC⟩
        · have HG5 := Lib.hid g5
          have g4 : decide (0 < k) = true := by simp; omega
          clear g5
          go_wp2
          refine wp_region_quiet_below (by kernel_rfl) (by kernel_rfl) ?_
          repeat (go_big_quiet_step (fail))
          refine wpQuiet_nil ?_
          intro w2 hw'regrown
          replace hC := ext_trans hC (below_of_regrown hw'regrown (Nat.le_refl _))
          clear hw'regrown
          go_wp2
          go_roundw
          case rel => exact ⟨k + 1, n, by omega, by go_num, rfl, HN.out, by rw [HST.out, HG5.out]; simp, hC⟩
          case measure => simp [intOf]; omega
        · have HG5 := Lib.hid g5
          have g4 : decide (0 < k) = false := by simp; omega
          clear g5 g3 g0 z0
          go_wp2
          refine wp_region_quiet_below (by kernel_rfl) (by kernel_rfl) ?_
          repeat (go_big_quiet_step (fail))
          refine wpQuiet_nil ?_
          intro w2 hw'regrown
          replace hC := ext_trans hC (below_of_regrown hw'regrown (Nat.le_refl _))
          clear hw'regrown
          go_wp2
          go_roundw
          case rel => exact ⟨k + 1, n, by omega, by go_num, rfl, HN.out, by rw [HST.out, HG5.out]; simp, hC⟩
          case measure => simp [intOf]; omega
      · obtain rfl : k = l.length := by omega
        go_wp2
        go_ret
        exact ⟨ret_int (by rw [HA.out, HF.out, Nat.sub_self, firstOf]), hC⟩
end Go.Proofs.Ytdpiaiblpafglaa
